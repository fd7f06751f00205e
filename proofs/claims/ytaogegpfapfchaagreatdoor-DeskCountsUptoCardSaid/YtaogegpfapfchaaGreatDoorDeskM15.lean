import Derived.Test.YtaogegpfapfchaaGreatDoorDeskM13
import Derived.Test.YtaogegpfapfchaaGreatDoorDeskM14
import Derived.Test.YtaogegpfapfchaaGreatDoorDeskM06
import Derived.Test.YtaogegpfapfchaaGreatDoorDeskM11
import Derived.Test.YtaogegpfapfchaaGreatDoorDeskM10
import Derived.Test.YtaogegpfapfchaaGreatDoorDeskM09
/- Several texts in one: XDiffWalk XDiffLaws XDiffLeast. -/
/- The walks of diff.Cost and diff.Make. -/
namespace Go.Proofs.YtaogegpfapfchaaGreatDoor
open Go.RowKit
set_option linter.unusedVariables false

theorem lastI_cons (i : Nat) (q : Nat × Nat) (R : List (Nat × Nat)) : lastI i (q :: R) = lastI (q.1 + 1) R := by
  unfold lastI
  cases R with
  | nil => rfl
  | cons r R =>
    rw [List.getLast?_cons_cons]
    cases h : (r :: R).getLast? with
    | none => simp at h
    | some p => rfl
theorem lastK_cons (i : Nat) (q : Nat × Nat) (R : List (Nat × Nat)) : lastK i (q :: R) = lastK (q.2 + 1) R := by
  unfold lastK
  cases R with
  | nil => rfl
  | cons r R =>
    rw [List.getLast?_cons_cons]
    cases h : (r :: R).getLast? with
    | none => simp at h
    | some p => rfl
/-- Where the walk stands is not past the next pair. -/
theorem rise_last {s t : List UInt8} : ∀ (P : List (Nat × Nat)) (i k : Nat), Rise s t i k P → i ≤ s.length → k ≤ t.length → ∀ j, j ≤ P.length →
    lastI i ((P ++ [(s.length, t.length)]).take j) ≤ ((P ++ [(s.length, t.length)]).getD j (0, 0)).1 ∧ lastK k ((P ++ [(s.length, t.length)]).take j) ≤ ((P ++ [(s.length, t.length)]).getD j (0, 0)).2 ∧
    ((P ++ [(s.length, t.length)]).getD j (0, 0)).1 ≤ s.length ∧ ((P ++ [(s.length, t.length)]).getD j (0, 0)).2 ≤ t.length
  | [], i, k, _, hi, hk, j, hj => by
    obtain rfl : j = 0 := by simpa using hj
    exact ⟨hi, hk, Nat.le_refl _, Nat.le_refl _⟩
  | p :: P, i, k, h, hi, hk, 0, _ => by
    obtain ⟨m1, m2, m3, m4, m5⟩ := h.mem p (by simp)
    exact ⟨m1, m3, Nat.le_of_lt m2, Nat.le_of_lt m4⟩
  | p :: P, i, k, h, hi, hk, j + 1, hj => by
    obtain ⟨m1, m2, m3, m4, m5⟩ := h.mem p (by simp)
    have := rise_last P (p.1 + 1) (p.2 + 1) h.cons (by omega) (by omega) j (by simpa using hj)
    rw [List.cons_append, List.take_succ_cons, lastI_cons, lastK_cons, List.getD_cons_succ]
    exact this

theorem getD_map_nat (P : List (Nat × Nat)) (f : Nat × Nat → Nat) (j : Nat) (h : j < P.length) : (P.map fun p => ((f p : Nat) : Int)).getD j 0 = ((f (P.getD j (0, 0)) : Nat) : Int) := by
  rw [List.getD_eq_getElem?_getD, List.getElem?_map, List.getElem?_eq_getElem h, List.getD_eq_getElem?_getD, List.getElem?_eq_getElem h]
  rfl

/-- The script. -/
def makeE (a b : ByteArray) : List Ed := diffL b.data.toList 0 0 (placesOf a.data.toList b.data.toList ++ [(a.size, b.size)])

/-- What Make tells. -/
def ToldMake (a b : ByteArray) (w : World) (e : Ending) (w' : World) : Prop :=
  Below w.heap.size w w' ∧ ((ce a b = 0 ∧ cv a b ≤ 20 ∧ ∃ A c, e = .returned (.tuple #[.slice A (makeE a b).length c, .int .i64 0]) ∧ Reads w' w'.heap.size A (makeE a b).length 3 ((makeE a b).flatMap cEdit)) ∨
    (ce a b = 0 ∧ 20 < cv a b ∧ e = .returned (.tuple #[.slice none 0 0, .int .i64 11])) ∨ (ce a b = 2 ∧ e = .returned (.tuple #[.slice none 0 0, .int .i64 2])))

theorem make_no (a b : ByteArray) (w : World) (h : ce a b = 0 → 20 < cv a b) :
    Calls Tryz.prog 56 #[.string a, .string b] w (ToldMake a b w) := by
  have hc := cost_any a b
  unfold ToldMake
  by_cases h0 : ce a b = 0
  · have h20 := h h0
    obtain ⟨hx0, hx1⟩ := cv_bd a b
    rw [h0] at hc
    rw [h0]
    generalize cv a b = x at *
    have q1 : decide (20 < x) = true := decide_eq_true h20
    have HC := Lib.hid hc
    clear hc h h0
    go_enter Tryz.func56, Tryz.ntmps56
    go_wp2_with fail
    refine (HC.out w).mono ?_
    rintro e w1 ⟨rfl, hb1⟩
    go_wp2
    go_ret2
    exact ⟨hb1, by simp [h20]⟩
  · have h2 : ce a b = 2 := by
      unfold ce at h0 ⊢
      by_cases hh : a.size ≤ 200 ∧ b.size ≤ 200
      · rw [if_pos hh] at h0; exact absurd rfl h0
      · rw [if_neg hh]
    rw [h2] at hc
    rw [h2]
    generalize cv a b = x at *
    have HC := Lib.hid hc
    clear hc h h0
    go_enter Tryz.func56, Tryz.ntmps56
    go_wp2_with fail
    refine (HC.out w).mono ?_
    rintro e w1 ⟨rfl, hb1⟩
    go_wp2
    go_ret2
    exact ⟨hb1, by simp⟩

set_option maxRecDepth 100000 in
set_option maxHeartbeats 4000000 in
theorem make_ok (a b : ByteArray) (ha : a.size ≤ 200) (hb : b.size ≤ 200) (h20 : cv a b ≤ 20) (w : World) :
    Calls Tryz.prog 56 #[.string a, .string b] w (ToldMake a b w) := by
  have hc := cost_any a b
  have he := ce_ok ⟨ha, hb⟩
  rw [he] at hc
  have hrl := rise_last (placesOf a.data.toList b.data.toList) 0 0 (rise_all _ _) (Nat.zero_le _) (Nat.zero_le _)
  have hlen : (placesOf a.data.toList b.data.toList).length ≤ a.size := by rw [places_length]; exact lcs_le_left _ _
  have hpw := places_walk a b ha hb
  have hmk : makeE a b = diffL b.data.toList 0 0 (placesOf a.data.toList b.data.toList ++ [(a.size, b.size)]) := rfl
  obtain ⟨hx0, hx1⟩ := cv_bd a b
  rw [show a.data.toList.length = a.size from rfl, show b.data.toList.length = b.size from rfl] at hrl
  unfold ToldMake
  have Hx20 := Lib.hid h20
  have He := Lib.hid he
  generalize makeE a b = M at *
  generalize hP : placesOf a.data.toList b.data.toList = P at *
  generalize hbl : b.data.toList = bl at *
  generalize cv a b = x at *
  obtain ⟨m, hm⟩ : ∃ m, m = P.length := ⟨_, rfl⟩
  rw [← hm] at hrl hlen hpw
  obtain ⟨R, hR⟩ : ∃ R, R = P ++ [(a.size, b.size)] := ⟨_, rfl⟩
  rw [← hR] at hrl hmk
  have hRl : R.length = m + 1 := by rw [hR, hm]; simp
  have hRlt : ∀ j, j < m → R.getD j (0, 0) = P.getD j (0, 0) := fun j hj => by rw [hR, getD_app_left _ _ _ _ (by omega)]
  have hRm : R.getD m (0, 0) = (a.size, b.size) := by rw [hR, hm, getD_app_right _ _ _ _ (Nat.le_refl _), Nat.sub_self]; rfl
  have q1 : decide (20 < x) = false := decide_eq_false (by omega)
  have HC := Lib.hid hc
  have HRL := Lib.hid hrl
  have HPW := Lib.hid hpw
  have HMK := Lib.hid hmk
  have HM := Lib.hid hm
  have HRl := Lib.hid hRl
  have HRlt := Lib.hid hRlt
  have HRm := Lib.hid hRm
  have HBL := Lib.hid hbl
  clear hc hrl hpw hmk hm hR hRl hRlt hRm hP hbl h20 he
  go_enter Tryz.func56, Tryz.ntmps56
  go_wp2_with fail
  refine (HC.out w).mono ?_
  rintro e w1 ⟨rfl, hb1⟩
  go_wp2_with fail
  refine (HPW.out w1).mono ?_
  rintro e w2 ⟨X, cx, Y, cy, rfl, hrx, hry, hb2, hcx, hcy⟩
  have hbw := chain hb2 hb1
  have hsz := hbw.size
  obtain ⟨B, hB⟩ : ∃ B, B = w2.heap.size := ⟨_, rfl⟩
  rw [← hB] at hrx hry
  have hBw : B ≤ w2.heap.size := by omega
  have HB := Lib.hid hB
  clear hb1 hb2 hB
  go_wp2
  go_loopw [11, 12, 13, 14, 15, 16, 38] (fun ov iv kv _ _ _ cv wr => ∃ (j n c' : Nat) (A' : Option Addr), j ≤ m + 1 ∧ cv = .int .i64 (j : Int) ∧ iv = .int .i64 (lastI 0 (R.take j) : Nat) ∧ kv = .int .i64 (lastK 0 (R.take j) : Nat) ∧ ov = .slice A' n c' ∧ n ≤ j ∧ Hid (n = (diffL bl 0 0 (R.take j)).length) ∧
      wr.ownsRow B 73 3 (.slice A' n c') n ((diffL bl 0 0 (R.take j)).flatMap cEdit) ∧ Below B w2 wr)
    (fun _ _ _ _ _ _ cv _ => m + 1 - (intOf cv).toNat)
  case atStart => exact ⟨0, 0, 0, none, Nat.zero_le _, rfl, rfl, rfl, rfl, Nat.le_refl _, Lib.hid rfl, World.ownsRow_nil _ _ _ _, Below.refl _ _⟩
  case round =>
    obtain ⟨j, n, c', A', hj, rfl, rfl, rfl, rfl, hnj, Hn, hown, hbr⟩ := hrel
    have hBr : B ≤ wr.heap.size := Nat.le_trans hBw hbr.size
    by_cases hlt : j < m + 1
    · obtain ⟨r1, r2, r3, r4⟩ := HRL.out j (by omega)
      have htk := take_succ_getD R j (0, 0) (by rw [HRl.out]; exact hlt)
      have hsn := diffL_snoc bl (R.take j) 0 0 (R.getD j (0, 0))
      have hli := lastI_snoc 0 (R.take j) (R.getD j (0, 0))
      have hlk := lastK_snoc 0 (R.take j) (R.getD j (0, 0))
      rw [← htk] at hsn hli hlk
      have hbd := buildEdit
      have hext : ∀ k p : Nat, b.extract k p = e8 ((bl.take p).drop k) := fun k p => by
        have : (b.extract k p).data.toList = (bl.take p).drop k := by rw [Lib.extract_data, HBL.out, List.drop_take]
        rw [← e8_of (b.extract k p), this]
      have Hext := Lib.hid (hext (lastK 0 (R.take j)) (R.getD j (0, 0)).2)
      have Hsn := Lib.hid hsn
      have Hli := Lib.hid hli
      have Hlk := Lib.hid hlk
      clear hsn hli hlk htk hext
      by_cases hjm : j < m
      · have q2 : decide ((j : Int) < (m : Int)) = true := decide_eq_true (by omega)
        have q2' : decide (j < m) = true := decide_eq_true hjm
        obtain ⟨bx, ox, rfl, hbx, hcx0⟩ := (hrx.below hbr).2 (by omega)
        obtain ⟨by_, oy, rfl, hby, hcy0⟩ := (hry.below hbr).2 (by omega)
        have cx0 := hcx0 (j * 1 + 0) (by rw [flat_length cInt 1 cInt_len, px_length, ← HM.out]; omega)
        have cy0 := hcy0 (j * 1 + 0) (by rw [flat_length cInt 1 cInt_len, py_length, ← HM.out]; omega)
        rw [flat_getD cInt 1 cInt_len 0 (px P) j _ (by rw [px_length, ← HM.out]; exact hjm) (by omega)] at cx0
        rw [flat_getD cInt 1 cInt_len 0 (py P) j _ (by rw [py_length, ← HM.out]; exact hjm) (by omega)] at cy0
        simp only [cInt, List.getD_cons_zero, Nat.mul_one, Nat.add_zero] at cx0 cy0
        rw [show (px P).getD j 0 = (((P.getD j (0, 0)).1 : Nat) : Int) from getD_map_nat P (fun p => p.1) j (by rw [← HM.out]; exact hjm), ← HRlt.out j hjm] at cx0
        rw [show (py P).getD j 0 = (((P.getD j (0, 0)).2 : Nat) : Int) from getD_map_nat P (fun p => p.2) j (by rw [← HM.out]; exact hjm), ← HRlt.out j hjm] at cy0
        generalize R.getD j (0, 0) = p at *
        obtain ⟨p1, p2⟩ := p
        simp only at *
        generalize lastI 0 (R.take j) = i at *
        generalize lastK 0 (R.take j) = k at *
        clear hcx0 hcy0
        have hj0 : (0 : Int) ≤ (j : Int) := by omega
        have hjm2 : (j : Int) < (m : Int) := by omega
        have hjc1 : (j : Int) < (cx : Int) := by omega
        have hkp : (k : Int) ≤ (p2 : Int) := by omega
        have hpb : (p2 : Int) ≤ (b.size : Int) := by omega
        go_wp2
        go_quiet (fail)
        have hown := ownsRow_drewN hown nq
        have hbr := below_drewN hbr nq
        have hBr : B ≤ (wr.drewN nq).heap.size := hBr
        clear cx0 cy0
        generalize wr.drewN nq = wq at *
        by_cases hi : i < p1
        · have qa : decide ((i : Int) < (p1 : Int)) = true := decide_eq_true (by omega)
          have qa' : decide (i < p1) = true := decide_eq_true hi
          have hnew := Hsn.out
          rw [if_pos (.inl hi)] at hnew
          have Hnew := Lib.hid hnew
          clear hnew
          go_wp2_with (first | (at_builtin; go_must (refine wpList_append_new _ 68 (.tmp 65) (.tmp 75) rfl rfl B 73 infoEdit Tryz.underlying68 rfl (by decide) A' n c' _ rfl hown #[.int .i64 (i : Int), .int .i64 ((p1 : Int) - i), .string (b.extract k p2)] 1 rfl rfl (by simp [Value.oneCell']) (by unfold maxLen; omega) (by omega) hBr ?_); intro A3 c3 w4 hown4 hb4 hg4))
          go_roundw
          case rel =>
            refine ⟨j + 1, n + 1, c3, A3, by omega, by go_num, by rw [Hli.out]; go_num, by rw [Hlk.out]; go_num, rfl, by omega, Lib.hid (by rw [Hnew.out, List.length_append, ← Hn.out]; rfl), ?_, hbr.trans hb4⟩
            rw [Hnew.out, flat_snoc, ← Hext.out]; exact hown4
          case measure => simp only [intOf]; omega
        · have qa : decide ((i : Int) < (p1 : Int)) = false := decide_eq_false (by omega)
          have qa' : decide (i < p1) = false := decide_eq_false hi
          by_cases hk : k < p2
          · have qb : decide ((k : Int) < (p2 : Int)) = true := decide_eq_true (by omega)
            have qb' : decide (k < p2) = true := decide_eq_true hk
            have hnew := Hsn.out
            rw [if_pos (.inr hk)] at hnew
            have Hnew := Lib.hid hnew
            clear hnew
            go_wp2_with (first | (at_builtin; go_must (refine wpList_append_new _ 68 (.tmp 65) (.tmp 75) rfl rfl B 73 infoEdit Tryz.underlying68 rfl (by decide) A' n c' _ rfl hown #[.int .i64 (i : Int), .int .i64 ((p1 : Int) - i), .string (b.extract k p2)] 1 rfl rfl (by simp [Value.oneCell']) (by unfold maxLen; omega) (by omega) hBr ?_); intro A3 c3 w4 hown4 hb4 hg4))
            go_roundw
            case rel =>
              refine ⟨j + 1, n + 1, c3, A3, by omega, by go_num, by rw [Hli.out]; go_num, by rw [Hlk.out]; go_num, rfl, by omega, Lib.hid (by rw [Hnew.out, List.length_append, ← Hn.out]; rfl), ?_, hbr.trans hb4⟩
              rw [Hnew.out, flat_snoc, ← Hext.out]; exact hown4
            case measure => simp only [intOf]; omega
          · have qb : decide ((k : Int) < (p2 : Int)) = false := decide_eq_false (by omega)
            have qb' : decide (k < p2) = false := decide_eq_false hk
            have hnew := Hsn.out
            rw [if_neg (by omega), List.append_nil] at hnew
            have Hnew := Lib.hid hnew
            clear hnew
            go_wp2
            go_roundw
            case rel => exact ⟨j + 1, n, c', A', by omega, by go_num, by rw [Hli.out]; go_num, by rw [Hlk.out]; go_num, rfl, by omega, Lib.hid (by rw [Hnew.out]; exact Hn.out), by rw [Hnew.out]; exact hown, hbr⟩
            case measure => simp only [intOf]; omega
      · obtain rfl : j = m := by omega
        have q2 : decide ((j : Int) < (j : Int)) = false := decide_eq_false (by omega)
        have q2' : decide (j < j) = false := decide_eq_false (by omega)
        have e := HRm.out
        generalize R.getD j (0, 0) = p at *
        subst e
        simp only at *
        generalize lastI 0 (R.take j) = i at *
        generalize lastK 0 (R.take j) = k at *
        have hkp : (k : Int) ≤ (b.size : Int) := by omega
        by_cases hi : i < a.size
        · have qa : decide ((i : Int) < (a.size : Int)) = true := decide_eq_true (by omega)
          have qa' : decide (i < a.size) = true := decide_eq_true hi
          have hnew := Hsn.out
          rw [if_pos (.inl hi)] at hnew
          have Hnew := Lib.hid hnew
          clear hnew
          go_wp2_with (first | (at_builtin; go_must (refine wpList_append_new _ 68 (.tmp 65) (.tmp 75) rfl rfl B 73 infoEdit Tryz.underlying68 rfl (by decide) A' n c' _ rfl hown #[.int .i64 (i : Int), .int .i64 ((a.size : Int) - i), .string (b.extract k b.size)] 1 rfl rfl (by simp [Value.oneCell']) (by unfold maxLen; omega) (by omega) hBr ?_); intro A3 c3 w4 hown4 hb4 hg4))
          go_roundw
          case rel =>
            refine ⟨j + 1, n + 1, c3, A3, by omega, by go_num, by rw [Hli.out]; go_num, by rw [Hlk.out]; go_num, rfl, by omega, Lib.hid (by rw [Hnew.out, List.length_append, ← Hn.out]; rfl), ?_, hbr.trans hb4⟩
            rw [Hnew.out, flat_snoc, ← Hext.out]; exact hown4
          case measure => simp only [intOf]; omega
        · have qa : decide ((i : Int) < (a.size : Int)) = false := decide_eq_false (by omega)
          have qa' : decide (i < a.size) = false := decide_eq_false hi
          by_cases hk : k < b.size
          · have qb : decide ((k : Int) < (b.size : Int)) = true := decide_eq_true (by omega)
            have qb' : decide (k < b.size) = true := decide_eq_true hk
            have hnew := Hsn.out
            rw [if_pos (.inr hk)] at hnew
            have Hnew := Lib.hid hnew
            clear hnew
            go_wp2_with (first | (at_builtin; go_must (refine wpList_append_new _ 68 (.tmp 65) (.tmp 75) rfl rfl B 73 infoEdit Tryz.underlying68 rfl (by decide) A' n c' _ rfl hown #[.int .i64 (i : Int), .int .i64 ((a.size : Int) - i), .string (b.extract k b.size)] 1 rfl rfl (by simp [Value.oneCell']) (by unfold maxLen; omega) (by omega) hBr ?_); intro A3 c3 w4 hown4 hb4 hg4))
            go_roundw
            case rel =>
              refine ⟨j + 1, n + 1, c3, A3, by omega, by go_num, by rw [Hli.out]; go_num, by rw [Hlk.out]; go_num, rfl, by omega, Lib.hid (by rw [Hnew.out, List.length_append, ← Hn.out]; rfl), ?_, hbr.trans hb4⟩
              rw [Hnew.out, flat_snoc, ← Hext.out]; exact hown4
            case measure => simp only [intOf]; omega
          · have qb : decide ((k : Int) < (b.size : Int)) = false := decide_eq_false (by omega)
            have qb' : decide (k < b.size) = false := decide_eq_false hk
            have hnew := Hsn.out
            rw [if_neg (by omega), List.append_nil] at hnew
            have Hnew := Lib.hid hnew
            clear hnew
            go_wp2
            go_roundw
            case rel => exact ⟨j + 1, n, c', A', by omega, by go_num, by rw [Hli.out]; go_num, by rw [Hlk.out]; go_num, rfl, by omega, Lib.hid (by rw [Hnew.out]; exact Hn.out), by rw [Hnew.out]; exact hown, hbr⟩
            case measure => simp only [intOf]; omega
    · obtain rfl : j = m + 1 := by omega
      have e : R.take (m + 1) = R := List.take_of_length_le (by rw [HRl.out]; exact Nat.le_refl _)
      rw [e] at hown
      have hn := Hn.out
      rw [e, ← HMK.out] at hn
      rw [← HMK.out] at hown
      have hr := Reads.of_own hown
      go_wp2
      go_ret2
      subst hn
      exact ⟨hbw.trans (hbr.mono (by rw [HB.out]; exact hsz)), .inl ⟨He.out, Hx20.out, A', c', rfl, hr⟩⟩
end Go.Proofs.YtaogegpfapfchaaGreatDoor

/- The walk of 'diffs', and what Cost's numbers obey. -/
namespace Go.Proofs.YtaogegpfapfchaaGreatDoor
open Go.RowKit
set_option linter.unusedVariables false

theorem diffs_lcs : lcs (ByteArray.mk #[97, 98, 99, 97, 98, 98, 97]).data.toList (ByteArray.mk #[99, 98, 97, 98, 97, 99]).data.toList = 4 := by decide +kernel
theorem diffs_lcs2 : lcs (ByteArray.mk #[97, 98]).data.toList (ByteArray.mk #[98]).data.toList = 1 := by decide +kernel
theorem diffs_make : makeE ⟨#[97, 98]⟩ ⟨#[98]⟩ = [(0, 1, ⟨#[]⟩)] := by decide +kernel


theorem sub_meet {α : Type} [DecidableEq α] : ∀ {b u v : List α}, u.Sublist b → v.Sublist b → ∃ t : List α, t.Sublist u ∧ t.Sublist v ∧ u.length + v.length ≤ b.length + t.length
  | _, _, _, .slnil, .slnil => ⟨[], List.Sublist.refl _, List.Sublist.refl _, Nat.le_refl _⟩
  | _, _, _, .cons z hu, .cons _ hv => by
    obtain ⟨t, h1, h2, h3⟩ := sub_meet hu hv
    exact ⟨t, h1, h2, by simp only [List.length_cons] at h3 ⊢; omega⟩
  | _, _, _, .cons z hu, .cons_cons _ hv => by
    obtain ⟨t, h1, h2, h3⟩ := sub_meet hu hv
    exact ⟨t, h1, h2.trans (List.sublist_cons_self _ _), by simp only [List.length_cons] at h3 ⊢; omega⟩
  | _, _, _, .cons_cons z hu, .cons _ hv => by
    obtain ⟨t, h1, h2, h3⟩ := sub_meet hu hv
    exact ⟨t, h1.trans (List.sublist_cons_self _ _), h2, by simp only [List.length_cons] at h3 ⊢; omega⟩
  | _, _, _, .cons_cons z hu, .cons_cons _ hv => by
    obtain ⟨t, h1, h2, h3⟩ := sub_meet hu hv
    exact ⟨z :: t, h1.cons_cons _, h2.cons_cons _, by simp only [List.length_cons] at h3 ⊢; omega⟩
theorem lcs_tri {α : Type} [DecidableEq α] (a b c : List α) : lcs a b + lcs b c ≤ b.length + lcs a c := by
  obtain ⟨u, hu1, hu2, hu3⟩ := lcs_wit a b
  obtain ⟨v, hv1, hv2, hv3⟩ := lcs_wit b c
  obtain ⟨t, h1, h2, h3⟩ := sub_meet hu2 hv1
  have := lcs_max a c t (h1.trans hu1) (h2.trans hv2)
  omega

theorem cv_comm (a b : ByteArray) : cv a b = cv b a := by
  unfold cv
  rw [lcs_comm]
  by_cases h : a.size ≤ 200 ∧ b.size ≤ 200
  · rw [if_pos h, if_pos h.symm]; omega
  · rw [if_neg h, if_neg (fun h' => h h'.symm)]
theorem ce_comm (a b : ByteArray) : ce a b = ce b a := by
  unfold ce
  by_cases h : a.size ≤ 200 ∧ b.size ≤ 200
  · rw [if_pos h, if_pos h.symm]
  · rw [if_neg h, if_neg (fun h' => h h'.symm)]
theorem ce_zero {a b : ByteArray} (h : ce a b = 0) : a.size ≤ 200 ∧ b.size ≤ 200 := by
  unfold ce at h
  by_cases h' : a.size ≤ 200 ∧ b.size ≤ 200
  · exact h'
  · rw [if_neg h'] at h; cases h
end Go.Proofs.YtaogegpfapfchaaGreatDoor

/- DiffLeast's walk: no script has a smaller cost. -/
namespace Go.Proofs.YtaogegpfapfchaaGreatDoor
open Go.RowKit
set_option linter.unusedVariables false

theorem costE_take (l : List Ed) (k : Nat) (h : k < l.length) (d : Ed) : costE (l.take (k + 1)) = costE (l.take k) + ((l.getD k d).2.1 + ((l.getD k d).2.2.size : Int)) := by
  rw [take_succ_getD l k d h, costE_append, costE, costE]; omega
theorem costE_bd {n : Int} (hn : n ≤ 200) {l : List Ed} {f : Bool} {e : Int} (h : OkE n f e l) : ∀ k, 0 ≤ costE (l.take k) ∧ costE (l.take k) ≤ 240 * (l.take k).length := by
  have hall := ok_all hn h
  have : ∀ m : List Ed, (∀ x ∈ m, 0 ≤ x.1 ∧ 0 ≤ x.2.1 ∧ x.1 + x.2.1 ≤ n ∧ x.2.2.size ≤ 40) → 0 ≤ costE m ∧ costE m ≤ 240 * m.length := by
    intro m
    induction m with
    | nil => exact fun _ => ⟨by simp [costE], by simp [costE]⟩
    | cons x m ih =>
      intro hx
      obtain ⟨a, b, c, d⟩ := hx x (by simp)
      have := ih (fun y hy => hx y (by simp [hy]))
      rw [costE, List.length_cons]
      omega
  exact fun k => this _ (fun x hx => hall x (List.mem_of_mem_take hx))
theorem least_law (s : ByteArray) (l : List Ed) (h : checkE s.size l = 0) : ce s ⟨(app s.data.toList 0 l).toArray⟩ = 0 ∧ cv s ⟨(app s.data.toList 0 l).toArray⟩ ≤ costE l := by
  obtain ⟨h0, h1, h2, h3, h4⟩ := checkE_ok h
  have hs : s.data.toList.length = s.size := rfl
  have h3' : OkE s.data.toList.length true (0 : Nat) l := h3
  have hlen := app_length (e := 0) h3' (fun _ => rfl) (Nat.zero_le _)
  have hl := app_lcs (e := 0) h3' (fun _ => rfl) (Nat.zero_le _)
  have hsz : (ByteArray.mk (app s.data.toList 0 l).toArray).size = (app s.data.toList 0 l).length := rfl
  have hb : s.size ≤ 200 ∧ (ByteArray.mk (app s.data.toList 0 l).toArray).size ≤ 200 := by omega
  refine ⟨ce_ok hb, ?_⟩
  rw [cv_ok hb, hsz]
  rw [List.drop_zero] at hl
  have : (ByteArray.mk (app s.data.toList 0 l).toArray).data.toList = app s.data.toList 0 l := rfl
  rw [this]
  omega

end Go.Proofs.YtaogegpfapfchaaGreatDoor

