/- TreeHeavy's walk: what weighs more has no longer word; so many times as heavy it costs so many times as much. -/
import Derived.Test.YtpaodbkdmiedfaaTreeLaws
import Derived.Test.YtpaodbkdmiedfaaArgs
import Derived.Test.YtpaodbkdmiedfaaKeep
import Derived.Test.YtpaodbkdmiedfaaOwnK
import Derived.IntWalk
import Derived.BigQuiet
namespace Go.Proofs.Ytpaodbkdmiedfaa
open Go.RowKit
set_option linter.unusedVariables false

theorem checkT_le {l : List Int} (h : l.length ≤ 12) (h2 : checkT l ≠ 0) : checkT l = 1 := by
  unfold checkT at *
  rw [if_neg (by omega)] at *
  by_cases h3 : l.all (fun x => decide (1 ≤ x) && decide (x ≤ 10000)) = true
  · rw [if_pos h3] at h2; exact absurd rfl h2
  · rw [if_neg h3]
def timesI (b : Nat) (ws : List Int) : List Int := ws.map fun x => (b : Int) * x
theorem timesI_len (b : Nat) (ws : List Int) : (timesI b ws).length = ws.length := by simp [timesI]
theorem timesI_nats (b : Nat) {ws : List Int} (h : ∀ x ∈ ws, 1 ≤ x) : nats (timesI b ws) = (nats ws).map (b * ·) := by
  unfold nats timesI
  rw [List.map_map, List.map_map]
  refine List.map_congr_left fun x hx => ?_
  have := h x hx
  obtain ⟨y, rfl⟩ : ∃ y : Nat, x = y := ⟨x.toNat, by omega⟩
  show ((b : Int) * (y : Int)).toNat = b * ((y : Int)).toNat
  rw [Int.toNat_natCast, ← Int.natCast_mul, Int.toNat_natCast]

set_option maxRecDepth 100000 in
set_option maxHeartbeats 8000000 in
theorem treeHeavy_walk (A : Option Addr) (n cap : Nat) (ws : List Int) (by0 : Int) {w : World} (ha : IntsIn w A n cap ws) (hby : (Lit.int .i64 by0).wf = true) :
    Calls Try.prog 4 #[.slice A n cap, .int .i64 by0] w fun e w' => e = .returned (.bool true) ∧ Below w.heap.size w w' := by
  obtain ⟨hla, hra, hlena, _, hcapa, hma, _⟩ := ha
  obtain ⟨b, hb, hb5⟩ : ∃ b : Nat, 1 + by0 % 5 = b ∧ 1 ≤ b ∧ b ≤ 5 := by
    have h1 := Int.emod_nonneg by0 (show (5 : Int) ≠ 0 by omega)
    have h2 := Int.emod_lt_of_pos by0 (show 0 < (5 : Int) by omega)
    exact ⟨(1 + by0 % 5).toNat, by omega, by omega, by omega⟩
  have hwi : ∀ w, Calls Try.prog 18 #[.int .i64 by0, .int .i64 5] w fun e w' => e = .returned (.int .i64 ((b : Int) - 1)) ∧ w = w' := fun w => by
    have := within_any by0 5 (by omega) (by omega) w
    rwa [show by0 % 5 = (b : Int) - 1 by omega] at this
  have HWi := Lib.hid hwi
  have HL := Lib.hid (fun w (r : Reads w w.heap.size A n 1 (ws.flatMap cInt)) => treeLens_any A n cap w.heap.size ws w (by omega) hla r (Nat.le_refl _))
  have HC := Lib.hid (fun w A' m c' (o : List Int) (hm : m ≤ 1125899906842624) (ho : o.length = m) (r : Reads w w.heap.size A n 1 (ws.flatMap cInt)) (r' : Reads w w.heap.size A' m 1 (o.flatMap cInt)) => treeCost_any A n cap w.heap.size ws A' m c' w.heap.size o w (by omega) hm hla ho r r')
  have G := Lib.hid (fun w => good_fresh [0, 0] 2 2 rfl (by decide) w 24)
  have Hla := Lib.hid hla
  have hn0 : n ≤ 1125899906842624 := by omega
  have hinfo : (Try.prog.info? 3).map (fun i => (i.zero, i.size, i.bytes)) = some (some (.int .i64 0), 1, 8) := by kernel_rfl
  clear hla hma hby hb hwi
  go_enter Try.func4, Try.ntmps4
  go_wp2_with fail
  refine (trees_any _).mono ?_
  rintro e w1 ⟨rfl, hb1⟩
  have ra1 := (hra.below hb1).more hb1.size
  clear hra
  go_wp2_with fail
  refine (HL.out _ ra1).mono ?_
  rintro e w2 ⟨hb2, hx⟩
  have ra2 := ra1.after hb2
  have hb2 := chain hb2 hb1
  clear ra1 hb1
  rcases hx with ⟨hno, rfl⟩ | ⟨hc, g, o, rfl, hok, hro⟩
  · have q1 : (checkT ws != 0) = true := by simpa using hno
    have q1' : (checkT ws == 0) = false := by simpa using hno
    clear hno HC HL
    generalize checkT ws = E at *
    go_wp2
    all_goals (go_ret; exact ⟨by simp, hb2⟩)
  have hol : (ikN o).length = n := by rw [ikN_len, hok.len, nats_len, Hla.out]
  have H1w := (checkT_zero ws).1 hc
  have hn12 : n ≤ 12 := by rw [← Hla.out]; exact H1w.1
  have hheavy : ∀ i k, i < n → k < n → ws.getD k 0 < ws.getD i 0 → ((o.getD i 0 : Nat) : Int) ≤ ((o.getD k 0 : Nat) : Int) := fun i k hi hk h => by
    have h2 : 1 ≤ ws.getD k 0 := (H1w.2 _ (by rw [getD_some _ _ _ (by rw [Hla.out]; exact hk)]; exact List.getElem_mem _)).1
    exact Int.ofNat_le.2 (hok.heavy (by rw [nats_len, Hla.out]; exact hi) (by rw [nats_len, Hla.out]; exact hk) (by rw [nats_getD, nats_getD]; omega))
  have Hheavy := Lib.hid hheavy
  have K1 := Lib.hid H1w
  have Hok := Lib.hid hok
  have Hc := Lib.hid hc
  have Hol := Lib.hid hol
  clear hheavy H1w hok hc hol HL
  have q0 : ((n : Int) != (n : Int)) = false := by simp
  go_wp2
  go_loopw [7, 8, 9, 10, 45] (fun _ _ _ _ iv wr => ∃ i : Nat, i ≤ n ∧ iv = .int .i64 i ∧ Below w.heap.size w wr ∧ Reads wr w2.heap.size A n 1 (ws.flatMap cInt) ∧ Reads wr w2.heap.size (some ⟨g, 0, none⟩) n 1 ((ikN o).flatMap cInt) ∧ w2.heap.size ≤ wr.heap.size) (fun _ _ _ _ iv _ => n - (intOf iv).toNat)
  case atStart => exact ⟨0, Nat.zero_le _, rfl, hb2, ra2, hro, Nat.le_refl _⟩
  case round =>
    clear ra2 hro hb2
    obtain ⟨i, hi, rfl, hbr, ra, ro, hsz⟩ := hrel
    by_cases hlt : i < n
    · obtain ⟨b1, o1, hAe, hbB, hcl⟩ := ra.2 (by omega)
      obtain ⟨b2, o2, hGe, hbB2, hcl2⟩ := ro.2 (by omega)
      have c0 := hcl (i * 1 + 0) (by rw [flat_length cInt 1 cInt_len, Hla.out]; omega)
      rw [flat_getD cInt 1 cInt_len 0 ws i _ (by rw [Hla.out]; omega) (by omega)] at c0
      simp only [cInt, List.getD_cons_zero, Nat.mul_one, Nat.add_zero] at c0
      subst hAe
      injection hGe with hGe
      injection hGe with hGe1 hGe2
      subst hGe1 hGe2
      have Hx := Lib.hid (rfl : ws.getD i 0 = ws.getD i 0)
      generalize hx : ws.getD i 0 = x at *
      have Hxe := Lib.hid hx
      clear hx Hx
      go_wp2
      go_loopw [9, 10, 52] (fun _ _ jv wq => ∃ j : Nat, j ≤ n ∧ jv = .int .i64 j ∧ Below w.heap.size w wq ∧ Reads wq w2.heap.size (some ⟨b1, o1, none⟩) n 1 (ws.flatMap cInt) ∧ Reads wq w2.heap.size (some ⟨g, 0, none⟩) n 1 ((ikN o).flatMap cInt) ∧ w2.heap.size ≤ wq.heap.size) (fun _ _ jv _ => n - (intOf jv).toNat)
      case atStart => exact ⟨0, Nat.zero_le _, rfl, hbr, ra, ro, hsz⟩
      case round =>
        clear ra ro hbr hcl hcl2 c0 hsz
        obtain ⟨j, hj, rfl, hbq, ra, ro, hsz⟩ := hrel
        by_cases hjt : j < n
        · obtain ⟨b3, o3, hAe, hbB3, hcl⟩ := ra.2 (by omega)
          injection hAe with hAe
          injection hAe with hAe1 hAe2
          subst hAe1 hAe2
          obtain ⟨b4, o4, hGe, hbB4, hcl2⟩ := ro.2 (by omega)
          injection hGe with hGe
          injection hGe with hGe1 hGe2
          subst hGe1 hGe2
          have c0 := hcl (j * 1 + 0) (by rw [flat_length cInt 1 cInt_len, Hla.out]; omega)
          rw [flat_getD cInt 1 cInt_len 0 ws j _ (by rw [Hla.out]; omega) (by omega)] at c0
          simp only [cInt, List.getD_cons_zero, Nat.mul_one, Nat.add_zero] at c0
          have c1 := hcl2 (i * 1 + 0) (by rw [flat_length cInt 1 cInt_len, Hol.out]; omega)
          rw [flat_getD cInt 1 cInt_len 0 (ikN o) i _ (by rw [Hol.out]; omega) (by omega), ikN_getD] at c1
          simp only [cInt, List.getD_cons_zero, Nat.mul_one, Nat.add_zero, Nat.zero_add] at c1
          have c2 := hcl2 (j * 1 + 0) (by rw [flat_length cInt 1 cInt_len, Hol.out]; omega)
          rw [flat_getD cInt 1 cInt_len 0 (ikN o) j _ (by rw [Hol.out]; omega) (by omega), ikN_getD] at c2
          simp only [cInt, List.getD_cons_zero, Nat.mul_one, Nat.add_zero, Nat.zero_add] at c2
          have hh := Hheavy.out i j hlt hjt
          rw [Hxe.out] at hh
          have hin : (i : Int) < n := by omega
          have hjn : (j : Int) < n := by omega
          clear hcl hcl2
          generalize ws.getD j 0 = y at *
          generalize ((o.getD i 0 : Nat) : Int) = u at *
          generalize ((o.getD j 0 : Nat) : Int) = v at *
          by_cases hyx : y < x
          case' pos =>
            have q2 : decide (y < x) = true := decide_eq_true hyx
            have q3 : decide (v < u) = false := decide_eq_false (by have := hh hyx; omega)
            clear hh
            go_wp2
            go_quiet (fail)
          case' neg =>
            have q2 : decide (y < x) = false := decide_eq_false hyx
            clear hh
            go_wp2
            go_quiet (fail)
          all_goals
            go_wp2
            go_roundw
            case rel => exact ⟨j + 1, by omega, by go_num, below_drewN hbq _, ra.drewN _, ro.drewN _, hsz⟩
            case measure => simp [intOf]; omega
        · go_wp2
          go_roundw
          case rel => exact ⟨i + 1, by omega, by go_num, hbq, ra, ro, hsz⟩
          case measure => simp [intOf]; omega
    · obtain rfl : i = n := by omega
      clear hlt
      have ra' := ra.more hsz
      have ro' := ro.more hsz
      clear ra ro
      generalize wr = V at *
      go_wp2_with fail
      refine (HWi.out _).mono ?_
      rintro e w3 ⟨rfl, rfl⟩
      have e1 : IntKind.i64.wrap (1 + ((b : Int) - 1)) = (b : Int) := by rw [IntKind.wrap_i64]; omega
      have e1' : (1 + ((b : Int) - 1)) = (b : Int) := by omega
      go_wp2
      go_loopw [11, 13, 78] (fun ov _ iv wr => ∃ (k : Nat) (A' : Option Addr) (c' : Nat), k ≤ i ∧ iv = .int .i64 k ∧ ov = .slice A' k c' ∧ OwnK 3 1 wr (· < V.heap.size) A' k c' ((timesI b (ws.take k)).flatMap cInt) ∧ Below V.heap.size V wr) (fun _ _ iv _ => i - (intOf iv).toNat)
      case atStart => exact ⟨0, none, 0, Nat.zero_le _, rfl, rfl, OwnK.nil _ _ _ _, Below.refl _ _⟩
      case round =>
        obtain ⟨k, A', c', hk, rfl, rfl, hown, hbq⟩ := hrel
        by_cases hlt : k < i
        · obtain ⟨b9, o9, rfl, hbB, hc⟩ := (ra'.below hbq).2 (by omega)
          have c0 := hc (k * 1 + 0) (by rw [flat_length cInt 1 cInt_len, Hla.out]; omega)
          rw [flat_getD cInt 1 cInt_len 0 ws k _ (by rw [Hla.out]; omega) (by omega)] at c0
          simp only [cInt, List.getD_cons_zero, Nat.mul_one, Nat.add_zero] at c0
          have hts := take_succ_getD ws k 0 (by rw [Hla.out]; omega)
          have hnx : (timesI b (ws.take (k + 1))).flatMap cInt = (timesI b (ws.take k)).flatMap cInt ++ [.int .i64 ((b : Int) * ws.getD k 0)] := by
            rw [hts]; unfold timesI; rw [List.map_append, List.flatMap_append]; rfl
          have hxb := K1.out.2 (ws.getD k 0) (by rw [getD_some _ _ _ (by rw [Hla.out]; omega)]; exact List.getElem_mem _)
          have Hnx := Lib.hid hnx
          clear hc hts hnx
          generalize ws.getD k 0 = x at *
          obtain ⟨x, rfl⟩ : ∃ z : Nat, x = z := ⟨x.toNat, by omega⟩
          have hxx : b * x ≤ 5 * 10000 := Nat.mul_le_mul hb5.2 (by omega)
          have e5 : ((b : Int) * (x : Int)) = ((b * x : Nat) : Int) := by simp
          rw [e5] at Hnx
          have wx : IntKind.i64.wrap ((b : Int) * (x : Int)) = ((b * x : Nat) : Int) := by rw [e5]; exact IntWalk.i64_in _ (by omega)
          have wx' : wrap64 ((b : Int) * (x : Int)) = ((b * x : Nat) : Int) := by rw [e5]; exact IntWalk.wrap64_in _ (by omega)
          generalize b * x = y at *
          have hbs := hbq.size
          have hcl : ∀ j, j < 1 → (wr.alloc (Obj.cells #[.int .i64 (y : Int)] 3)).cell? ((⟨wr.heap.size, 0, none⟩ : Addr).add j) = ([.int .i64 (y : Int)] : List Value)[j]? := fun j hj => by
            obtain rfl : j = 0 := by omega
            rw [add_at, World.cell?_alloc_mark]; rfl
          have hk8 : k ≤ 8000000000000 := by omega
          have hk9 : (k + 1) * 8 ≤ 140737488355328 := by omega
          clear e5
          go_wp2_with (first | (at_builtin; go_must (refine wpList_append_K rfl (.tmp 82) (.tmp 86) 22 rfl (· < V.heap.size) (.int .i64 0) 8 hinfo Try.underlying22 rfl (by decide) (by decide) A' k c' _ rfl (hown.alloc _) ⟨wr.heap.size, 0, none⟩ 1 [.int .i64 (y : Int)] rfl rfl (by simp [Value.oneCell']) hcl hk9 hk8 (fun k hk => by simp; omega) ?_); intro A3 c3 w3 hown3 hg3 hp3))
          have hb3 : Below V.heap.size V w3 := (hbq.alloc hbs _).grown hg3 (by simp; omega) (fun g hg => by have := (hown.lt g hg).1; omega)
          rw [← Hnx.out] at hown3
          clear hown hcl wx wx'
          go_wp2
          go_roundw
          case rel => exact ⟨k + 1, A3, c3, by omega, by go_num, rfl, hown3, hb3⟩
          case measure => simp [intOf]; omega
        · obtain rfl : k = i := by omega
          have e : ws.take k = ws := List.take_of_length_le (by rw [Hla.out]; omega)
          rw [e] at hown
          have hrm := hown.toReads
          have hln : (timesI b ws).length = k := by rw [timesI_len, Hla.out]
          have ra4 := (ra'.below hbq).more hbq.size
          have ro4 := (ro'.below hbq).more hbq.size
          have hb6 := chain hbq hbr
          have HL2 := Lib.hid (treeLens_any A' k c' wr.heap.size (timesI b ws) wr (by omega) hln hrm (Nat.le_refl _))
          have HC2 := Lib.hid (fun w A'' m c'' (o : List Int) (hm : m ≤ 1125899906842624) (ho : o.length = m) (r : Reads w w.heap.size A' k 1 ((timesI b ws).flatMap cInt)) (r' : Reads w w.heap.size A'' m 1 (o.flatMap cInt)) => treeCost_any A' k c' w.heap.size (timesI b ws) A'' m c'' w.heap.size o w (by omega) hm hln ho r r')
          have Hln := Lib.hid hln
          clear e hown hbq hbr ra' ro' hln hlt
          go_wp2_with fail
          refine HL2.out.mono ?_
          rintro e w5 ⟨hb5', hx⟩
          have hb7 := chain hb5' hb6
          have ra5 := ra4.after hb5'
          have ro5 := ro4.after hb5'
          have rm5 := hrm.after hb5'
          clear HL2 ra4 ro4 hrm hb5' hb6
          rcases hx with ⟨hno, rfl⟩ | ⟨hc2, g2, m, rfl, hok2, hro2⟩
          · have h1 := checkT_le (by rw [Hln.out]; exact hn12) hno
            rw [h1]
            clear hno h1 HC HC2
            go_wp2
            all_goals (go_ret; exact ⟨by simp, hb7⟩)
          · obtain ⟨e1, e2⟩ := lens_cost Hc.out Hok.out
            obtain ⟨e3, e4⟩ := lens_cost hc2 hok2
            have hml : (ikN m).length = k := by rw [ikN_len, hok2.len, nats_len, Hln.out]
            have hna := timesI_nats b (ws := ws) (fun x hx => (K1.out.2 x hx).1)
            rw [hna] at hok2
            have hsc := Hok.out.scale hb5.1 hok2
            rw [hna, hsc] at e4
            have hD : costO (nats ws) o ≤ 1440000 := by
              have h1 := fun k => costK_le (ws := nats ws) (o := o) (fun k => by rw [nats_getD]; exact getD_bd K1.out.2 (by decide) k) (fun k => by
                rcases Nat.lt_or_ge k o.length with hk | hk
                · have := (Hok.out.bd k (by rw [← Hok.out.len]; exact hk)).2
                  rw [nats_len, Hla.out] at this
                  omega
                · rw [List.getD_eq_getElem?_getD, List.getElem?_eq_none hk]; simp) k
              have h2 : costO (nats ws) o = costK (nats ws) o k := by unfold costO costK; rw [nats_len, Hla.out]
              have := h1 k
              rw [h2]; omega
            have HC3 := Lib.hid (HC.out w5 (some ⟨g, 0, none⟩) k k (ikN o) hn0 Hol.out ra5 ro5)
            have HC4 := Lib.hid (HC2.out w5 (some ⟨g2, 0, none⟩) k k (ikN m) hn0 hml rm5 hro2)
            rw [e1, e2] at HC3
            rw [e3, e4] at HC4
            clear HC HC2 e1 e2 e3 e4 hok2 hc2 hna hsc hml ra5 ro5 rm5 hro2 Hheavy
            generalize costO (nats ws) o = D at *
            have hbD : b * D ≤ 5 * 1440000 := Nat.mul_le_mul hb5.2 hD
            have e5 : ((b : Int) * (D : Int)) = ((b * D : Nat) : Int) := by simp
            have e6' : IntKind.i64.wrap ((b : Int) * (D : Int)) = ((b * D : Nat) : Int) := by rw [e5]; exact IntWalk.i64_in _ (by omega)
            clear e5
            go_wp2_with fail
            refine HC3.out.mono ?_
            rintro e w6 ⟨rfl, rfl⟩
            go_wp2_with fail
            refine HC4.out.mono ?_
            rintro e w6 ⟨rfl, rfl⟩
            go_wp2_with fail
            refine (G.out _).mono ?_
            rintro e w7 ⟨rfl, hb8⟩
            have hb9 := chain hb8 hb7
            go_wp2
            all_goals (go_ret; exact ⟨by simp, hb9⟩)
end Go.Proofs.Ytpaodbkdmiedfaa
