/- TrimGroups' walk: composition is associative, and a single script is unchanged. -/
import Derived.Test.YtookbaaicpapnaaTrimTwo
import Derived.Test.YtookbaaicpapnaaTrimGroupsP
import Derived.Test.YtookbaaicpapnaaConcat
import Derived.Test.YtookbaaicpapnaaKeep
namespace Go.Proofs.Ytookbaaicpapnaa
open Go.RowKit
set_option linter.unusedVariables false

theorem many_parts {n : Int} {L : List (List Ed)} (h : manyI n L = 0) : 0 ≤ n ∧ n ≤ 200 ∧ L.length ≤ 30 ∧ (cellsE (cells0 n.toNat) L).1 = 0 ∧ checkE n (manyL n L) = 0 := by
  unfold manyI at h
  by_cases h1 : n < 0 ∨ 200 < n
  · rw [if_pos h1] at h; cases h
  rw [if_neg h1] at h
  by_cases h2 : 30 < L.length
  · rw [if_pos h2] at h; cases h
  rw [if_neg h2] at h
  by_cases h3 : (cellsE (cells0 n.toNat) L).1 = 0
  · rw [if_neg (by simpa using h3)] at h
    exact ⟨by omega, by omega, by omega, h3, h⟩
  · rw [if_pos h3] at h; exact absurd h h3
theorem single_law (n : Nat) (x : List Ed) (h : OkE n true 0 x) : scr 0 [] (applyC (cells0 n) 0 x ++ [((n : Int), (0 : UInt8))]) = x := by
  cases x with
  | nil =>
    have := scr_same (n := n) [] 0 0 [] trivial (Int.le_refl _) (Nat.zero_le _)
    simpa using this
  | cons x es =>
    by_cases h0 : 0 < x.1
    · obtain ⟨h1, h2, h3, h4, h5, h6, h7⟩ := h
      have := scr_same (n := n) (x :: es) 0 0 [] ⟨h1, h2, h3, h4, h5, fun _ => by simpa using h0, h7⟩ (Int.le_refl _) (Nat.zero_le _)
      simpa using this
    · obtain ⟨h1, h2, h3, h4, h5, h6, h7⟩ := h
      have hx : x.1 = 0 := by omega
      obtain ⟨r, hr⟩ : ∃ r : Nat, x.1 + x.2.1 = r := ⟨(x.1 + x.2.1).toNat, by omega⟩
      rw [hr] at h7
      rw [applyC, hr, hx, Int.toNat_natCast, Int.toNat_zero, List.take_zero, List.drop_nil, List.nil_append, List.append_assoc]
      have hp := scr_put 0 (applyC (cells0 n) r es ++ [((n : Int), (0 : UInt8))]) x.2.2.data.toList []
      rw [putC, List.nil_append] at hp
      rw [hp, scr_same es r 0 x.2.2.data.toList h7 (by omega) (by omega)]
      have hcond : 0 < (r : Int) - 0 ∨ x.2.2.data.toList ≠ [] := by
        by_cases hd : x.2.1 = 0
        · exact .inr fun he => h5 ⟨hd, congrArg List.length he⟩
        · exact .inl (by omega)
      rw [if_pos hcond, List.cons_append, List.nil_append]
      have hxe : ((0 : Int), (r : Int) - 0, e8 x.2.2.data.toList) = x := by
        rw [e8_of]
        refine Prod.ext (by simp only; omega) (Prod.ext (by simp only; omega) rfl)
      rw [hxe]
theorem groups_law (n : Int) (L : List (List Ed)) (k : Nat) (hk : k ≤ L.length) (h : manyI n L = 0) :
    (manyI n (L.take k) = 0 ∨ manyI n (L.take k) = 2 ∨ manyI n (L.take k) = 11) ∧
    (manyI n (L.take k) = 0 → manyL n (manyL n (L.take k) :: L.drop k) = manyL n L ∧ manyI n (manyL n (L.take k) :: L.drop k) = if 30 < L.length - k + 1 then 2 else 0) ∧
    (∀ x, L = [x] → manyL n L = x) := by
  obtain ⟨h0, h1, h2, h3, h4⟩ := many_parts h
  obtain ⟨N, rfl⟩ : ∃ N : Nat, n = N := ⟨n.toNat, by omega⟩
  rw [Int.toNat_natCast] at h3
  have hsp := cellsE_append (L.take k) (L.drop k) (cells0 N)
  rw [List.take_append_drop] at hsp
  have hck : (cellsE (cells0 N) (L.take k)).1 = 0 := by
    by_cases hh : (cellsE (cells0 N) (L.take k)).1 = 0
    · exact hh
    · rw [if_pos hh] at hsp
      rw [hsp] at h3
      exact h3
  rw [if_neg (by simpa using hck)] at hsp
  have hsr : (List.replicate N (0 : UInt8)).length = N := List.length_replicate
  have hso : Sorted N 0 (cellsE (cells0 N) (L.take k)).2 := by
    have := cellsE_good (List.replicate N 0) (L.take k) (cells0 N) (by rw [hsr]; exact sorted_cells0 N) hck
    rw [hsr] at this
    exact this
  have hfa := fair_cellsE (L.take k) (cells0 N) (fair_cells0 N)
  have hml : manyL N (L.take k) = scr 0 [] ((cellsE (cells0 N) (L.take k)).2 ++ [((N : Int), (0 : UInt8))]) := by unfold manyL; rw [Int.toNat_natCast]
  have hmi : manyI N (L.take k) = checkE N (manyL N (L.take k)) := by
    unfold manyI
    rw [if_neg (by omega), if_neg (by rw [List.length_take]; omega), Int.toNat_natCast, if_neg (by simpa using hck)]
  refine ⟨?_, fun hz => ?_, fun x hx => ?_⟩
  · rw [hmi, hml]
    unfold checkE
    rw [if_neg (by omega)]
    split
    · simp
    · exact scr_codes _ 0 [] true 0 N hso (Int.le_refl _) (by omega) (fun h => by cases h)
  · have ha : checkE N (manyL N (L.take k)) = 0 := by rw [← hmi]; exact hz
    have hre : applyC (cells0 N) 0 (manyL N (L.take k)) = (cellsE (cells0 N) (L.take k)).2 := by
      have := scr_cells N (cellsE (cells0 N) (L.take k)).2 0 0 [] hso hfa (Nat.le_refl _) (Nat.zero_le _)
      rw [hml]
      simpa using this
    have hce : cellsE (cells0 N) (manyL N (L.take k) :: L.drop k) = cellsE (cells0 N) L := by
      rw [cellsE, cells0_length, if_neg (by simpa using ha), hre, hsp]
    have hl2 : manyL N (manyL N (L.take k) :: L.drop k) = manyL N L := by
      unfold manyL
      rw [Int.toNat_natCast]
      have : scr 0 [] ((cellsE (cells0 N) (L.take k)).2 ++ [((N : Int), (0 : UInt8))]) = manyL N (L.take k) := hml.symm
      rw [this, hce]
    refine ⟨hl2, ?_⟩
    unfold manyI
    rw [if_neg (by omega), List.length_cons, List.length_drop]
    by_cases hb : 30 < L.length - k + 1
    · rw [if_pos hb, if_pos hb]
    · rw [if_neg hb, if_neg hb, Int.toNat_natCast, hce, if_neg (by simpa using h3), hl2, h4]
  · subst hx
    have hc1 : checkE N x = 0 := by
      rw [cellsE, cells0_length] at h3
      by_cases hh : checkE N x = 0
      · exact hh
      · rw [if_pos hh] at h3; exact absurd h3 hh
    obtain ⟨_, _, _, ok, _⟩ := checkE_ok hc1
    unfold manyL
    rw [Int.toNat_natCast, cellsE, cells0_length, if_neg (by simpa using hc1), cellsE]
    exact single_law N x ok

set_option maxRecDepth 100000 in
set_option maxHeartbeats 8000000 in
theorem trimGroups_walk (n : Int) (A : Option Addr) (len cap : Nat) (l : List EdRow) (k : Int) (hn0 : (Lit.int .i64 n).wf = true) (w : World) (hl : EditssIn w A len cap l) (hk0 : (Lit.int .i64 k).wf = true) :
    Calls Try.prog 6 #[.int .i64 n, .slice A len cap, .int .i64 k] w fun e w' => e = .returned (.bool true) ∧ Below w.heap.size w w' := by
  have hn : -9223372036854775808 ≤ n ∧ n ≤ 9223372036854775807 := by have := bounds_i64 hn0; omega
  obtain ⟨hll, hrd, hlen, hok, hcap, hcapm, hnil⟩ := hl
  have hel : ∀ w1, Below w.heap.size w w1 → ∀ x ∈ l, RowOk w1 w.heap.size x := fun w1 hb x hx => by
    obtain ⟨x1, x2, x3, x4, _⟩ := hok x hx
    exact ⟨x1, x2.below hb, x4, by omega⟩
  have hmy : ∀ w1, Below w.heap.size w w1 → Calls Try.prog 23 #[.int .i64 n, .slice A len cap] w1 (ToldMany n (scrs l) w1) := fun w1 hb =>
    many_any n hn A len cap w.heap.size l hll (by omega) w1 (hrd.below hb) (hel w1 hb) hb.size
  obtain ⟨q, hq⟩ : ∃ q : Nat, k % ((len : Int) + 1) = q := ⟨(k % ((len : Int) + 1)).toNat, by rw [Int.toNat_of_nonneg (Int.emod_nonneg _ (by omega))]⟩
  have hql : q ≤ len := by have := Int.emod_lt_of_pos k (show (0 : Int) < (len : Int) + 1 by omega); omega
  have hwi : ∀ w, Calls Try.prog 24 #[.int .i64 k, .int .i64 ((len : Int) + 1)] w fun e w' => e = .returned (.int .i64 (q : Int)) ∧ w = w' := fun w => by
    have := within_any k ((len : Int) + 1) (by omega) (by omega) w
    rw [hq] at this
    exact this
  have HWI := Lib.hid hwi
  by_cases hI : manyI n (scrs l) = 0
  · have hsl : (scrs l).length = len := by rw [List.length_map, hll]
    obtain ⟨g1, g2, g3⟩ := groups_law n (scrs l) q (by omega) hI
    have hl30 : len ≤ 30 := by have := (many_parts hI).2.2.1; omega
    have k1 : ∀ w1, Below w.heap.size w w1 → Calls Try.prog 23 #[.int .i64 n, .slice A len cap] w1 fun e w' => Below w1.heap.size w1 w' ∧ ∃ A1 c1, e = .returned (.tuple #[.slice A1 (manyL n (scrs l)).length c1, .int .i64 0]) ∧ Reads w' w'.heap.size A1 (manyL n (scrs l)).length 3 ((manyL n (scrs l)).flatMap cEdit) := fun w1 hb =>
      (hmy w1 hb).mono fun e w' h => many_good hI h
    have hml : (manyL n (scrs l)).length ≤ 20 := (checkE_ok (many_parts hI).2.2.2.2).2.2.1
    obtain ⟨A2, hS2, hr2⟩ := slice_front (P := Try.prog) 37 (by kernel_rfl) sizeRowE cRow_len hrd hll hql hcap
    obtain ⟨A3, c3, hc3, hS3, hr3⟩ := slice_back (P := Try.prog) 37 (by kernel_rfl) sizeRowE cRow_len hrd hll hql hcap
    have hst : scrs (l.take q) = (scrs l).take q := List.map_take ..
    have hsd : scrs (l.drop q) = (scrs l).drop q := List.map_drop ..
    have kf : ∀ w1, Below w.heap.size w w1 → Calls Try.prog 23 #[.int .i64 n, .slice A2 q cap] w1 (ToldMany n ((scrs l).take q) w1) := fun w1 hb => by
      rw [← hst]
      exact many_any n hn A2 q cap w.heap.size (l.take q) (by rw [List.length_take, hll]; omega) (by omega) w1 (hr2.below hb) (fun x hx => hel w1 hb x (List.mem_of_mem_take hx)) hb.size
    have K1 := Lib.hid k1
    have q0 : ((len : Int) + 1) = (len : Int) + 1 := rfl
    by_cases hF : manyI n ((scrs l).take q) = 0
    · obtain ⟨e1, e2⟩ := g2 hF
      rw [hsl] at e2
      have k2 : ∀ w1, Below w.heap.size w w1 → Calls Try.prog 23 #[.int .i64 n, .slice A2 q cap] w1 fun e w' => Below w1.heap.size w1 w' ∧ ∃ A1 c1, e = .returned (.tuple #[.slice A1 (manyL n ((scrs l).take q)).length c1, .int .i64 0]) ∧ Reads w' w'.heap.size A1 (manyL n ((scrs l).take q)).length 3 ((manyL n ((scrs l).take q)).flatMap cEdit) := fun w1 hb =>
        (kf w1 hb).mono fun e w' h => many_good hF h
      have hal := checkE_ok (many_parts hF).2.2.2.2
      have hao : OkL (manyL n ((scrs l).take q)) := ok_bounds (many_parts hF).2.1 hal.2.2.2.1
      have hal20 : (manyL n ((scrs l).take q)).length ≤ 20 := hal.2.2.1
      have k4 : ∀ (w1 : World) (R : Option Addr) (rc : Nat) (X : Option Addr) (xc : Nat), Below w.heap.size w w1 → Reads w1 w1.heap.size R (1 + (len - q)) 1 (([(X, (manyL n ((scrs l).take q)).length, xc, manyL n ((scrs l).take q))] ++ l.drop q : List EdRow).flatMap cRow) → Reads w1 w1.heap.size X (manyL n ((scrs l).take q)).length 3 ((manyL n ((scrs l).take q)).flatMap cEdit) →
          Calls Try.prog 23 #[.int .i64 n, .slice R (1 + (len - q)) rc] w1 (ToldMany n (manyL n ((scrs l).take q) :: (scrs l).drop q) w1) := fun w1 R rc X xc hb hR hX => by
        rw [← hsd]
        refine many_any n hn R (1 + (len - q)) rc w1.heap.size ([(X, _, xc, _)] ++ l.drop q) (by simp [hll]; omega) (by omega) w1 hR (fun x hx => ?_) (Nat.le_refl _)
        rcases List.mem_append.1 hx with hx | hx
        · rw [List.mem_singleton.1 hx]
          exact ⟨rfl, hX, hao, by simp only; omega⟩
        · obtain ⟨y1, y2, y3, y4⟩ := hel w1 hb x (List.mem_of_mem_drop hx)
          exact ⟨y1, y2.more hb.size, y3, y4⟩
      have hda := hal20
      generalize manyL n ((scrs l).take q) = a at *
      generalize hla : a.length = la at *
      have K2 := Lib.hid k2
      have K4 := Lib.hid k4
      have Hla := Lib.hid hla
      have Hll := Lib.hid hll
      have E1 := Lib.hid e1
      have E2 := Lib.hid e2
      have G3 := Lib.hid g3
      have Hok := Lib.hid hok
      have HR3 := Lib.hid hr3
      generalize hM : manyL n (scrs l) = M at *
      generalize hlm : M.length = lm at *
      have Hlm := Lib.hid hlm
      have hd0 : ((l.drop q).length : Nat) = len - q := by rw [List.length_drop, hll]
      have Hd0 := Lib.hid hd0
      clear k1 k2 k4 kf hmy hwi g1 g2 g3 e1 e2 hst hsd hal hao hla hll hok hlm hM hr2 hr3 hcapm hnil hn0 hk0 hF hI hsl hd0 hq
      go_enter Try.func6, Try.ntmps6
      go_wp2_with fail
      refine (trims_any _).mono ?_
      rintro e w1 ⟨rfl, hb1⟩
      go_wp2_with fail
      refine (K1.out w1 hb1).mono ?_
      rintro e w2 ⟨hb2, A0, c0, rfl, r0⟩
      have b2 := chain hb2 hb1
      go_wp2_with fail
      refine (HWI.out _).mono ?_
      rintro e w2' ⟨rfl, rfl⟩
      go_wp2_with fail
      refine (K2.out w2 b2).mono ?_
      rintro e w3 ⟨hb3, A4, c4, rfl, r4⟩
      have b3 := chain hb3 b2
      have r0 := r0.after hb3
      go_wp2_with fail
      have hx1 := Reads.made w3 #[.slice A4 la c4] 22 1 1 rfl
      have hb4 : Below w3.heap.size w3 (w3.alloc (Obj.cells #[.slice A4 la c4] 22)) := (Below.refl _ _).alloc (Nat.le_refl _) _
      have hx2 := hx1.after ((Below.refl _ _).alloc (Nat.le_refl _) (Obj.cells #[.slice (some ⟨w3.heap.size, 0, none⟩) 1 1, .slice A3 (len - q) c3] 37))
      have hY := Blk.new (w3.alloc (Obj.cells #[.slice A4 la c4] 22)) 37 #[.slice (some ⟨w3.heap.size, 0, none⟩) 1 1, .slice A3 (len - q) c3]
      have hb5 : Below w3.heap.size w3 ((w3.alloc (Obj.cells #[.slice A4 la c4] 22)).alloc (Obj.cells #[.slice (some ⟨w3.heap.size, 0, none⟩) 1 1, .slice A3 (len - q) c3] 37)) := hb4.alloc (by simp) _
      rw [show (w3.alloc (Obj.cells #[.slice A4 la c4] 22)).heap.size = w3.heap.size + 1 from by simp] at hY
      generalize (w3.alloc (Obj.cells #[.slice A4 la c4] 22)).alloc (Obj.cells #[.slice (some ⟨w3.heap.size, 0, none⟩) 1 1, .slice A3 (len - q) c3] 37) = W at *
      have b5 := chain hb5 b3
      have r0 := r0.after hb5
      have r4 := r4.after hb5
      refine (concat_ok (w3.heap.size + 1) 2 (some ⟨w3.heap.size, 0, none⟩) A3 1 (len - q) 1 c3 W.heap.size [(A4, la, c4, a)] (l.drop q) rfl Hd0.out (by omega) (by decide) (by omega) W hx2 ((HR3.out.below b5).more b5.size) (hY.cell 0) (hY.cell 1) hY.lt (Nat.le_refl _)).mono ?_
      rintro e w6 ⟨A5, c5, rfl, hown6, hb6⟩
      have b6 := chain hb6 b5
      have r0 := r0.after hb6
      have r4 := r4.after hb6
      have hrow := Reads.of_own hown6
      have hm := K4.out w6 A5 c5 A4 c4 b6 hrow r4
      have HM4 := Lib.hid hm
      clear hx1 hx2 hY hb4 hb5 b5 hown6 hrow hm K1 K2 K4 HWI r4 hb1 hb2 hb3 b2 b3 hS2 hS3 HR3
      go_wp2_with fail
      by_cases hbig : 30 < len - q + 1
      · have hI2 := E2.out
        rw [if_pos hbig] at hI2
        refine HM4.out.mono ?_
        rintro e wz hz
        obtain ⟨hbz, rfl⟩ := many_wrong (by rw [hI2]; decide) hz
        rw [hI2]
        have bz := chain hbz b6
        have r0 := r0.after hbz
        have rb := r0
        obtain rfl : q = 0 := by omega
        have ql : ((len : Int) == 30) = true := by rw [beq_iff_eq]; omega
        clear hI2 E2 HM4 hbz
        by_cases hl1 : len = 1
        · exfalso; omega
        · have qe : ((len : Int) == 1) = false := by rw [beq_eq_false_iff_ne]; omega
          go_wp2_with fail
          refine (equalEdit_any A0 A0 lm lm c0 c0 _ _ M M wz (by omega) (by omega) Hlm.out Hlm.out rb r0).mono ?_
          rintro e wx ⟨rfl, hbx⟩
          rw [decide_eq_true (rfl : M = M)]
          go_wp2
          go_ret
          exact ⟨by simp, chain hbx bz⟩
      · have hI2 := E2.out
        rw [if_neg hbig] at hI2
        refine HM4.out.mono ?_
        rintro e wz hz
        obtain ⟨hbz, A6, c6, rfl, rb⟩ := many_good hI2 hz
        rw [E1.out, Hlm.out] at rb ⊢
        have bz := chain hbz b6
        have r0 := r0.after hbz
        clear hI2 E2 HM4 hbz
        by_cases hl1 : len = 1
        · have qe : ((len : Int) == 1) = true := by rw [beq_iff_eq]; omega
          obtain ⟨bx, o, hA0, hbB, hc⟩ := (hrd.below bz).2 (by omega)
          have d0 := hc (0 * 1 + 0) (by rw [flat_length cRow 1 cRow_len, Hll.out]; omega)
          have dR : EdRow := (none, 0, 0, [])
          rw [flat_getD cRow 1 cRow_len dR l 0 _ (by rw [Hll.out]; omega) (by omega)] at d0
          simp only [cRow, List.getD_cons_zero, Nat.zero_mul, Nat.add_zero] at d0
          have hmem : l.getD 0 dR ∈ l := by rw [getD_some _ _ _ (by rw [Hll.out]; omega)]; exact List.getElem_mem _
          obtain ⟨y1, y2, y3, y4⟩ := hel wz bz _ hmem
          have hone : scrs l = [(l.getD 0 dR).2.2.2] := by
            have hlen1 : l.length = 1 := by rw [Hll.out]; exact hl1
            obtain ⟨z, rfl⟩ := List.length_eq_one_iff.1 hlen1
            rfl
          have hMx := G3.out _ hone
          generalize l.getD 0 dR = x at *
          obtain ⟨X, xl, xc, xs⟩ := x
          simp only at d0 y1 y2 hMx
          rw [← hMx] at y1 y2
          have Y1 := Lib.hid y1
          clear hmem hc y3 y4 hone hMx y1
          subst hA0
          go_wp2_with fail
          refine (equalEdit_any A0 X lm xl c0 xc _ w.heap.size M M wz (by omega) (by have := Y1.out; have := Hlm.out; omega) Hlm.out Y1.out r0 y2).mono ?_
          rintro e wy ⟨rfl, hby⟩
          rw [decide_eq_true (rfl : M = M)]
          have by_ := chain hby bz
          have r0 := r0.after hby
          have rb := rb.after hby
          go_wp2_with fail
          refine (equalEdit_any A6 A0 lm lm c6 c0 _ _ M M wy (by omega) (by omega) Hlm.out Hlm.out rb r0).mono ?_
          rintro e wx ⟨rfl, hbx⟩
          rw [decide_eq_true (rfl : M = M)]
          go_wp2
          go_ret
          exact ⟨by simp, chain hbx by_⟩
        · have qe : ((len : Int) == 1) = false := by rw [beq_eq_false_iff_ne]; omega
          go_wp2_with fail
          refine (equalEdit_any A6 A0 lm lm c6 c0 _ _ M M wz (by omega) (by omega) Hlm.out Hlm.out rb r0).mono ?_
          rintro e wx ⟨rfl, hbx⟩
          rw [decide_eq_true (rfl : M = M)]
          go_wp2
          go_ret
          exact ⟨by simp, chain hbx bz⟩
    · have hgf := fun w1 hb => (kf w1 hb).mono fun e w' h => many_wrong hF h
      have KF := Lib.hid hgf
      generalize manyI n ((scrs l).take q) = F at *
      have q1 : (F != 0) = true := by simpa using hF
      have hF2 : F = 2 ∨ F = 11 := g1.elim (fun h => absurd h hF) id
      clear hgf kf g1 g2 g3 k1 hmy hwi hst hsd hF hI hel hok hnil hcapm hn0 hk0 hq
      go_enter Try.func6, Try.ntmps6
      go_wp2_with fail
      refine (trims_any _).mono ?_
      rintro e w1 ⟨rfl, hb1⟩
      go_wp2_with fail
      refine (K1.out w1 hb1).mono ?_
      rintro e w2 ⟨hb2, A0, c0, rfl, r0⟩
      have b2 := chain hb2 hb1
      go_wp2_with fail
      refine (HWI.out _).mono ?_
      rintro e w2' ⟨rfl, rfl⟩
      go_wp2_with fail
      refine (KF.out w2 b2).mono ?_
      rintro e w3 ⟨hb3, rfl⟩
      rcases hF2 with rfl | rfl
      · go_wp2
        go_ret
        exact ⟨rfl, chain hb3 b2⟩
      · go_wp2
        go_ret
        exact ⟨rfl, chain hb3 b2⟩
  · have k1 := fun w1 hb => (hmy w1 hb).mono fun e w' h => many_wrong hI h
    generalize manyI n (scrs l) = I at *
    have q1 : (I != 0) = true := by simpa using hI
    have K1 := Lib.hid k1
    clear k1 hmy hel hI hok hcapm hnil hn0 hk0 hwi hq
    go_enter Try.func6, Try.ntmps6
    go_wp2_with fail
    refine (trims_any _).mono ?_
    rintro e w1 ⟨rfl, hb1⟩
    go_wp2_with fail
    refine (K1.out w1 hb1).mono ?_
    rintro e w2 ⟨hb2, rfl⟩
    go_wp2_with fail
    refine (HWI.out _).mono ?_
    rintro e w2' ⟨rfl, rfl⟩
    go_wp2
    go_ret
    exact ⟨rfl, chain hb2 hb1⟩
end Go.Proofs.Ytookbaaicpapnaa
