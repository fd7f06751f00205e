/- WordFine's walk: if two periods p and q satisfy p + q - gcd(p, q) <= length, their greatest common divisor is a period too. -/
import Derived.Test.YtmojfmoinaadgaaWordLaws
import Derived.Test.YtmojfmoinaadgaaContains
namespace Go.Proofs.Ytmojfmoinaadgaa
open Go.RowKit
set_option linter.unusedVariables false

set_option maxRecDepth 100000 in
set_option maxHeartbeats 2000000 in
theorem wordFine_walk (s : ByteArray) (hs0 : s.size ≤ 140737488351232) (w : World) :
    Calls Try.prog 6 #[.string s] w fun e w' => e = .returned (.bool true) ∧ Below w.heap.size w w' := by
  by_cases hs : s.size ≤ 200
  case neg =>
    go_enter Try.func6, Try.ntmps6
    go_wp2_with fail
    refine (words_any _).mono ?_
    rintro e w1 ⟨rfl, hb1⟩
    go_wp2_with fail
    refine (periods_no s (by omega) _).mono ?_
    rintro e w2 ⟨rfl, rfl⟩
    go_wp2
    go_ret
    exact ⟨rfl, hb1⟩
  have hsl : s.data.toList.length = s.size := rfl
  have hmem := mem_periods s.data.toList
  have hlen := periods_length s.data.toList
  rw [hsl] at hmem hlen
  have H1 := Lib.hid (periods_ok s hs)
  have hfine : ∀ p ∈ periodsOf s.data.toList, ∀ q ∈ periodsOf s.data.toList, p + q - Nat.gcd p q ≤ s.size → Nat.gcd p q ∈ periodsOf s.data.toList := fun p hp q hq h => by
    obtain ⟨p1, p2, p3⟩ := (hmem p).1 hp
    obtain ⟨q1, q2, q3⟩ := (hmem q).1 hq
    exact (hmem _).2 ⟨Nat.gcd_pos_of_pos_left _ p1, Nat.le_trans (Nat.gcd_le_left _ p1) p2, fine_wilf p1 q1 p3 q3 h⟩
  have hmi : ∀ x : Nat, ((x : Nat) : Int) ∈ nI (periodsOf s.data.toList) ↔ x ∈ periodsOf s.data.toList := fun x => by
    unfold nI
    rw [List.mem_map]
    exact ⟨fun ⟨y, hy, e⟩ => by rw [show x = y from by omega]; exact hy, fun h => ⟨x, h, rfl⟩⟩
  generalize hP : periodsOf s.data.toList = P at *
  have hnl := nI_length P
  have Hmem := Lib.hid hmem
  have Hfine := Lib.hid hfine
  have Hmi := Lib.hid hmi
  clear hP hmem hfine hmi hsl
  go_enter Try.func6, Try.ntmps6
  go_wp2_with fail
  refine (words_any _).mono ?_
  rintro e w1 ⟨rfl, hb1⟩
  go_wp2_with fail
  refine (H1.out _).mono ?_
  rintro e w2 ⟨A, c, rfl, hr2, hb2, _⟩
  have hbw := chain hb2 hb1
  obtain ⟨N, hN⟩ : ∃ N, (nI P).length = N := ⟨_, rfl⟩
  rw [hN] at hr2 hnl ⊢
  rw [← hnl] at hlen
  have HN := Lib.hid hnl
  have HN2 := Lib.hid hN
  clear hb1 hb2 hN hnl
  go_wp2
  go_loopw [6, 8, 9, 10, 25] (fun _ _ _ _ iv wr => ∃ i : Nat, i ≤ N ∧ iv = .int .i64 i ∧ Below w.heap.size w wr ∧ Reads wr w2.heap.size A N 1 ((nI P).flatMap cInt)) (fun _ _ _ _ iv _ => N - (intOf iv).toNat)
  case atStart => exact ⟨0, Nat.zero_le _, rfl, hbw, hr2⟩
  case round =>
    clear hbw hr2
    obtain ⟨i, hi, rfl, hbr, hr⟩ := hrel
    by_cases hlt : i < N
    · have hAt : ∀ j, j < N → ∃ b o, A = some ⟨b, o, none⟩ ∧ ∀ wq, Reads wq w2.heap.size A N 1 ((nI P).flatMap cInt) → wq.cell? ⟨b, o + j, none⟩ = some (.int .i64 ((P.getD j 0 : Nat) : Int)) := fun j hj => by
        obtain ⟨b, o, hA, hbB, _⟩ := hr.2 (by omega)
        refine ⟨b, o, hA, fun wq hq => ?_⟩
        obtain ⟨b', o', hA', _, hc⟩ := hq.2 (by omega)
        rw [hA] at hA'
        injection hA' with hA'
        injection hA' with e1 e2
        subst e1 e2
        have c0 := hc (j * 1 + 0) (by rw [flat_length cInt 1 cInt_len, nI_length, ← HN.out]; omega)
        rw [flat_getD cInt 1 cInt_len 0 (nI P) j _ (by rw [nI_length, ← HN.out]; exact hj) (by omega)] at c0
        have e0 : (nI P).getD j 0 = ((P.getD j 0 : Nat) : Int) := getD_map (fun p : Nat => (p : Int)) P j 0
        simp only [cInt, List.getD_cons_zero, Nat.mul_one, Nat.add_zero] at c0
        rw [e0] at c0
        exact c0
      have HAt := Lib.hid hAt
      obtain ⟨b, o, rfl, hcAt⟩ := hAt i hlt
      have c0 := hcAt wr hr
      have hpm : P.getD i 0 ∈ P := by rw [getD_some _ _ _ (by rw [← HN.out]; exact hlt)]; exact List.getElem_mem _
      obtain ⟨p1, p2, _⟩ := (Hmem.out _).1 hpm
      have Hpm := Lib.hid hpm
      clear hAt hcAt hpm
      generalize P.getD i 0 = p at *
      go_wp2
      go_loopw [8, 9, 10, 31] (fun _ _ _ jv wr => ∃ j : Nat, j ≤ N ∧ jv = .int .i64 j ∧ Below w.heap.size w wr ∧ Reads wr w2.heap.size (some ⟨b, o, none⟩) N 1 ((nI P).flatMap cInt)) (fun _ _ _ jv _ => N - (intOf jv).toNat)
      case atStart => exact ⟨0, Nat.zero_le _, rfl, hbr, hr⟩
      case round =>
        clear hbr hr c0
        obtain ⟨j, hj, rfl, hbr, hr⟩ := hrel
        by_cases hjt : j < N
        · obtain ⟨b', o', hA', hcAt⟩ := HAt.out j hjt
          injection hA' with hA'
          injection hA' with e1 e2
          subst e1 e2
          have c0 := hcAt _ hr
          have hqm : P.getD j 0 ∈ P := by rw [getD_some _ _ _ (by rw [← HN.out]; exact hjt)]; exact List.getElem_mem _
          obtain ⟨q1, q2, _⟩ := (Hmem.out _).1 hqm
          have hfw := Hfine.out p Hpm.out _ hqm
          have Hfw := Lib.hid hfw
          clear hcAt hqm hfw
          generalize P.getD j 0 = q at *
          go_wp2
          go_loopw [9, 10] (fun gv rv wq => ∃ x y : Nat, x ≤ 200 ∧ y ≤ 200 ∧ 1 ≤ x ∧ gv = .int .i64 x ∧ rv = .int .i64 y ∧ Hid (Nat.gcd x y = Nat.gcd p q) ∧ Below w.heap.size w wq ∧ Reads wq w2.heap.size (some ⟨b, o, none⟩) N 1 ((nI P).flatMap cInt)) (fun _ rv _ => (intOf rv).toNat)
          case atStart => exact ⟨p, q, by omega, by omega, by omega, rfl, rfl, rfl, hbr, hr⟩
          case round =>
            clear hbr hr c0
            obtain ⟨x, y, hx, hy, hx1, rfl, rfl, Hg, hbr, hr⟩ := hrel
            by_cases hy0 : 0 < y
            · have e1 : decide ((0 : Int) < (y : Int)) = true := decide_eq_true (by omega)
              have hy1 : (1 : Int) ≤ (y : Int) := by omega
              have hyn : ¬ ((y : Int) = 0) := by omega
              have hyn' : ((y : Int) == 0) = false := by rw [beq_eq_false_iff_ne]; exact hyn
              have hxy := Nat.mod_lt x hy0
              have hg2 : Nat.gcd y (x % y) = Nat.gcd p q := by rw [← Hg.out, Nat.gcd_comm y (x % y), ← Nat.gcd_rec, Nat.gcd_comm]
              have Hg2 := Lib.hid hg2
              have hmod : ((x : Int) % (y : Int)) = ((x % y : Nat) : Int) := by omega
              have Hmod := Lib.hid hmod
              clear hg2 hmod
              go_wp2
              go_quiet (fail)
              go_wp2
              go_roundw
              case rel => exact ⟨y, x % y, by omega, by omega, by omega, rfl, by rw [Hmod.out], Hg2, below_drewN hbr _, hr.drewN _⟩
              case measure => rw [Hmod.out]; simp [intOf]; omega
            · have e1 : decide ((0 : Int) < (y : Int)) = false := decide_eq_false (by omega)
              obtain rfl : y = 0 := by omega
              have hgx : x = Nat.gcd p q := by rw [← Hg.out, Nat.gcd_zero_right]
              have f1 : decide ((p : Int) < 1) = false := decide_eq_false (by omega)
              have f2 : decide ((q : Int) < 1) = false := decide_eq_false (by omega)
              by_cases hle : p + q - Nat.gcd p q ≤ s.size
              · have hin := Hfw.out hle
                rw [← hgx] at hle hin
                have hle2 : p + q - x ≤ s.size := hle
                have hxp : x ≤ p := by rw [hgx]; exact Nat.gcd_le_left _ (by omega)
                have f3 : decide ((p : Int) + (q : Int) - (x : Int) ≤ (s.size : Int)) = true := decide_eq_true (by omega)
                have hcn : Calls Try.prog 23 #[.slice (some ⟨b, o, none⟩) N c, .int .i64 (x : Int)] wr fun e w' => e = .returned (.bool true) ∧ wr = w' := by
                  have := containsInt_any (x : Int) (some ⟨b, o, none⟩) N c _ (nI P) wr (by omega) HN2.out hr
                  rwa [hasB_iff.2 ((Hmi.out x).2 hin)] at this
                have Hcn := Lib.hid hcn
                clear hgx hin hle hcn
                go_wp2_with fail
                refine Hcn.out.mono ?_
                rintro e w9 ⟨rfl, rfl⟩
                go_wp2
                go_roundw
                case rel => exact ⟨j + 1, by omega, by go_num, hbr, hr⟩
                case measure => simp [intOf]; omega
              · rw [← hgx] at hle
                have hxp : x ≤ p := by rw [hgx]; exact Nat.gcd_le_left _ (by omega)
                have f3 : decide ((p : Int) + (q : Int) - (x : Int) ≤ (s.size : Int)) = false := decide_eq_false (by omega)
                clear hgx
                go_wp2
                go_roundw
                case rel => exact ⟨j + 1, by omega, by go_num, hbr, hr⟩
                case measure => simp [intOf]; omega
        · go_wp2
          go_roundw
          case rel => exact ⟨i + 1, by omega, by go_num, hbr, hr⟩
          case measure => simp [intOf]; omega
    · go_wp2
      go_ret
      exact ⟨rfl, hbr⟩

end Go.Proofs.Ytmojfmoinaadgaa
