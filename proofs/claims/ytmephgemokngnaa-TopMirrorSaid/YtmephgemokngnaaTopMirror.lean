/- TopMirror's walk: a word and it from behind. -/
import Derived.Test.YtmephgemokngnaaTopWorks
import Derived.Test.YtmephgemokngnaaMirrorLong
import Derived.Test.YtmephgemokngnaaDiffCost
import Derived.Test.YtmephgemokngnaaDist
import Derived.Test.YtmephgemokngnaaBack
namespace Go.Proofs.Ytmephgemokngnaa
open Go.RowKit
set_option linter.unusedVariables false

/-- The longest palindrome is no longer than what both have. -/
theorem top_lcs {s : List UInt8} {f : Nat → Nat} {a n : Nat} (hf : ∀ k, k < 2 * s.length + 1 → IsArm s k (f k)) (hb : BestArm f (2 * s.length + 1) a n) : a + n ≤ s.length ∧ n ≤ lcs s s.reverse ∧ (n = s.length ↔ s = s.reverse) := by
  have hseg : a + n ≤ s.length ∧ (seg s a n).reverse = seg s a n := by
    rcases hb.at_ with ⟨h1, h2⟩ | ⟨j, h1, h2, h3⟩
    · subst h1 h2
      exact ⟨Nat.zero_le _, rfl⟩
    · have ha := hf j h1
      have hbd := isArm_bd ha
      have hp := isArm_parity ha
      rw [h2] at ha hbd hp
      have hj : j = n + 2 * a := by omega
      rw [hj] at ha
      exact ⟨by omega, arm_pal ha.1⟩
  obtain ⟨h1, h2⟩ := hseg
  have hl := seg_len h1
  refine ⟨h1, ?_, ?_⟩
  · have hsub : (seg s a n).Sublist s := (List.take_sublist _ _).trans (List.drop_sublist _ _)
    have := lcs_max s s.reverse (seg s a n) hsub (by
      have := List.reverse_sublist.2 hsub
      rwa [h2] at this)
    omega
  · constructor
    · intro e
      have ha0 : a = 0 := by omega
      subst ha0
      have : seg s 0 n = s := by unfold seg; rw [List.drop_zero, List.take_of_length_le (by omega)]
      rw [this] at h2
      exact h2.symm
    · intro e
      have harm : Arm s (s.length + 2 * 0) s.length := pal_arm (by omega) (by
        have : seg s 0 s.length = s := by unfold seg; rw [List.drop_zero, List.take_of_length_le (Nat.le_refl _)]
        rw [this]; exact e.symm)
      rw [Nat.mul_zero, Nat.add_zero] at harm
      have hi := hf s.length (by omega)
      have h3 : s.length ≤ f s.length := Nat.le_of_not_lt fun h => hi.2 (harm.less h)
      have := hb.most s.length (by omega)
      omega
theorem lev_zero_iff (a b : List UInt8) : lev a b = 0 ↔ a = b := by
  constructor
  · intro h
    obtain ⟨h1, h2, h3⟩ := lcs_lev a b
    rw [h] at h1 h2
    have e1 : a.Sublist b := (lcs_full a b).1 (Nat.le_antisymm (lcs_le_left a b) (by omega))
    have e2 : b.Sublist a := (lcs_full b a).1 (Nat.le_antisymm (lcs_le_left b a) (by rw [lcs_comm]; omega))
    exact e1.eq_of_length (Nat.le_antisymm e1.length_le e2.length_le)
  · rintro rfl
    have := lev_lcs a a
    have h2 := lcs_max a a a (List.Sublist.refl _) (List.Sublist.refl _)
    omega

set_option maxRecDepth 100000 in
set_option maxHeartbeats 4000000 in
theorem topMirror_walk (s : ByteArray) (hs0 : s.size ≤ 140737488351232) (w : World) :
    Calls Try.prog 3 #[.string s] w fun e w' => e = .returned (.bool true) ∧ Below w.heap.size w w' := by
  have hcv := fun w s => run_bytes_of_string (P := Try.prog) w 9 22 5 s Try.underlying9 Try.underlying22 Try.underlying5
  obtain ⟨B, hB⟩ : ∃ B : ByteArray, B = ⟨s.data.toList.reverse.toArray⟩ := ⟨_, rfl⟩
  have hBl : B.data.toList = s.data.toList.reverse := by rw [hB]
  have hBs : B.size = s.size := by
    have := congrArg List.length hBl
    rw [List.length_reverse] at this
    exact this
  have HB := Lib.hid hB
  have HBl := Lib.hid hBl
  clear hB hBl
  go_enter Try.func3, Try.ntmps3
  go_wp2_with fail
  generalize hW : World.drew _ = W
  obtain ⟨hb2, hz2, hat⟩ := bytes_at s _ (grownCap_ge _ _ _ _) _ _ _ hW
  clear hW
  generalize grownCap _ _ _ _ = cap
  refine (reverse_any w.heap.size w.heap.size s.size cap s.data.toList rfl (by omega) (Nat.le_refl _) w W hb2 hat).mono ?_
  rintro e w1 ⟨rfl, hb1, hat1⟩
  have hst : (convert 22 9 (.slice (some ⟨w.heap.size, 0, none⟩) s.size cap)).run Try.prog w1 = .ok (.string B) w1 := by
    rw [HB.out]
    exact run_string_of w1 _ _ 5 ⟨w.heap.size, 0, none⟩ s.size cap s.data.toList.reverse (by simp) Try.underlying22 Try.underlying5 Try.underlying9 (fun j hj => by rw [add_zero, (hat1.2 j hj).1, List.getD_eq_getElem?_getD, List.getElem?_eq_getElem hj]; rfl)
  clear hat1 hat hb2 hcv
  by_cases hs : s.size ≤ 200
  case neg =>
    have h1 := Lib.hid (longest_no s (by omega))
    have h2 := Lib.hid (long_no s B (.inl (by omega)))
    have h3 := Lib.hid (dist_no s B (.inl (by omega)))
    have h4 := Lib.hid (cost_any s B)
    have e0 : ce s B = 2 := by unfold ce; rw [if_neg (by omega)]
    have e1 : cv s B = 0 := by unfold cv; rw [if_neg (by omega)]
    rw [e0, e1] at h4
    clear e0 e1 hs hBs
    go_wp2_with fail
    refine (h1.out _).mono ?_
    rintro e w2 ⟨rfl, rfl⟩
    go_wp2_with fail
    refine (h2.out _).mono ?_
    rintro e w2 ⟨rfl, rfl⟩
    go_wp2_with fail
    refine (h3.out _).mono ?_
    rintro e w2 ⟨rfl, rfl⟩
    go_wp2_with fail
    refine (h4.out _).mono ?_
    rintro e w2 ⟨rfl, hb2⟩
    have hb2 := chain_to hb2 hb1 (Nat.le_refl _)
    go_wp2_with fail
    refine (works_any _).mono ?_
    rintro e w3 ⟨rfl, hb3⟩
    have hb3 := chain_to hb3 hb2 (Nat.le_refl _)
    go_wp2_with fail
    refine (works_any _).mono ?_
    rintro e w4 ⟨rfl, hb4⟩
    have hb4 := chain_to hb4 hb3 (Nat.le_refl _)
    go_wp2
    all_goals (go_ret; exact ⟨by first | rfl | simp, hb4⟩)
  have h1 := Lib.hid (longest_ok s hs)
  have h2 := Lib.hid (long_ok s B hs (by omega))
  have h3 := Lib.hid (dist_ok s B hs (by omega))
  have h4 := Lib.hid (cost_any s B)
  rw [cv_ok ⟨hs, by omega⟩, ce_ok ⟨hs, by omega⟩] at h4
  have hlv := lev_lcs s.data.toList B.data.toList
  have hlz := lev_zero_iff s.data.toList B.data.toList
  have hll := lcs_le_left s.data.toList B.data.toList
  rw [show s.data.toList.length = s.size from rfl] at hlv hll
  rw [show B.data.toList.length = B.size from rfl, hBs] at hlv
  rw [hBs] at h4
  have Hlz := Lib.hid hlz
  have G := Lib.hid (fun w => goodT_fresh [0, 0, 0] 3 3 rfl (by decide) w 24)
  clear hlz
  go_wp2_with fail
  refine (h1.out _).mono ?_
  rintro e w2 ⟨f, a, n, hf, hb, rfl, hb2⟩
  have hb2 := chain_to hb2 hb1 (Nat.le_refl _)
  obtain ⟨g1, g2, g3⟩ := top_lcs (s := s.data.toList) hf hb
  rw [← HBl.out] at g2 g3
  rw [show s.data.toList.length = s.size from rfl] at g1 g3
  have hts : (s.extract a (a + n)).size = n := by simp; omega
  have htn : s.extract a (a + n) = s ↔ n = s.size := by
    constructor
    · intro e; rw [e] at hts; exact hts.symm
    · intro e
      have ha : a = 0 := by omega
      subst ha e
      rw [Nat.zero_add]
      exact str_ext (by rw [Lib.extract_data]; simp only [Nat.sub_zero, List.drop_zero]; exact List.take_of_length_le (Nat.le_refl _))
  have hbool : (s.extract a (a + n) = s) ↔ lev s.data.toList B.data.toList = 0 := by rw [htn, g3, Hlz.out]
  have Hbool := Lib.hid hbool
  clear hf hb g3 htn hbool
  generalize s.extract a (a + n) = t at *
  generalize lcs s.data.toList B.data.toList = L at *
  generalize lev s.data.toList B.data.toList = D at *
  obtain ⟨C, hC⟩ : ∃ C : Nat, (s.size : Int) + s.size - 2 * (L : Nat) = ((2 * C : Nat) : Int) := ⟨s.size - L, by omega⟩
  rw [hC] at h4
  have q1 : decide ((t.size : Int) ≤ (L : Int)) = true := decide_eq_true (by omega)
  have q1' : decide (t.size ≤ L) = true := decide_eq_true (by omega)
  have q4 : decide ((D : Int) ≤ ((2 * C : Nat) : Int)) = true := decide_eq_true (by omega)
  have q4' : decide (D ≤ 2 * C) = true := decide_eq_true (by omega)
  have q3 : ((((2 * C : Nat) : Int).tmod 2) == 0) = true := by rw [beq_iff_eq, Int.tmod_eq_emod_of_nonneg (by omega)]; omega
  have q3' : ((((2 * C : Nat) : Int) % 2) == 0) = true := by rw [beq_iff_eq]; omega
  have q5 : (((2 * C : Nat) : Int) == 2 * (s.size : Int) - 2 * (L : Int)) = true := by rw [beq_iff_eq]; omega
  obtain ⟨bb, hbb1, hbb2⟩ : ∃ bb : Bool, ((D : Int) == 0) = bb ∧ (t.toList == s.toList) = bb := by
    by_cases h0 : D = 0
    · refine ⟨true, by rw [beq_iff_eq]; omega, ?_⟩
      rw [Hbool.out.2 h0]; simp
    · refine ⟨false, by rw [beq_eq_false_iff_ne]; omega, ?_⟩
      rw [beq_eq_false_iff_ne, ByteArray.toList_eq, ByteArray.toList_eq]
      intro e
      exact h0 (Hbool.out.1 (str_ext e))
  have q6 : (bb == bb) = true := by simp
  have hCb : 2 * C ≤ 400 := by omega
  have hw : wrap64 (2 * (s.size : Int) - wrap64 (2 * (L : Int))) = ((2 * C : Nat) : Int) := by
    rw [IntWalk.wrap64_in (2 * (L : Int)) (by omega), IntWalk.wrap64_in _ (by omega)]; omega
  have HW := Lib.hid hw
  clear hw
  generalize 2 * C = C2 at *
  clear hC hlv hll g1 g2 hts hBs Hlz
  go_wp2_with fail
  refine (h2.out _).mono ?_
  rintro e w3 ⟨rfl, hb3⟩
  have hb3 := chain_to hb3 hb2 (Nat.le_refl _)
  go_wp2_with fail
  refine (h3.out _).mono ?_
  rintro e w4 ⟨rfl, hb4⟩
  have hb4 := chain_to hb4 hb3 (Nat.le_refl _)
  go_wp2_with fail
  refine (h4.out _).mono ?_
  rintro e w5 ⟨rfl, hb5⟩
  have hb5 := chain_to hb5 hb4 (Nat.le_refl _)
  go_wp2_with fail
  refine (works_any _).mono ?_
  rintro e w6 ⟨rfl, hb6⟩
  have hb6 := chain_to hb6 hb5 (Nat.le_refl _)
  go_wp2_with fail
  refine (G.out _).mono ?_
  rintro e w7 ⟨rfl, hb7⟩
  have hb7 := chain_to hb7 hb6 (Nat.le_refl _)
  go_wp2
  all_goals (go_ret; exact ⟨by simp [HW.out], hb7⟩)
end Go.Proofs.Ytmephgemokngnaa
