/- LyndonTurns' walk: a primitive word has exactly one rotation that is a Lyndon word, its least one, and rotations share it. -/
import Derived.Test.YtppbjomobbaeaaaLeastWalk
import Derived.Test.YtppbjomobbaeaaaWordLaws
import Derived.Deep.RegionHeld3
namespace Go.Proofs.Ytppbjomobbaeaaa
open Go.RowKit
set_option linter.unusedVariables false

theorem least_baa (w w' : World) (e : Ending) (h : ToldLeast (ByteArray.mk #[98, 97, 97]).data.toList w e w') : e = .returned (.tuple #[.string ⟨#[97, 97, 98]⟩, .int .i64 1, .int .i64 0]) ∧ Below w.heap.size w w' := by
  obtain ⟨hb, b, hl, rfl⟩ := h
  refine ⟨?_, hb⟩
  have h1 := hl.lt
  have h2 := hl.le 1 (by decide)
  have h3 : b < 3 := h1
  have hb0 : b ≠ 0 := fun h => by
    subst h
    exact absurd h2 (by unfold lle; decide)
  have hb2 : b ≠ 2 := fun h => by
    subst h
    exact absurd h2 (by unfold lle; decide)
  obtain rfl : b = 1 := by omega
  rfl
/-- At a slice made behind the region's draw. -/
theorem good_drew (es : List Int) (n c : Nat) (hes : es.length = n) (hn : n ≤ 1000) (w : World) (T : TypeId) :
    Calls Try.prog 20 #[.slice (some ⟨w.heap.size, 0, none⟩) n c] (w.alloc (.cells (es.map (Value.int .i64)).toArray T)).drew
      fun e w' => e = .returned (.bool (es.all (· == 0))) ∧ Below w.heap.size w w' := by
  refine (good_any w.heap.size 0 n c es hes hn _ fun j hj => ?_).mono fun e w' ⟨he, hw⟩ => ⟨he, by rw [← hw]; exact ((Below.refl _ _).alloc (Nat.le_refl _) _).drew⟩
  show (w.alloc _).cell? _ = _
  rw [Nat.zero_add, World.cell?_alloc_mark]
  simp [hes, hj, List.getD]

set_option maxRecDepth 100000 in
set_option maxHeartbeats 2000000 in
theorem lyndonTurns_walk (s : ByteArray) (at0 : Int) (hs0 : s.size ≤ 140737488351232) (hat : (Lit.int .i64 at0).wf = true) (w : World) :
    Calls Try.prog 6 #[.string s, .int .i64 at0] w fun e w' => e = .returned (.bool true) ∧ Below w.heap.size w w' := by
  have c1 : ∀ w, Calls Try.prog 24 #[.string ⟨#[98, 97, 97]⟩] w fun e w' => e = .returned (.tuple #[.string ⟨#[97, 97, 98]⟩, .int .i64 1, .int .i64 0]) ∧ Below w.heap.size w w' := fun w =>
    (least_ok ⟨#[98, 97, 97]⟩ (by decide) (by decide) w).mono fun e w' h => least_baa w w' e h
  have C1 := Lib.hid c1
  clear c1
  by_cases hs : s.size ≤ 200
  case neg =>
    go_enter Try.func6, Try.ntmps6
    go_wp2_with fail
    refine (C1.out _).mono ?_
    rintro e w1 ⟨rfl, hb1⟩
    go_wp2_with fail
    refine (least_no s (by omega) _).mono ?_
    rintro e w2 ⟨rfl, rfl⟩
    go_wp2
    go_ret
    exact ⟨rfl, hb1⟩
  by_cases h0 : s.size = 0
  · have q0 : (s.toList == []) = true := by rw [ByteArray.toList_eq]; rw [beq_iff_eq]; exact List.eq_nil_of_length_eq_zero h0
    go_enter Try.func6, Try.ntmps6
    go_wp2_with fail
    refine (C1.out _).mono ?_
    rintro e w1 ⟨rfl, hb1⟩
    go_wp2_with fail
    refine (least_empty s h0 _).mono ?_
    rintro e w2 ⟨hb2, rfl⟩
    have hbw := chain hb2 hb1
    go_wp2
    go_ret
    exact ⟨rfl, hbw⟩
  have q0 : (s.toList == []) = false := by
    rw [beq_eq_false_iff_ne]; intro h; rw [ByteArray.toList_eq] at h
    exact h0 (by have := congrArg List.length h; exact this)
  obtain ⟨a, ha, hal⟩ : ∃ k : Nat, at0 % (s.size : Int) = k ∧ k < s.size := by
    have h1 := Int.emod_nonneg at0 (show ((s.size : Int)) ≠ 0 by omega)
    have h2 := Int.emod_lt_of_pos at0 (show 0 < (s.size : Int) by omega)
    exact ⟨(at0 % (s.size : Int)).toNat, by omega, by omega⟩
  have hw1 : ∀ w, Calls Try.prog 18 #[.int .i64 at0, .int .i64 (s.size : Int)] w fun e w' => e = .returned (.int .i64 (a : Int)) ∧ w = w' := fun w => by
    have := within_any at0 (s.size : Int) (by omega) (by omega) w
    rwa [ha] at this
  have Hw1 := Lib.hid hw1
  have hsl : s.data.toList.length = s.size := rfl
  have hul : (rot a s.data.toList).length = s.size := rot_length _ _ (by omega)
  have H1 := Lib.hid (least_ok s hs (by omega))
  have h2 := least_ok (s.extract a s.size ++ s.extract 0 a) (by rw [rot_str]; show (rot a s.data.toList).length ≤ 200; omega) (by rw [rot_str]; show 0 < (rot a s.data.toList).length; omega)
  rw [rot_ext] at h2
  have H2 := Lib.hid h2
  have H3 := Lib.hid (root_walk s hs)
  have hs1 : 0 < s.size := by omega
  have z1 := size_back s a
  have z2 := size_front s a
  have ha' : (a : Int) ≤ s.size := by omega
  clear hw1 ha h2 h0
  go_enter Try.func6, Try.ntmps6
  go_wp2_with fail
  refine (C1.out _).mono ?_
  rintro e w1 ⟨rfl, hb1⟩
  go_wp2_with fail
  refine (H1.out _).mono ?_
  rintro e w2 ⟨hb2, b, hl, rfl⟩
  have hbw2 := chain hb2 hb1
  have hbl : b < s.size := hl.lt
  have htl : (rot b s.data.toList).length = s.size := rot_length _ _ (by omega)
  have hmin : ∀ k, k ≤ (rot b s.data.toList).length → lle (rot b s.data.toList) (rot k (rot b s.data.toList)) := fun k hk => by
    rw [htl] at hk
    rw [rot_rot _ _ _ (by omega) (by omega)]
    split
    · exact hl.le_all _ (by omega)
    · exact hl.le_all _ (by omega)
  have hlyn := least_lyn (t := rot b s.data.toList) (by omega) hmin
  rw [show expOf (rot b s.data.toList) = expOf s.data.toList from (root_turn s.data.toList b (by omega)).2] at hlyn
  have hle : lle (rot b s.data.toList) (rot a s.data.toList) := hl.le_all a (by omega)
  have h4 := is_ok (tx (rot b s.data.toList)) (by rw [tx_size, htl]; exact hs)
  rw [tx_list] at h4
  have q1 : (Op.bytesLess (tx (rot b s.data.toList)).toList (s.extract a s.size ++ s.extract 0 a).toList || (tx (rot b s.data.toList)).toList == (s.extract a s.size ++ s.extract 0 a).toList) = true := leq_is (by rw [tx_list, rot_ext]; exact hle)
  have q2 : ((s.extract b s.size ++ s.extract 0 b).toList == (tx (rot b s.data.toList)).toList) = true := by rw [rot_str]; simp
  have hsame : ∀ c, LeastAt (rot a s.data.toList) c → rot c (rot a s.data.toList) = rot b s.data.toList := fun c hc => least_same (by omega) hl hc
  have Hsame := Lib.hid hsame
  have Hlyn := Lib.hid hlyn
  have H4 := Lib.hid h4
  generalize expOf s.data.toList = n at *
  clear hsame hlyn h4 hle hmin hl htl hb1 hb2 hul hsl
  go_wp2_with fail
  refine (Hw1.out _).mono ?_
  rintro e w3 ⟨rfl, rfl⟩
  go_wp2_with fail
  go_quiet (fail)
  go_wp2_with fail
  refine (H2.out _).mono ?_
  rintro e w4 ⟨hb4, c, hc, rfl⟩
  have hbw4 := chain hb4 (below_drewN hbw2 _)
  rw [Hsame.out c hc]
  go_wp2_with fail
  refine (H3.out _).mono ?_
  rintro e w5 ⟨rfl, hb5⟩
  have hbw5 := chain hb5 hbw4
  go_wp2_with fail
  refine (H4.out _).mono ?_
  rintro e w6 ⟨x, hx, rfl, hb6⟩
  have hbw6 := chain hb6 hbw5
  have q3 : (x == ((n : Int) == 1)) = true := by
    rw [beq_iff_eq, Bool.eq_iff_iff, hx, Hlyn.out, beq_iff_eq]; omega
  have hcl : c < s.size := by have := hc.lt; rw [rot_length _ _ (by show a ≤ s.size; omega)] at this; exact this
  generalize tx (rot b s.data.toList) = t at *
  generalize (ByteArray.mk (rootOf s.data.toList).toArray) = r at *
  have q4 : (t.toList == t.toList) = true := by simp
  have q5 : decide ((0 : Int) ≤ (b : Int)) = true := decide_eq_true (by omega)
  have q6 : decide ((b : Int) < (s.size : Int)) = true := decide_eq_true (by omega)
  have q6n : decide (b < s.size) = true := decide_eq_true hbl
  have q7 : ([0, 0, 0] : List Int).all (· == 0) = true := by decide
  have hb' : (b : Int) ≤ s.size := by omega
  have z3 := size_back s b
  have z4 := size_front s b
  have hca : ∀ w, (Op.stringOp .add (s.extract b s.size) (s.extract 0 b)).run Try.prog w = .ok (.string (s.extract b s.size ++ s.extract 0 b)) w := fun w => run_string_add_sum w _ _ (by omega)
  clear hx hc Hsame Hlyn H1 H2 H3 H4 hb4 hb5 hb6 hbw5 hbw4 hbw2 C1 Hw1
  go_wp2_with fail
  go_region_held3 (fun w' => Below w.heap.size w w') (first | exact hbw6.drew | assumption | exact (Below.alloc (by assumption) (Below.size (by assumption)) _) | exact chain (by assumption) (by assumption))
    ((go_at_call 20; refine (good_drew [0, 0, 0] 3 3 rfl (by decide) _ _).mono ?_; rintro e w7 ⟨rfl, hb7⟩))
  have hbw7 : Below w.heap.size w w7 := by assumption
  go_wp2
  go_ret
  exact ⟨by simp, hbw7⟩

end Go.Proofs.Ytppbjomobbaeaaa
