/- The walk of 'merges', and MergeSelf's walk: merging with itself or with the empty script has no effect, and nothing remains. -/
import Derived.Test.YtookbaaicpapnaaMergeBehind
namespace Go.Proofs.Ytookbaaicpapnaa
open Go.RowKit
set_option linter.unusedVariables false

theorem merges_1 : checkM 5 [(0, 0, ⟨#[120]⟩)] [(3, 1, ⟨#[]⟩)] = 0 := by decide +kernel
theorem merges_2 : ¬ ∃ x ∈ ([(0, 0, ⟨#[120]⟩)] : List Ed), ∃ y ∈ ([(3, 1, ⟨#[]⟩)] : List Ed), Clash x y := by decide +kernel
theorem merges_3 : mergeE [(0, 0, ⟨#[120]⟩)] [(3, 1, ⟨#[]⟩)] = [(0, 0, ⟨#[120]⟩), (3, 1, ⟨#[]⟩)] := by
  rw [mergeE_cons, if_pos (by decide), mergeE_nil_left]
theorem merges_4 : checkE 5 [(0, 0, ⟨#[120]⟩), (3, 1, ⟨#[]⟩)] = 0 := by decide +kernel
theorem merges_5 : bothE 5 [(0, 0, ⟨#[120]⟩)] [(3, 1, ⟨#[]⟩)] = 0 := by
  unfold bothE
  rw [if_neg (by rw [merges_1]; simp), if_neg merges_2, merges_3, merges_4]
theorem merges_6 : behindE [(0, 0, ⟨#[120]⟩)] [(3, 1, ⟨#[]⟩)] = [(4, 1, ⟨#[]⟩)] := by decide +kernel

theorem okEds_of {l : List Ed} (h : ∀ x ∈ l, OkEdit x) : OkEds l := h
theorem both_ok {n : Int} {a b : List Ed} {w : World} {e : Ending} {w' : World} (h0 : bothE n a b = 0) (h : ToldBoth n a b w e w') :
    Below w.heap.size w w' ∧ ∃ A c, e = .returned (.tuple #[.slice A (mergeE a b).length c, .int .i64 0]) ∧ Reads w' w'.heap.size A (mergeE a b).length 3 ((mergeE a b).flatMap cEdit) ∧ (mergeE a b).length ≤ c ∧ c ≤ maxLen := by
  obtain ⟨hb, h⟩ := h
  rcases h with ⟨h, _⟩ | ⟨_, h⟩
  · exact absurd h0 h
  · exact ⟨hb, h⟩
theorem both_bad {n : Int} {a b : List Ed} {w : World} {e : Ending} {w' : World} (h0 : bothE n a b ≠ 0) (h : ToldBoth n a b w e w') :
    Below w.heap.size w w' ∧ e = .returned (.tuple #[.slice none 0 0, .int .i64 (bothE n a b)]) := by
  obtain ⟨hb, h⟩ := h
  rcases h with ⟨_, h⟩ | ⟨h, _⟩
  · exact ⟨hb, h⟩
  · exact absurd h h0
theorem behind_ok {n : Int} {a b : List Ed} {w : World} {e : Ending} {w' : World} (h0 : bothE n a b = 0) (h : ToldBehind n a b w e w') :
    Below w.heap.size w w' ∧ ∃ A c, e = .returned (.tuple #[.slice A (behindE a b).length c, .int .i64 0]) ∧ Reads w' w'.heap.size A (behindE a b).length 3 ((behindE a b).flatMap cEdit) ∧ (behindE a b).length ≤ c ∧ c ≤ maxLen := by
  obtain ⟨hb, h⟩ := h
  rcases h with ⟨h, _⟩ | ⟨_, h⟩
  · exact absurd h0 h
  · exact ⟨hb, h⟩
theorem behind_bad {n : Int} {a b : List Ed} {w : World} {e : Ending} {w' : World} (h0 : bothE n a b ≠ 0) (h : ToldBehind n a b w e w') :
    Below w.heap.size w w' ∧ e = .returned (.tuple #[.slice none 0 0, .int .i64 (bothE n a b)]) := by
  obtain ⟨hb, h⟩ := h
  rcases h with ⟨_, h⟩ | ⟨h, _⟩
  · exact ⟨hb, h⟩
  · exact absurd h h0

set_option maxRecDepth 100000 in
set_option maxHeartbeats 2000000 in
theorem merges_any (w : World) : Calls Try.prog 14 #[] w fun e w' => e = .returned (.bool true) ∧ Below w.heap.size w w' := by
  have oa : OkEds [(0, 0, ⟨#[120]⟩)] := fun x hx => by rw [List.mem_singleton.1 hx]; decide
  have ob : OkEds [(3, 1, ⟨#[]⟩)] := fun x hx => by rw [List.mem_singleton.1 hx]; decide
  have c1 : ∀ (A A' : Option Addr) (c c' B : Nat) (w : World), Reads w B A 1 3 [.int .i64 0, .int .i64 0, .string ⟨#[120]⟩] → Reads w B A' 1 3 [.int .i64 3, .int .i64 1, .string ⟨#[]⟩] → B ≤ w.heap.size → Calls Try.prog 15 #[.int .i64 5, .slice A 1 c, .slice A' 1 c'] w fun e w' =>
      Below w.heap.size w w' ∧ ∃ A c, e = .returned (.tuple #[.slice A 2 c, .int .i64 0]) ∧ Reads w' w'.heap.size A 2 3 (([(0, 0, ⟨#[120]⟩), (3, 1, ⟨#[]⟩)] : List Ed).flatMap cEdit) := fun A A' c c' B w ra rb hB =>
    (both_any 5 (by decide) A A' 1 1 c c' B [(0, 0, ⟨#[120]⟩)] [(3, 1, ⟨#[]⟩)] (by decide) (by decide) rfl rfl oa ob w ra rb hB).mono fun e w' h => by
      obtain ⟨hb, A, c, h1, h2, _⟩ := both_ok merges_5 h
      rw [merges_3] at h1 h2
      exact ⟨hb, A, c, h1, h2⟩
  have c2 : ∀ (A A' : Option Addr) (c c' B : Nat) (w : World), Reads w B A 1 3 [.int .i64 0, .int .i64 0, .string ⟨#[120]⟩] → Reads w B A' 1 3 [.int .i64 3, .int .i64 1, .string ⟨#[]⟩] → B ≤ w.heap.size → Calls Try.prog 16 #[.int .i64 5, .slice A 1 c, .slice A' 1 c'] w fun e w' =>
      Below w.heap.size w w' ∧ ∃ A c, e = .returned (.tuple #[.slice A 1 c, .int .i64 0]) ∧ Reads w' w'.heap.size A 1 3 (([(4, 1, ⟨#[]⟩)] : List Ed).flatMap cEdit) := fun A A' c c' B w ra rb hB =>
    (behind_any 5 (by decide) A A' 1 1 c c' B [(0, 0, ⟨#[120]⟩)] [(3, 1, ⟨#[]⟩)] (by decide) (by decide) rfl rfl oa ob w ra rb hB).mono fun e w' h => by
      obtain ⟨hb, A, c, h1, h2, _⟩ := behind_ok merges_5 h
      rw [merges_6] at h1 h2
      exact ⟨hb, A, c, h1, h2⟩
  have C1 := Lib.hid c1
  have C2 := Lib.hid c2
  clear c1 c2 oa ob
  have hbd := buildEdit
  have r1 := Reads.made w #[.int .i64 0, .int .i64 0, .string ⟨#[120]⟩] 31 1 3 rfl
  have r2 := Reads.made (w.alloc (Obj.cells #[.int .i64 0, .int .i64 0, .string ⟨#[120]⟩] 31)) #[.int .i64 3, .int .i64 1, .string ⟨#[]⟩] 31 1 3 rfl
  have r1' := r1.after ((Below.refl _ _).alloc (Nat.le_refl _) (Obj.cells #[.int .i64 3, .int .i64 1, .string ⟨#[]⟩] 31))
  have hb0 : Below w.heap.size w ((w.alloc (Obj.cells #[.int .i64 0, .int .i64 0, .string ⟨#[120]⟩] 31)).alloc (Obj.cells #[.int .i64 3, .int .i64 1, .string ⟨#[]⟩] 31)) := ((Below.refl _ _).alloc (Nat.le_refl _) _).alloc (by simp) _
  go_enter Try.func14, Try.ntmps14
  go_wp2_with fail
  rw [show (w.alloc (Obj.cells #[.int .i64 0, .int .i64 0, .string ⟨#[120]⟩] 31)).heap.size = w.heap.size + 1 from by simp] at r2
  generalize (w.alloc (Obj.cells #[.int .i64 0, .int .i64 0, .string ⟨#[120]⟩] 31)).alloc (Obj.cells #[.int .i64 3, .int .i64 1, .string ⟨#[]⟩] 31) = W at *
  refine (C1.out _ _ 1 1 _ W r1' r2 (Nat.le_refl _)).mono ?_
  rintro e w1 ⟨hb1, A1, k1, rfl, hr1⟩
  have hbw1 := chain hb1 hb0
  have s1 := r1'.below' hb1 (Nat.le_refl _)
  have s2 := r2.below' hb1 (Nat.le_refl _)
  go_wp2_with fail
  refine (C2.out _ _ 1 1 _ w1 s1 s2 hb1.size).mono ?_
  rintro e w2 ⟨hb2, A2, k2, rfl, hr2⟩
  have hbw2 := chain hb2 hbw1
  have t1 := hr1.after hb2
  clear C1 C2 r1 r1' r2 s1 s2 hb0 hr1 hb1
  go_wp2_with fail
  refine (good_fresh [0, 0] 2 2 rfl (by decide) _ _).mono ?_
  rintro e w3 ⟨rfl, hb3⟩
  have q0 : ([0, 0] : List Int).all (· == 0) = true := by decide
  have hbw3 := chain hb3 hbw2
  have t1 := t1.after hb3
  have t2 := hr2.after hb3
  go_wp2_with fail
  refine (equalEdit_any A1 (some ⟨w3.heap.size, 0, none⟩) 2 2 k1 2 w3.heap.size _ [(0, 0, ⟨#[120]⟩), (3, 1, ⟨#[]⟩)] [(0, 0, ⟨#[120]⟩), (3, 1, ⟨#[]⟩)] _ (by decide) (by decide) rfl rfl (t1.below' ((Below.refl _ _).alloc (Nat.le_refl _) _) (Nat.le_refl _)) (Reads.made w3 #[.int .i64 0, .int .i64 0, .string ⟨#[120]⟩, .int .i64 3, .int .i64 1, .string ⟨#[]⟩] _ 2 3 rfl)).mono ?_
  rintro e w4 ⟨rfl, hb4⟩
  have hb4' : Below w3.heap.size w3 w4 := ((Below.refl _ _).alloc (Nat.le_refl _) _).trans (hb4.mono (by simp))
  have hbw4 := chain hb4' hbw3
  have t2 := t2.after hb4'
  clear hb4 t1
  rw [decide_eq_true (rfl : ([(0, 0, ⟨#[120]⟩), (3, 1, ⟨#[]⟩)] : List Ed) = _)]
  go_wp2_with fail
  refine (equalEdit_any A2 (some ⟨w4.heap.size, 0, none⟩) 1 1 k2 1 w4.heap.size _ [(4, 1, ⟨#[]⟩)] [(4, 1, ⟨#[]⟩)] _ (by decide) (by decide) rfl rfl (t2.below' ((Below.refl _ _).alloc (Nat.le_refl _) _) (Nat.le_refl _)) (Reads.made w4 #[.int .i64 4, .int .i64 1, .string ⟨#[]⟩] _ 1 3 rfl)).mono ?_
  rintro e w5 ⟨rfl, hb5⟩
  have hb5' : Below w4.heap.size w4 w5 := ((Below.refl _ _).alloc (Nat.le_refl _) _).trans (hb5.mono (by simp))
  go_wp2
  go_ret
  exact ⟨by simp, chain hb5' hbw4⟩

/-- Merging with itself, and with nothing. -/
theorem self_law (n : Int) (a : List Ed) (h : checkE n a = 0) : bothE n a a = 0 ∧ bothE n a [] = 0 ∧ bothE n [] a = 0 ∧ behindE a a = [] ∧ behindE [] a = a := by
  obtain ⟨h0, h1, h2, h3, h4⟩ := checkE_ok h
  have hn : checkE n [] = 0 := by unfold checkE; rw [if_neg (by omega), if_neg (by simp)]; unfold chk; rw [if_neg (by omega)]
  refine ⟨?_, ?_, ?_, behindE_self a a (fun x hx => hx), behindE_nil a⟩
  · unfold bothE checkM
    have hno : ¬ ∃ x ∈ a, ∃ y ∈ a, Clash x y := by
      rintro ⟨x, hx, y, hy, hc⟩
      exact h3.noClash x hx y hy hc
    rw [h, if_neg hno, mergeE_self, h]
    simp
  · unfold bothE checkM
    rw [h, hn, mergeE_nil_right, h]
    simp
  · unfold bothE checkM
    rw [h, hn, mergeE_nil_left, h]
    simp
theorem self_bad (n : Int) (a : List Ed) (h : checkE n a ≠ 0) : bothE n a a = checkE n a ∧ bothE n a [] = checkE n a ∧ bothE n [] a = checkE n a := by
  have h1 : checkM n a a = checkE n a := by unfold checkM; rw [if_pos h]
  have h2 : checkM n a [] = checkE n a := by unfold checkM; rw [if_pos h]
  have h3 : checkM n [] a = checkE n a := by
    unfold checkM
    by_cases hn : n < 0 ∨ 200 < n
    · have : checkE n [] = 1 := by unfold checkE; rw [if_pos hn]
      rw [this, if_pos (by decide)]
      unfold checkE
      rw [if_pos hn]
    · have : checkE n [] = 0 := by unfold checkE; rw [if_neg hn, if_neg (by simp)]; unfold chk; rw [if_neg (by omega)]
      rw [this, if_neg (by simp)]
  refine ⟨?_, ?_, ?_⟩
  · unfold bothE; rw [h1, if_pos h]
  · unfold bothE; rw [h2, if_pos h]
  · unfold bothE; rw [h3, if_pos h]

set_option maxRecDepth 100000 in
set_option maxHeartbeats 2000000 in
theorem mergeSelf_walk (n : Int) (A : Option Addr) (len cap : Nat) (a : List Ed) (hn0 : (Lit.int .i64 n).wf = true) (w : World) (ha : EditsIn w A len cap a) :
    Calls Try.prog 3 #[.int .i64 n, .slice A len cap] w fun e w' => e = .returned (.bool true) ∧ Below w.heap.size w w' := by
  have hn : -9223372036854775808 ≤ n ∧ n ≤ 9223372036854775807 := by have := bounds_i64 hn0; omega
  obtain ⟨hll, hrd, hlen, hok, hcap, hcapm, hnil⟩ := ha
  have oa : OkEds a := hok
  have on : OkEds [] := fun x hx => by cases hx
  have hl4 : len ≤ 4398046511104 := by omega
  have rn : ∀ w : World, ∀ B, Reads w B none 0 3 (([] : List Ed).flatMap cEdit) := fun w B => ⟨rfl, fun h => absurd h (by omega)⟩
  by_cases hE : checkE n a = 0
  · obtain ⟨e1, e2, e3, e4, e5⟩ := self_law n a hE
    have k1 : ∀ w1, Reads w1 w.heap.size A len 3 (a.flatMap cEdit) → w.heap.size ≤ w1.heap.size → Calls Try.prog 15 #[.int .i64 n, .slice A len cap, .slice A len cap] w1 fun e w' => Below w1.heap.size w1 w' ∧ ∃ A1 c1, e = .returned (.tuple #[.slice A1 len c1, .int .i64 0]) ∧ Reads w' w'.heap.size A1 len 3 (a.flatMap cEdit) := fun w1 r hB =>
      (both_any n hn A A len len cap cap w.heap.size a a hl4 hl4 hll hll oa oa w1 r r hB).mono fun e w' h => by
        obtain ⟨hb, A1, c1, h1, h2, _⟩ := both_ok e1 h
        rw [mergeE_self, hll] at h1 h2
        exact ⟨hb, A1, c1, h1, h2⟩
    have k2 : ∀ w1, Reads w1 w.heap.size A len 3 (a.flatMap cEdit) → w.heap.size ≤ w1.heap.size → Calls Try.prog 15 #[.int .i64 n, .slice A len cap, .slice none 0 0] w1 fun e w' => Below w1.heap.size w1 w' ∧ ∃ A1 c1, e = .returned (.tuple #[.slice A1 len c1, .int .i64 0]) ∧ Reads w' w'.heap.size A1 len 3 (a.flatMap cEdit) := fun w1 r hB =>
      (both_any n hn A none len 0 cap 0 w.heap.size a [] hl4 (by decide) hll rfl oa on w1 r (rn w1 _) hB).mono fun e w' h => by
        obtain ⟨hb, A1, c1, h1, h2, _⟩ := both_ok e2 h
        rw [mergeE_nil_right, hll] at h1 h2
        exact ⟨hb, A1, c1, h1, h2⟩
    have k3 : ∀ w1, Reads w1 w.heap.size A len 3 (a.flatMap cEdit) → w.heap.size ≤ w1.heap.size → Calls Try.prog 16 #[.int .i64 n, .slice A len cap, .slice A len cap] w1 fun e w' => Below w1.heap.size w1 w' ∧ ∃ A1 c1, e = .returned (.tuple #[.slice A1 0 c1, .int .i64 0]) := fun w1 r hB =>
      (behind_any n hn A A len len cap cap w.heap.size a a hl4 hl4 hll hll oa oa w1 r r hB).mono fun e w' h => by
        obtain ⟨hb, A1, c1, h1, h2, _⟩ := behind_ok e1 h
        rw [e4] at h1
        exact ⟨hb, A1, c1, h1⟩
    have k4 : ∀ w1, Reads w1 w.heap.size A len 3 (a.flatMap cEdit) → w.heap.size ≤ w1.heap.size → Calls Try.prog 16 #[.int .i64 n, .slice none 0 0, .slice A len cap] w1 fun e w' => Below w1.heap.size w1 w' ∧ ∃ A1 c1, e = .returned (.tuple #[.slice A1 len c1, .int .i64 0]) ∧ Reads w' w'.heap.size A1 len 3 (a.flatMap cEdit) := fun w1 r hB =>
      (behind_any n hn none A 0 len 0 cap w.heap.size [] a (by decide) hl4 rfl hll on oa w1 (rn w1 _) r hB).mono fun e w' h => by
        obtain ⟨hb, A1, c1, h1, h2, _⟩ := behind_ok e3 h
        rw [e5, hll] at h1 h2
        exact ⟨hb, A1, c1, h1, h2⟩
    have k5 : ∀ w1, Reads w1 w.heap.size A len 3 (a.flatMap cEdit) → w.heap.size ≤ w1.heap.size → Calls Try.prog 17 #[.int .i64 n, .slice A len cap] w1 fun e w' => e = .returned (.int .i64 0) ∧ Below w1.heap.size w1 w' := fun w1 r hB => by
      have := check_any n hn A len cap w.heap.size a hl4 hll oa w1 r hB
      rw [hE] at this
      exact this
    have K1 := Lib.hid k1
    have K2 := Lib.hid k2
    have K3 := Lib.hid k3
    have K4 := Lib.hid k4
    have K5 := Lib.hid k5
    have Hll := Lib.hid hll
    clear k1 k2 k3 k4 k5 e1 e2 e3 e4 e5 hE oa on hok rn hn0 hll hcap hcapm hnil
    go_enter Try.func3, Try.ntmps3
    go_wp2_with fail
    refine (merges_any _).mono ?_
    rintro e w1 ⟨rfl, hb1⟩
    go_wp2_with fail
    refine (K1.out w1 (hrd.below hb1) hb1.size).mono ?_
    rintro e w2 ⟨hb2, A1, c1, rfl, r1⟩
    have hbw2 := chain hb2 hb1
    go_wp2_with fail
    refine (K2.out w2 (hrd.below hbw2) hbw2.size).mono ?_
    rintro e w3 ⟨hb3, A2, c2, rfl, r2⟩
    have hbw3 := chain hb3 hbw2
    have r1 := r1.after hb3
    go_wp2_with fail
    refine (K3.out w3 (hrd.below hbw3) hbw3.size).mono ?_
    rintro e w4 ⟨hb4, A3, c3, rfl⟩
    have hbw4 := chain hb4 hbw3
    have r1 := r1.after hb4
    have r2 := r2.after hb4
    go_wp2_with fail
    refine (K4.out w4 (hrd.below hbw4) hbw4.size).mono ?_
    rintro e w5 ⟨hb5, A4, c4, rfl, r4⟩
    have hbw5 := chain hb5 hbw4
    have r1 := r1.after hb5
    have r2 := r2.after hb5
    go_wp2_with fail
    refine (K5.out w5 (hrd.below hbw5) hbw5.size).mono ?_
    rintro e w6 ⟨rfl, hb6⟩
    have hbw6 := chain hb6 hbw5
    have r1 := r1.after hb6
    have r2 := r2.after hb6
    have r4 := r4.after hb6
    clear K1 K2 K3 K4 K5 hb1 hb2 hb3 hb4 hb5 hb6 hbw2 hbw3 hbw4 hbw5
    go_wp2_with fail
    refine (good_fresh [0, 0, 0, 0] 4 4 rfl (by decide) _ _).mono ?_
    rintro e w7 ⟨rfl, hb7⟩
    have q0 : ([0, 0, 0, 0] : List Int).all (· == 0) = true := by decide
    have hbw7 := chain hb7 hbw6
    have r1 := r1.after hb7
    have r2 := r2.after hb7
    have r4 := r4.after hb7
    go_wp2_with fail
    refine (equalEdit_any A1 A len len c1 cap _ w.heap.size a a w7 (by omega) (by omega) Hll.out Hll.out r1 (hrd.below hbw7)).mono ?_
    rintro e w8 ⟨rfl, hb8⟩
    have hbw8 := chain hb8 hbw7
    have r2 := r2.after hb8
    have r4 := r4.after hb8
    rw [decide_eq_true (rfl : a = a)]
    go_wp2_with fail
    refine (equalEdit_any A2 A len len c2 cap _ w.heap.size a a w8 (by omega) (by omega) Hll.out Hll.out r2 (hrd.below hbw8)).mono ?_
    rintro e w9 ⟨rfl, hb9⟩
    have hbw9 := chain hb9 hbw8
    have r4 := r4.after hb9
    rw [decide_eq_true (rfl : a = a)]
    go_wp2_with fail
    refine (equalEdit_any A4 A len len c4 cap _ w.heap.size a a w9 (by omega) (by omega) Hll.out Hll.out r4 (hrd.below hbw9)).mono ?_
    rintro e w10 ⟨rfl, hb10⟩
    rw [decide_eq_true (rfl : a = a)]
    go_wp2
    go_ret
    exact ⟨by simp, chain hb10 hbw9⟩
  · obtain ⟨e1, e2, e3⟩ := self_bad n a hE
    have k1 := fun w1 (r : Reads w1 w.heap.size A len 3 (a.flatMap cEdit)) (hB : w.heap.size ≤ w1.heap.size) => (both_any n hn A A len len cap cap w.heap.size a a hl4 hl4 hll hll oa oa w1 r r hB).mono fun e w' h => both_bad (by rw [e1]; exact hE) h
    have k2 := fun w1 (r : Reads w1 w.heap.size A len 3 (a.flatMap cEdit)) (hB : w.heap.size ≤ w1.heap.size) => (both_any n hn A none len 0 cap 0 w.heap.size a [] hl4 (by decide) hll rfl oa on w1 r (rn w1 _) hB).mono fun e w' h => both_bad (by rw [e2]; exact hE) h
    have k3 := fun w1 (r : Reads w1 w.heap.size A len 3 (a.flatMap cEdit)) (hB : w.heap.size ≤ w1.heap.size) => (behind_any n hn A A len len cap cap w.heap.size a a hl4 hl4 hll hll oa oa w1 r r hB).mono fun e w' h => behind_bad (by rw [e1]; exact hE) h
    have k4 := fun w1 (r : Reads w1 w.heap.size A len 3 (a.flatMap cEdit)) (hB : w.heap.size ≤ w1.heap.size) => (behind_any n hn none A 0 len 0 cap w.heap.size [] a (by decide) hl4 rfl hll on oa w1 (rn w1 _) r hB).mono fun e w' h => behind_bad (by rw [e3]; exact hE) h
    have k5 := fun w1 (r : Reads w1 w.heap.size A len 3 (a.flatMap cEdit)) (hB : w.heap.size ≤ w1.heap.size) => check_any n hn A len cap w.heap.size a hl4 hll oa w1 r hB
    rw [e1] at k1 k3
    rw [e2] at k2
    rw [e3] at k4
    generalize checkE n a = E at *
    have q1 : (E != 0) = true := by simpa using hE
    have q2 : (E == E) = true := by simp
    have K1 := Lib.hid k1
    have K2 := Lib.hid k2
    have K3 := Lib.hid k3
    have K4 := Lib.hid k4
    have K5 := Lib.hid k5
    clear k1 k2 k3 k4 k5 e1 e2 e3 hE oa on hok rn hn0 hll hcap hcapm hnil
    go_enter Try.func3, Try.ntmps3
    go_wp2_with fail
    refine (merges_any _).mono ?_
    rintro e w1 ⟨rfl, hb1⟩
    go_wp2_with fail
    refine (K1.out w1 (hrd.below hb1) hb1.size).mono ?_
    rintro e w2 ⟨hb2, rfl⟩
    have hbw2 := chain hb2 hb1
    go_wp2_with fail
    refine (K2.out w2 (hrd.below hbw2) hbw2.size).mono ?_
    rintro e w3 ⟨hb3, rfl⟩
    have hbw3 := chain hb3 hbw2
    go_wp2_with fail
    refine (K3.out w3 (hrd.below hbw3) hbw3.size).mono ?_
    rintro e w4 ⟨hb4, rfl⟩
    have hbw4 := chain hb4 hbw3
    go_wp2_with fail
    refine (K4.out w4 (hrd.below hbw4) hbw4.size).mono ?_
    rintro e w5 ⟨hb5, rfl⟩
    have hbw5 := chain hb5 hbw4
    go_wp2_with fail
    refine (K5.out w5 (hrd.below hbw5) hbw5.size).mono ?_
    rintro e w6 ⟨rfl, hb6⟩
    go_wp2
    go_ret
    exact ⟨by simp, chain hb6 hbw5⟩
end Go.Proofs.Ytookbaaicpapnaa
