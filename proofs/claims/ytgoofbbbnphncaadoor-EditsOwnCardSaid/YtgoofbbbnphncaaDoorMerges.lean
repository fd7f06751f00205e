/- The walk of the laws' helper merges. -/
import Derived.Test.YtgoofbbbnphncaaDoorMergeBehind
namespace Go.Proofs.YtgoofbbbnphncaaDoor
open Go.RowKit
set_option linter.unusedVariables false

theorem merges_1 : checkM 5 [(0, 0, ⟨#[120]⟩)] [(3, 1, ⟨#[]⟩)] = 0 := by decide +kernel
theorem merges_2 : ¬ ∃ x ∈ ([(0, 0, ⟨#[120]⟩)] : List Ed), ∃ y ∈ ([(3, 1, ⟨#[]⟩)] : List Ed), Clash x y := by decide +kernel
theorem merges_3 : mergeE [(0, 0, ⟨#[120]⟩)] [(3, 1, ⟨#[]⟩)] = [(0, 0, ⟨#[120]⟩), (3, 1, ⟨#[]⟩)] := by
  rw [mergeE_cons, if_pos (by decide), mergeE_nil_left]
theorem merges_4 : checkE 5 [(0, 0, ⟨#[120]⟩), (3, 1, ⟨#[]⟩)] = 0 := by decide +kernel
theorem merges_5 : bothE 5 [(0, 0, ⟨#[120]⟩)] [(3, 1, ⟨#[]⟩)] = 0 := by
  unfold bothE
  rw [if_neg (by rw [merges_1]; simp), if_neg merges_2, merges_3, merges_4]
theorem merges_6 : behindE [(0, 0, ⟨#[120]⟩)] [(3, 1, ⟨#[]⟩)] = [(4, 1, ⟨#[]⟩)] := by decide +kernel

theorem okEds_of {l : List Ed} (h : ∀ x ∈ l, OkEdit x) : OkEds l := h
theorem both_ok {n : Int} {a b : List Ed} {w : World} {e : Ending} {w' : World} (h0 : bothE n a b = 0) (h : ToldBoth n a b w e w') :
    Below w.heap.size w w' ∧ ∃ A c, e = .returned (.tuple #[.slice A (mergeE a b).length c, .int .i64 0]) ∧ Reads w' w'.heap.size A (mergeE a b).length 3 ((mergeE a b).flatMap cEdit) ∧ (mergeE a b).length ≤ c ∧ c ≤ maxLen := by
  obtain ⟨hb, h⟩ := h
  rcases h with ⟨h, _⟩ | ⟨_, h⟩
  · exact absurd h0 h
  · exact ⟨hb, h⟩
theorem both_bad {n : Int} {a b : List Ed} {w : World} {e : Ending} {w' : World} (h0 : bothE n a b ≠ 0) (h : ToldBoth n a b w e w') :
    Below w.heap.size w w' ∧ e = .returned (.tuple #[.slice none 0 0, .int .i64 (bothE n a b)]) := by
  obtain ⟨hb, h⟩ := h
  rcases h with ⟨_, h⟩ | ⟨h, _⟩
  · exact ⟨hb, h⟩
  · exact absurd h h0
theorem behind_ok {n : Int} {a b : List Ed} {w : World} {e : Ending} {w' : World} (h0 : bothE n a b = 0) (h : ToldBehind n a b w e w') :
    Below w.heap.size w w' ∧ ∃ A c, e = .returned (.tuple #[.slice A (behindE a b).length c, .int .i64 0]) ∧ Reads w' w'.heap.size A (behindE a b).length 3 ((behindE a b).flatMap cEdit) ∧ (behindE a b).length ≤ c ∧ c ≤ maxLen := by
  obtain ⟨hb, h⟩ := h
  rcases h with ⟨h, _⟩ | ⟨_, h⟩
  · exact absurd h0 h
  · exact ⟨hb, h⟩
theorem behind_bad {n : Int} {a b : List Ed} {w : World} {e : Ending} {w' : World} (h0 : bothE n a b ≠ 0) (h : ToldBehind n a b w e w') :
    Below w.heap.size w w' ∧ e = .returned (.tuple #[.slice none 0 0, .int .i64 (bothE n a b)]) := by
  obtain ⟨hb, h⟩ := h
  rcases h with ⟨_, h⟩ | ⟨h, _⟩
  · exact ⟨hb, h⟩
  · exact absurd h h0

set_option maxRecDepth 100000 in
set_option maxHeartbeats 2000000 in
theorem merges_any (w : World) : Calls Tryd.prog 24 #[] w fun e w' => e = .returned (.bool true) ∧ Below w.heap.size w w' := by
  have oa : OkEds [(0, 0, ⟨#[120]⟩)] := fun x hx => by rw [List.mem_singleton.1 hx]; decide
  have ob : OkEds [(3, 1, ⟨#[]⟩)] := fun x hx => by rw [List.mem_singleton.1 hx]; decide
  have c1 : ∀ (A A' : Option Addr) (c c' B : Nat) (w : World), Reads w B A 1 3 [.int .i64 0, .int .i64 0, .string ⟨#[120]⟩] → Reads w B A' 1 3 [.int .i64 3, .int .i64 1, .string ⟨#[]⟩] → B ≤ w.heap.size → Calls Tryd.prog 30 #[.int .i64 5, .slice A 1 c, .slice A' 1 c'] w fun e w' =>
      Below w.heap.size w w' ∧ ∃ A c, e = .returned (.tuple #[.slice A 2 c, .int .i64 0]) ∧ Reads w' w'.heap.size A 2 3 (([(0, 0, ⟨#[120]⟩), (3, 1, ⟨#[]⟩)] : List Ed).flatMap cEdit) := fun A A' c c' B w ra rb hB =>
    (both_any 5 (by decide) A A' 1 1 c c' B [(0, 0, ⟨#[120]⟩)] [(3, 1, ⟨#[]⟩)] (by decide) (by decide) rfl rfl oa ob w ra rb hB).mono fun e w' h => by
      obtain ⟨hb, A, c, h1, h2, _⟩ := both_ok merges_5 h
      rw [merges_3] at h1 h2
      exact ⟨hb, A, c, h1, h2⟩
  have c2 : ∀ (A A' : Option Addr) (c c' B : Nat) (w : World), Reads w B A 1 3 [.int .i64 0, .int .i64 0, .string ⟨#[120]⟩] → Reads w B A' 1 3 [.int .i64 3, .int .i64 1, .string ⟨#[]⟩] → B ≤ w.heap.size → Calls Tryd.prog 31 #[.int .i64 5, .slice A 1 c, .slice A' 1 c'] w fun e w' =>
      Below w.heap.size w w' ∧ ∃ A c, e = .returned (.tuple #[.slice A 1 c, .int .i64 0]) ∧ Reads w' w'.heap.size A 1 3 (([(4, 1, ⟨#[]⟩)] : List Ed).flatMap cEdit) := fun A A' c c' B w ra rb hB =>
    (behind_any 5 (by decide) A A' 1 1 c c' B [(0, 0, ⟨#[120]⟩)] [(3, 1, ⟨#[]⟩)] (by decide) (by decide) rfl rfl oa ob w ra rb hB).mono fun e w' h => by
      obtain ⟨hb, A, c, h1, h2, _⟩ := behind_ok merges_5 h
      rw [merges_6] at h1 h2
      exact ⟨hb, A, c, h1, h2⟩
  have C1 := Lib.hid c1
  have C2 := Lib.hid c2
  clear c1 c2 oa ob
  have hbd := buildEdit
  have r1 := Reads.made w #[.int .i64 0, .int .i64 0, .string ⟨#[120]⟩] 42 1 3 rfl
  have r2 := Reads.made (w.alloc (Obj.cells #[.int .i64 0, .int .i64 0, .string ⟨#[120]⟩] 42)) #[.int .i64 3, .int .i64 1, .string ⟨#[]⟩] 42 1 3 rfl
  have r1' := r1.after ((Below.refl _ _).alloc (Nat.le_refl _) (Obj.cells #[.int .i64 3, .int .i64 1, .string ⟨#[]⟩] 42))
  have hb0 : Below w.heap.size w ((w.alloc (Obj.cells #[.int .i64 0, .int .i64 0, .string ⟨#[120]⟩] 42)).alloc (Obj.cells #[.int .i64 3, .int .i64 1, .string ⟨#[]⟩] 42)) := ((Below.refl _ _).alloc (Nat.le_refl _) _).alloc (by simp) _
  go_enter Tryd.func24, Tryd.ntmps24
  go_wp2_with fail
  rw [show (w.alloc (Obj.cells #[.int .i64 0, .int .i64 0, .string ⟨#[120]⟩] 42)).heap.size = w.heap.size + 1 from by simp] at r2
  generalize (w.alloc (Obj.cells #[.int .i64 0, .int .i64 0, .string ⟨#[120]⟩] 42)).alloc (Obj.cells #[.int .i64 3, .int .i64 1, .string ⟨#[]⟩] 42) = W at *
  refine (C1.out _ _ 1 1 _ W r1' r2 (Nat.le_refl _)).mono ?_
  rintro e w1 ⟨hb1, A1, k1, rfl, hr1⟩
  have hbw1 := chain hb1 hb0
  have s1 := r1'.below' hb1 (Nat.le_refl _)
  have s2 := r2.below' hb1 (Nat.le_refl _)
  go_wp2_with fail
  refine (C2.out _ _ 1 1 _ w1 s1 s2 hb1.size).mono ?_
  rintro e w2 ⟨hb2, A2, k2, rfl, hr2⟩
  have hbw2 := chain hb2 hbw1
  have t1 := hr1.after hb2
  clear C1 C2 r1 r1' r2 s1 s2 hb0 hr1 hb1
  go_wp2_with fail
  refine (good_fresh [0, 0] 2 2 rfl (by decide) _ _).mono ?_
  rintro e w3 ⟨rfl, hb3⟩
  have q0 : ([0, 0] : List Int).all (· == 0) = true := by decide
  have hbw3 := chain hb3 hbw2
  have t1 := t1.after hb3
  have t2 := hr2.after hb3
  go_wp2_with fail
  refine (equalEdit_any A1 (some ⟨w3.heap.size, 0, none⟩) 2 2 k1 2 w3.heap.size _ [(0, 0, ⟨#[120]⟩), (3, 1, ⟨#[]⟩)] [(0, 0, ⟨#[120]⟩), (3, 1, ⟨#[]⟩)] _ (by decide) (by decide) rfl rfl (t1.below' ((Below.refl _ _).alloc (Nat.le_refl _) _) (Nat.le_refl _)) (Reads.made w3 #[.int .i64 0, .int .i64 0, .string ⟨#[120]⟩, .int .i64 3, .int .i64 1, .string ⟨#[]⟩] _ 2 3 rfl)).mono ?_
  rintro e w4 ⟨rfl, hb4⟩
  have hb4' : Below w3.heap.size w3 w4 := ((Below.refl _ _).alloc (Nat.le_refl _) _).trans (hb4.mono (by simp))
  have hbw4 := chain hb4' hbw3
  have t2 := t2.after hb4'
  clear hb4 t1
  rw [decide_eq_true (rfl : ([(0, 0, ⟨#[120]⟩), (3, 1, ⟨#[]⟩)] : List Ed) = _)]
  go_wp2_with fail
  refine (equalEdit_any A2 (some ⟨w4.heap.size, 0, none⟩) 1 1 k2 1 w4.heap.size _ [(4, 1, ⟨#[]⟩)] [(4, 1, ⟨#[]⟩)] _ (by decide) (by decide) rfl rfl (t2.below' ((Below.refl _ _).alloc (Nat.le_refl _) _) (Nat.le_refl _)) (Reads.made w4 #[.int .i64 4, .int .i64 1, .string ⟨#[]⟩] _ 1 3 rfl)).mono ?_
  rintro e w5 ⟨rfl, hb5⟩
  have hb5' : Below w4.heap.size w4 w5 := ((Below.refl _ _).alloc (Nat.le_refl _) _).trans (hb5.mono (by simp))
  go_wp2
  go_ret
  exact ⟨by simp, chain hb5' hbw4⟩

end Go.Proofs.YtgoofbbbnphncaaDoor
