/- The walk of the laws' helper good: no error among those given. -/
import Derived.Test.YtafpcekemlgclaaGreatDoorRows
import Derived.Test.YtafpcekemlgclaaGreatDoorLib
import Derived.Test.YtafpcekemlgclaaGreatDoorPlain
namespace Go.Proofs.YtafpcekemlgclaaGreatDoor
open Go.RowKit
set_option linter.unusedVariables false

set_option maxHeartbeats 400000 in
theorem notOk_any (x : Int) (w : World) :
    Calls Tryz.prog 19 #[.int .i64 x] w fun e w' => e = .returned (.bool (x != 0)) ∧ w = w' := by
  go_enter Tryz.func19, Tryz.ntmps19
  go_wp2
  go_ret
  exact ⟨rfl, rfl⟩

/-- Where the first error stands, or -1. -/
def firstBad : List Int → Nat → Int
  | [], _ => -1
  | x :: l, k => if x = 0 then firstBad l (k + 1) else (k : Int)
theorem firstBad_neg : ∀ (l : List Int) (k : Nat), decide (0 ≤ firstBad l k) = !(l.all (· == 0))
  | [], k => by simp [firstBad]
  | x :: l, k => by
    unfold firstBad
    by_cases h : x = 0
    · rw [if_pos h, firstBad_neg l (k + 1)]; simp [h]
    · rw [if_neg h]; simp [h]

set_option maxHeartbeats 400000 in
theorem indexBad_any (g o n c : Nat) (es : List Int) (hes : es.length = n) (hn : n ≤ 1000) (w : World) (hc : ∀ j, j < n → w.cell? ⟨g, o + j, none⟩ = some (.int .i64 (es.getD j 0))) :
    Calls Tryz.prog 26 #[.slice (some ⟨g, o, none⟩) n c, .func (Fn.func 19) #[] #[]] w
      fun e w' => e = .returned (.int .i64 (firstBad es 0)) ∧ w = w' := by
  have Hc := Lib.hid hc
  clear hc
  go_enter Tryz.func26, Tryz.ntmps26
  go_wp2
  go_loop [5, 8] (fun _ i => ∃ k : Nat, k ≤ n ∧ i = .int .i64 k ∧ firstBad es 0 = firstBad (es.drop k) k) (fun _ i => n - (intOf i).toNat)
  case atStart => exact ⟨0, Nat.zero_le _, rfl, by simp⟩
  case round =>
    obtain ⟨k, hk, rfl, hf⟩ := hrel
    have Hf := Lib.hid hf
    clear hf
    by_cases hlt : k < n
    · have hck := Hc.out k hlt
      have hd : es.drop k = es.getD k 0 :: es.drop (k + 1) := drop_getD es k 0 (by omega)
      have Hd := Lib.hid hd
      clear hd
      by_cases h0 : es.getD k 0 = 0
      · rw [h0] at hck
        have hv : ∀ w, Calls Tryz.prog 19 #[.int .i64 0] w fun e w' => e = .returned (.bool false) ∧ w = w' := fun w => notOk_any 0 w
        have Hv := Lib.hid hv
        have H0 := Lib.hid h0
        clear hv h0
        go_wp2_with fail
        refine (Hv.out _).mono ?_
        rintro e w1 ⟨rfl, rfl⟩
        go_wp2
        go_round
        case rel => exact ⟨k + 1, by omega, by go_num, by rw [Hf.out, Hd.out, firstBad, if_pos H0.out]⟩
        case measure => simp [intOf]; omega
      · have hv : ∀ w, Calls Tryz.prog 19 #[.int .i64 (es.getD k 0)] w fun e w' => e = .returned (.bool true) ∧ w = w' := fun w =>
          (notOk_any (es.getD k 0) w).mono fun e w' ⟨he, hw⟩ => ⟨by rw [he]; congr 2; simpa using h0, hw⟩
        generalize es.getD k 0 = v at *
        have Hv := Lib.hid hv
        have H0 := Lib.hid h0
        clear hv h0
        go_wp2_with fail
        refine (Hv.out _).mono ?_
        rintro e w1 ⟨rfl, rfl⟩
        go_wp2
        go_ret
        exact ⟨by rw [Hf.out, Hd.out, firstBad, if_neg H0.out]; rfl, rfl⟩
    · obtain rfl : k = n := by omega
      go_wp2
      go_ret
      exact ⟨by rw [Hf.out, List.drop_of_length_le (by omega)]; rfl, rfl⟩

set_option maxHeartbeats 400000 in
theorem good_any (g o n c : Nat) (es : List Int) (hes : es.length = n) (hn : n ≤ 1000) (w : World) (hc : ∀ j, j < n → w.cell? ⟨g, o + j, none⟩ = some (.int .i64 (es.getD j 0))) :
    Calls Tryz.prog 10 #[.slice (some ⟨g, o, none⟩) n c] w fun e w' => e = .returned (.bool (es.all (· == 0))) ∧ w = w' := by
  have hcf : Calls Tryz.prog 18 #[.slice (some ⟨g, o, none⟩) n c, .func (Fn.func 19) #[] #[]] w
      fun e w' => e = .returned (.bool (!(es.all (· == 0)))) ∧ w = w' := by
    have hr := firstBad_neg es 0
    have Hr := Lib.hid hr
    clear hr
    have H1 := Lib.hid (indexBad_any g o n c es hes hn w hc)
    clear hc
    go_enter Tryz.func18, Tryz.ntmps18
    go_wp2_with fail
    refine H1.out.mono ?_
    rintro e w1 ⟨rfl, rfl⟩
    generalize firstBad es 0 = v at *
    go_wp2
    go_ret
    exact ⟨congrArg (fun b => Ending.returned (.bool b)) Hr.out, rfl⟩
  have Hcf := Lib.hid hcf
  clear hcf hc
  go_enter Tryz.func10, Tryz.ntmps10
  go_wp2_with fail
  refine Hcf.out.mono ?_
  rintro e w1 ⟨rfl, rfl⟩
  go_wp2
  go_ret
  exact ⟨by simp, rfl⟩

/-- At a slice that the call has just made. -/
theorem good_fresh (es : List Int) (n c : Nat) (hes : es.length = n) (hn : n ≤ 1000) (w : World) (T : TypeId) :
    Calls Tryz.prog 10 #[.slice (some ⟨w.heap.size, 0, none⟩) n c] (w.alloc (.cells (es.map (Value.int .i64)).toArray T))
      fun e w' => e = .returned (.bool (es.all (· == 0))) ∧ Below w.heap.size w w' := by
  refine (good_any w.heap.size 0 n c es hes hn _ fun j hj => ?_).mono fun e w' ⟨he, hw⟩ => ⟨he, by rw [← hw]; exact (Below.refl _ _).alloc (Nat.le_refl _) _⟩
  rw [Nat.zero_add, World.cell?_alloc_mark]
  simp [hes, hj, List.getD]

end Go.Proofs.YtafpcekemlgclaaGreatDoor
