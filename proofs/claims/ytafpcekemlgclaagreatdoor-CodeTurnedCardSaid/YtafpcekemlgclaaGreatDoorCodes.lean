/- The walks of the laws' helpers codes and lensOf. -/
import Derived.Test.YtafpcekemlgclaaGreatDoorSoleWalk
import Derived.Test.YtafpcekemlgclaaGreatDoorOwnK
import Derived.Test.YtafpcekemlgclaaGreatDoorGood
import Derived.Test.YtafpcekemlgclaaGreatDoorCodeSum
namespace Go.Proofs.YtafpcekemlgclaaGreatDoor
open Go.RowKit
set_option linter.unusedVariables false

theorem fresh_strs (l : List ByteArray) (w : World) : Reads (w.alloc (Obj.cells (l.map Value.string).toArray 9)) (w.heap.size + 1) (some ⟨w.heap.size, 0, none⟩) l.length 1 (l.flatMap cStr) := by
  have h := Reads.of_fresh w (l.map Value.string).toArray 9 l.length 1 (by simp)
  have e : (l.map Value.string).toArray.toList = l.flatMap cStr := by
    rw [List.toList_toArray]
    induction l with
    | nil => rfl
    | cons x l ih => rw [List.map_cons, List.flatMap_cons, ← ih (by simpa using Reads.of_fresh w (l.map Value.string).toArray 9 l.length 1 (by simp))]; rfl
  rwa [e] at h
theorem fresh_front (l : List ByteArray) (n : Nat) (hl : l.length = n) (hn : n ≤ 1000) (hz : ∀ p ∈ l, p.size ≤ 100) (w : World) :
    Calls Tryz.prog 9 #[.slice (some ⟨w.heap.size, 0, none⟩) n n] (w.alloc (Obj.cells (l.map Value.string).toArray 9)) fun e w' => e = .returned (.tuple #[.bool (frontB (wds l)), .int .i64 (checkC (wds l))]) ∧ Below w.heap.size w w' := by
  subst hl
  refine (codeFront_any _ l.length l.length (w.heap.size + 1) l _ (by omega) (Nat.le_refl _) rfl (fun p hp => by have := hz p hp; omega) (fresh_strs l w) (by simp)).mono fun e w' ⟨he, hb⟩ => ⟨he, ?_⟩
  exact ((Below.refl _ _).alloc (Nat.le_refl _) _).trans (hb.mono (by simp))
theorem fresh_sole (l : List ByteArray) (n : Nat) (hl : l.length = n) (hn : n ≤ 1000) (hz : ∀ p ∈ l, p.size ≤ 100) (w : World) :
    Calls Tryz.prog 8 #[.slice (some ⟨w.heap.size, 0, none⟩) n n] (w.alloc (Obj.cells (l.map Value.string).toArray 9)) fun e w' => e = .returned (.tuple #[.bool (soleB (wds l)), .int .i64 (checkC (wds l))]) ∧ Below w.heap.size w w' := by
  subst hl
  refine (sole_any _ l.length l.length (w.heap.size + 1) l _ (by omega) (Nat.le_refl _) rfl (fun p hp => by have := hz p hp; omega) (fresh_strs l w) (by simp)).mono fun e w' ⟨he, hb⟩ => ⟨he, ?_⟩
  exact ((Below.refl _ _).alloc (Nat.le_refl _) _).trans (hb.mono (by simp))
theorem codes1 : frontB (wds [⟨#[48]⟩, ⟨#[49, 48]⟩, ⟨#[49, 49]⟩]) = true ∧ checkC (wds [⟨#[48]⟩, ⟨#[49, 48]⟩, ⟨#[49, 49]⟩]) = 0 := by
  have h : checkC (wds [⟨#[48]⟩, ⟨#[49, 48]⟩, ⟨#[49, 49]⟩]) = 0 := by decide +kernel
  refine ⟨(frontB_iff _).2 ⟨h, ?_⟩, h⟩
  have e : wds [⟨#[48]⟩, ⟨#[49, 48]⟩, ⟨#[49, 49]⟩] = [[48], [49, 48], [49, 49]] := by decide
  rw [e]
  intro i k hi hk
  have hi : i < 3 := hi
  have hk : k < 3 := hk
  have : ∀ i : Fin 3, ∀ k : Fin 3, i.1 ≠ k.1 → ¬ ([[48], [49, 48], [49, 49]] : List Wd).getD i.1 [] <+: ([[48], [49, 48], [49, 49]] : List Wd).getD k.1 [] := by decide
  exact this ⟨i, hi⟩ ⟨k, hk⟩
theorem codes2 : soleB (wds [⟨#[48]⟩, ⟨#[48, 49]⟩]) = true ∧ checkC (wds [⟨#[48]⟩, ⟨#[48, 49]⟩]) = 0 := by
  have h : checkC (wds [⟨#[48]⟩, ⟨#[48, 49]⟩]) = 0 := by decide +kernel
  refine ⟨(soleB_iff _).2 ⟨h, ?_⟩, h⟩
  have e : wds [⟨#[48]⟩, ⟨#[48, 49]⟩] = [[48], [48, 49]] := by decide
  rw [e]
  refine ud_of_no (by simp) fun s hs => ?_
  have : ∀ s, Dang [[48], [48, 49]] s → s = [49] := fun s hs => by
    induction hs with
    | base u v s hu hv h hs =>
      simp only [List.mem_cons, List.not_mem_nil, or_false] at hu hv
      rcases hu with rfl | rfl <;> rcases hv with rfl | rfl
      · rw [List.cons_append, List.nil_append] at h
        injection h with _ h
        exact absurd h.symm hs
      · rw [List.cons_append, List.nil_append] at h
        injection h with _ h
        exact h.symm
      · rw [List.cons_append, List.cons_append, List.nil_append] at h
        injection h with _ h
        cases h
      · rw [List.cons_append, List.cons_append, List.nil_append] at h
        injection h with _ h
        injection h with _ h
        exact absurd h.symm hs
    | into s w t hd hw h ht ih =>
      subst ih
      simp only [List.mem_cons, List.not_mem_nil, or_false] at hw
      rcases hw with rfl | rfl <;> simp at h
    | past s w t hd hw h ht ih =>
      subst ih
      simp only [List.mem_cons, List.not_mem_nil, or_false] at hw
      rcases hw with rfl | rfl <;> simp at h
  rw [this s hs]
  decide
theorem codes3 : soleB (wds [⟨#[48]⟩, ⟨#[49]⟩, ⟨#[48, 49]⟩]) = false ∧ checkC (wds [⟨#[48]⟩, ⟨#[49]⟩, ⟨#[48, 49]⟩]) = 0 := by
  have h : checkC (wds [⟨#[48]⟩, ⟨#[49]⟩, ⟨#[48, 49]⟩]) = 0 := by decide +kernel
  refine ⟨soleB_no fun hh => ?_, h⟩
  have e : wds [⟨#[48]⟩, ⟨#[49]⟩, ⟨#[48, 49]⟩] = [[48], [49], [48, 49]] := by decide
  rw [e] at hh
  have := hh.2 [[48], [49]] [[48, 49]] (by decide) (by decide) (by rfl)
  simp at this

set_option maxRecDepth 100000 in
set_option maxHeartbeats 2000000 in
theorem codes_any (w : World) : Calls Tryz.prog 4 #[] w fun e w' => e = .returned (.bool true) ∧ Below w.heap.size w w' := by
  have F1 := Lib.hid (fun w => fresh_front [⟨#[48]⟩, ⟨#[49, 48]⟩, ⟨#[49, 49]⟩] 3 rfl (by decide) (by decide) w)
  have F2 := Lib.hid (fun w => fresh_sole [⟨#[48]⟩, ⟨#[48, 49]⟩] 2 rfl (by decide) (by decide) w)
  have F3 := Lib.hid (fun w => fresh_sole [⟨#[48]⟩, ⟨#[49]⟩, ⟨#[48, 49]⟩] 3 rfl (by decide) (by decide) w)
  rw [codes1.1, codes1.2] at F1
  rw [codes2.1, codes2.2] at F2
  rw [codes3.1, codes3.2] at F3
  go_enter Tryz.func4, Tryz.ntmps4
  go_wp2_with fail
  refine (F1.out _).mono ?_
  rintro e w1 ⟨rfl, hb1⟩
  go_wp2_with fail
  refine (F2.out _).mono ?_
  rintro e w2 ⟨rfl, hb2⟩
  have hb2 := chain hb2 hb1
  go_wp2_with fail
  refine (F3.out _).mono ?_
  rintro e w3 ⟨rfl, hb3⟩
  have hb3 := chain hb3 hb2
  go_wp2_with fail
  refine (good_fresh [0, 0, 0] 3 3 rfl (by decide) _ _).mono ?_
  rintro e w4 ⟨rfl, hb4⟩
  have hb4 := chain hb4 hb3
  go_wp2
  go_ret
  exact ⟨by first | rfl | simp, hb4⟩

def lensI (l : List ByteArray) : List Int := l.map fun s => (s.size : Int)
theorem lensI_nats (l : List ByteArray) : nats (lensI l) = (wds l).map List.length := by
  unfold nats lensI wds
  rw [List.map_map, List.map_map]
  exact List.map_congr_left fun s _ => rfl
end Go.Proofs.YtafpcekemlgclaaGreatDoor
