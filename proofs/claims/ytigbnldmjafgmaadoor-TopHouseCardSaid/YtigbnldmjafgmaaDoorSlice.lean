/- Parts of slices that read as lists. -/
import Derived.Test.YtigbnldmjafgmaaDoorLib
import Derived.Test.YtigbnldmjafgmaaDoorPlain
namespace Go.Proofs.YtigbnldmjafgmaaDoor
open Go.RowKit
set_option linter.unusedVariables false

section
variable {α : Type} {f : α → List Value} {size : Nat} {w : World} {B n : Nat} {A : Option Addr} {l : List α}
theorem flat_append_getD (f : α → List Value) (l m : List α) (j : Nat) (h : j < (l.flatMap f).length) : ((l ++ m).flatMap f).getD j undef = (l.flatMap f).getD j undef := by
  rw [List.flatMap_append, getD_app_left _ _ _ _ h]
theorem Reads.front (hf : ∀ x, (f x).length = size) (h : Reads w B A n size (l.flatMap f)) (hl : l.length = n) {k : Nat} (hk : k ≤ n) : Reads w B A k size ((l.take k).flatMap f) := by
  have hlk : ((l.take k).flatMap f).length = k * size := by rw [flat_length f size hf, List.length_take, Nat.min_eq_left (by omega)]
  refine ⟨hlk, fun hk0 => ?_⟩
  obtain ⟨b, o, e, hb, hc⟩ := h.2 (by omega)
  refine ⟨b, o, e, hb, fun j hj => ?_⟩
  have hle : k * size ≤ n * size := Nat.mul_le_mul_right _ hk
  have := hc j (by rw [h.1]; omega)
  rw [this]
  have e2 := flat_append_getD f (l.take k) (l.drop k) j hj
  rw [List.take_append_drop] at e2
  rw [e2]
theorem Reads.back {b o : Nat} (hf : ∀ x, (f x).length = size) (h : Reads w B (some ⟨b, o, none⟩) n size (l.flatMap f)) (hl : l.length = n) {k : Nat} (hk : k ≤ n) : Reads w B (some ⟨b, o + k * size, none⟩) (n - k) size ((l.drop k).flatMap f) := by
  have hlk : ((l.drop k).flatMap f).length = (n - k) * size := by rw [flat_length f size hf, List.length_drop, hl]
  have hlt : ((l.take k).flatMap f).length = k * size := by rw [flat_length f size hf, List.length_take, Nat.min_eq_left (by omega)]
  refine ⟨hlk, fun hk0 => ?_⟩
  obtain ⟨b', o', e, hb, hc⟩ := h.2 (by omega)
  injection e with e
  injection e with e1 e2 _
  subst e1 e2
  refine ⟨b, o + k * size, rfl, hb, fun j hj => ?_⟩
  have hsum : k * size + (n - k) * size = n * size := by rw [← Nat.add_mul]; congr 1; omega
  have := hc (k * size + j) (by rw [h.1]; omega)
  rw [Nat.add_assoc, this]
  have e2 : l.flatMap f = (l.take k).flatMap f ++ (l.drop k).flatMap f := by rw [← List.flatMap_append, List.take_append_drop]
  rw [e2, getD_app_right _ _ _ _ (by omega), hlt, Nat.add_sub_cancel_left]
end
theorem Reads.made (w : World) (cs : Array Value) (T : TypeId) (n size : Nat) (h : cs.size = n * size) : Reads (w.alloc (.cells cs T)) (w.alloc (.cells cs T)).heap.size (some ⟨w.heap.size, 0, none⟩) n size cs.toList :=
  (Reads.of_fresh w cs T n size h).more (by simp)

section
variable {α : Type} {f : α → List Value} {size : Nat} {w : World} {B n cap : Nat} {A : Option Addr} {l : List α} {P : Program}
/-- 'l[k:]', however the slice is laid. -/
theorem slice_back (t : TypeId) (ht : P.underlying t = some (.slice (P.elem t))) (hsz : ∀ w, (sizeOf (P.elem t)).run P w = .ok size w) (hf : ∀ x, (f x).length = size) (h : Reads w B A n size (l.flatMap f)) (hl : l.length = n) {k : Nat} (hk : k ≤ n) (hc : n ≤ cap) :
    ∃ A' c', n - k ≤ c' ∧ (∀ w', (Instr.slice t (.slice A n cap) (some (.int .i64 (k : Int))) none none).run P w' = .ok (.slice A' (n - k) c') w') ∧ Reads w B A' (n - k) size ((l.drop k).flatMap f) := by
  refine ⟨if cap = k then A else A.map (·.add (k * size)), cap - k, by omega, fun w' => ?_, ?_⟩
  · rw [run_slice_l w' t A n cap ht .i64 (k : Int) (by omega) (by omega), hsz, Int.toNat_natCast]; rfl
  · rcases Nat.eq_or_lt_of_le hk with hkn | hkn
    · subst hkn
      rw [Nat.sub_self, List.drop_of_length_le (by omega)]
      exact Reads.empty
    · obtain ⟨b, o, e, _⟩ := h.2 (by omega)
      subst e
      rw [if_neg (by omega)]
      show Reads w B (some (Addr.add ⟨b, o, none⟩ (k * size))) (n - k) size _
      rw [add_at]
      exact h.back hf hl hk
/-- 'l[:k]'. -/
theorem slice_front (t : TypeId) (ht : P.underlying t = some (.slice (P.elem t))) (hsz : ∀ w, (sizeOf (P.elem t)).run P w = .ok size w) (hf : ∀ x, (f x).length = size) (h : Reads w B A n size (l.flatMap f)) (hl : l.length = n) {k : Nat} (hk : k ≤ n) (hc : n ≤ cap) :
    ∃ A', (∀ w', (Instr.slice t (.slice A n cap) none (some (.int .i64 (k : Int))) none).run P w' = .ok (.slice A' k cap) w') ∧ Reads w B A' k size ((l.take k).flatMap f) := by
  refine ⟨if cap = 0 then A else A.map (·.add 0), fun w' => ?_, ?_⟩
  · rw [run_slice_h w' t A n cap ht .i64 (k : Int) (by omega) (by omega), hsz, Int.toNat_natCast]
    show Result.ok (sliced A 0 k cap size) w' = _
    rw [sliced, Nat.zero_mul]; rfl
  · rcases Nat.eq_zero_or_pos k with hk0 | hk0
    · subst hk0
      rw [List.take_zero]
      exact Reads.empty
    · obtain ⟨b, o, e, _⟩ := h.2 (by omega)
      subst e
      rw [if_neg (by omega)]
      show Reads w B (some (Addr.add ⟨b, o, none⟩ 0)) k size _
      rw [add_at]
      exact h.front hf hl hk
end

end Go.Proofs.YtigbnldmjafgmaaDoor
