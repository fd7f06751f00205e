/- slices.Clone: a row of the call's own that reads as the old one. -/
import Derived.Test.YtkbogiijbmjbmaaLib
import Derived.Test.YtkbogiijbmjbmaaStruct
import Derived.Deep.DeepMust
import Derived.Laws.Cover3
namespace Go.Proofs.Ytkbogiijbmjbmaa
open Go.RowKit
set_option linter.unusedVariables false

theorem run_eql_slice_nil {P : Program} (w : World) (t e : TypeId) (a : Option Addr) (l c : Nat) (h : P.underlying t = some (.slice e)) : (binOp .eql t (.slice a l c) (.slice none 0 0)).run P w = .ok (.bool a.isNone) w := by
  simp only [binOp]
  simp [run_equal_slice_nil w t e a l c h]
theorem own_empty (w : World) (base : Nat) (e : TypeId) (size : Nat) (h : base ≤ w.heap.size) : (w.alloc (.cells #[] e)).ownsRow base e size (.slice (some ⟨w.heap.size, 0, none⟩) 0 0) 0 [] :=
  ⟨by simp, .inr ⟨w.heap.size, 0, #[], rfl, h, heap_alloc_new w _, Nat.le_refl _, Nat.zero_le _, by simp, by simp⟩⟩







theorem infoStrCl : (Try.prog.info? 9).map (fun i => (i.zero, i.size, i.bytes)) = some (some (.string ⟨#[]⟩), 1, 16) := by kernel_rfl
set_option maxRecDepth 100000 in
set_option maxHeartbeats 1000000 in
theorem cloneStr_any (A : Option Addr) (n c B : Nat) (l : List (ByteArray)) (hl : l.length = n) (hn : n * 16 ≤ 140737488355328) (w : World) (h : Reads w B A n 1 (l.flatMap cStr)) (hB : B ≤ w.heap.size) :
    Calls Try.prog 8 #[.slice A n c] w fun e w' => ∃ A' c', e = .returned (.slice A' n c') ∧ w'.ownsRow w.heap.size 9 1 (.slice A' n c') n (l.flatMap cStr) ∧ Below w.heap.size w w' := by
  have hfl : (l.flatMap cStr).length = n * 1 := h.1
  have hone : ∀ u ∈ l.flatMap cStr, u.oneCell' = true := fun u hu => by
    obtain ⟨x, _, hx⟩ := List.mem_flatMap.1 hu
    simp only [cStr, List.mem_cons, List.not_mem_nil, or_false] at hx
    rcases hx with rfl <;> rfl
  cases A with
  | none =>
    have h0 : n = 0 := by
      rcases Nat.eq_zero_or_pos n with h0 | h0
      · exact h0
      · obtain ⟨b, o, e, _⟩ := h.2 h0
        cases e
    subst h0
    have hnil : l = [] := List.eq_nil_of_length_eq_zero hl
    subst hnil
    have heq := fun w => run_eql_slice_nil (P := Try.prog) w 22 9 none 0 c Try.underlying22
    go_enter Try.func8, Try.ntmps8
    go_wp2
    go_ret
    exact ⟨none, 0, rfl, World.ownsRow_nil _ _ _ _, Below.refl _ _⟩
  | some a =>
    have hnews : ∀ j u, (l.flatMap cStr)[j]? = some u → (w.alloc (.cells #[] 9)).cell? (a.add j) = some u := fun j u hj => by
      have hj' := (List.getElem?_eq_some_iff.1 hj).1
      have hn0 : 0 < n := by rcases Nat.eq_zero_or_pos n with h0 | h0; rw [hfl, h0] at hj'; omega; exact h0
      obtain ⟨b, o, e, hb, hc⟩ := h.2 hn0
      injection e with e
      subst e
      rw [add_at, World.cell?_alloc_lt w _ _ (by show b < _; omega), hc j hj', List.getD_eq_getElem?_getD, hj]; rfl
    have Hnews := Lib.hid hnews
    have Hfl := Lib.hid hfl
    have Hone := Lib.hid hone
    obtain ⟨i0, hi, hz0, hz1, hz2⟩ := info_parts infoStrCl
    have Hi := Lib.hid hi
    have Hz0 := Lib.hid hz0
    have Hz1 := Lib.hid hz1
    have Hz2 := Lib.hid hz2
    clear hnews hfl hone hi hz0 hz1 hz2 h
    have heq := fun w => run_eql_slice_nil (P := Try.prog) w 22 9 (some a) n c Try.underlying22
    have hown := own_empty w w.heap.size 9 1 (Nat.le_refl _)
    go_enter Try.func8, Try.ntmps8
    go_wp2_with (first | (at_builtin; go_must (refine wpList_append_own _ rfl (.tmp 5) (.tmp 6) 22 rfl w.heap.size 9 i0 _ 1 16 Try.underlying22 Hi.out Hz0.out Hz1.out Hz2.out rfl (by decide) _ 0 [] rfl hown a n c (l.flatMap cStr) rfl Hfl.out Hnews.out Hone.out (by unfold maxLen; omega) (by omega) (by simp) ?_); intro v3 w3 hown3 hg3 _))
    go_ret
    rw [Nat.zero_add, List.nil_append] at hown3
    obtain ⟨A', c', rfl, _⟩ := own_shape hown3
    exact ⟨A', c', rfl, hown3, ((Below.refl w.heap.size w).alloc (Nat.le_refl _) (.cells #[] 9)).grown hg3 (by simp) (fun k hk => (hown.lt k hk).1)⟩



end Go.Proofs.Ytkbogiijbmjbmaa
