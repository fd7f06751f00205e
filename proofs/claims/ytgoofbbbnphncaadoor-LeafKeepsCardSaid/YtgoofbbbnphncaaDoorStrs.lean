/- A row of strings of one's own: append, the last of them, and reading. -/
import Derived.Test.YtgoofbbbnphncaaDoorOwnS
import Derived.Test.YtgoofbbbnphncaaDoorContains
import Derived.Test.YtgoofbbbnphncaaDoorSlice
namespace Go.Proofs.YtgoofbbbnphncaaDoor
open Go.RowKit
set_option linter.unusedVariables false

/-- append of a string that has just been built in a block of its own. -/
theorem wpList_append_one {P : Program} (w : World) {ops : Array Oper} {rest : List Oper} {o : Oper} {a : Act} {Q : Exit → Act → World → Prop} (s x : Operand) (t : TypeId) (hgd : o.guard = none)
    (ho : o.op = .call { callee := .builtin .append, args := #[s, x], argTypes := #[t, t] }) (K : Nat → Prop)
    (hinfo : (P.info? 9).map (fun i => (i.zero, i.size, i.bytes)) = some (some (.string ⟨#[]⟩), 1, 16)) (ht : P.underlying t = some (.slice 9))
    (A : Option Addr) (n c : Nat) (l : List ByteArray) (hs : a.eval s = .slice A n c) (hown : OwnS w K A n c l)
    (c2 : Nat) (y : ByteArray) (hx : a.eval x = .slice (some ⟨w.heap.size, 0, none⟩) 1 c2)
    (h63 : n ≤ 8000000000000) (hK : ∀ k, K k → k < w.heap.size)
    (h : ∀ A' c' w1, OwnS w1 K A' (n + 1) c' (l ++ [y]) → Kept K w w1 → wpList P ops Q rest (a.put o.dst (.slice A' (n + 1) c')) w1) : wpList P ops Q (o :: rest) a (w.alloc (.cells #[.string y] 9)) := by
  have hsz : (w.alloc (Obj.cells #[.string y] 9)).heap.size = w.heap.size + 1 := by simp
  have hK2 : ∀ k, K k → k < (w.alloc (Obj.cells #[.string y] 9)).heap.size := fun k hk => by have := hK k hk; omega
  have hy : (w.alloc (Obj.cells #[.string y] 9)).cell? ⟨w.heap.size, 0, none⟩ = some (.string y) := by rw [World.cell?_alloc_mark]; rfl
  obtain ⟨A', c', w1, hr, h1, h2, h3⟩ := run_append_S (P := P) _ K t o.type ht hinfo A n c l (hown.alloc _) ⟨w.heap.size, 0, none⟩ c2 y hy rfl h63 hK2
  refine wpList_plain hgd fun Kq hKq => ?_
  unfold Oper.wp execOp
  simp only [ho, resolve, invoke, builtin, Sem.run_bind, Sem.run_pure, Result.andThen_ok, List.map_toArray, List.map_cons, List.map_nil, hs, hx, hr]
  exact hKq _ _ (h A' c' w1 h1 ((Kept.of_below ((Below.refl _ _).alloc (Nat.le_refl _) _) hK).trans (Kept.of_grown h2 hK2 (fun k hk => (hown.lt k hk).1))))
section
variable {w w' : World} {K : Nat → Prop} {A : Option Addr} {n c g o : Nat} {l : List ByteArray}
theorem OwnS.kept (h : OwnS w K A n c l) (k' : Nat → Prop) (hk : Kept k' w w') (hq : ∀ k, (Value.slice A n c).ownBlock = some k → k' k) : OwnS w' K A n c l := h.keep fun k _ h2 _ => hk.block k (hq k h2)
theorem OwnS.reads (h : OwnS w K A n c l) : Reads w w.heap.size A n 1 (l.flatMap cStr) := by
  refine ⟨by rw [flat_length cStr 1 cStr_len, h.1], fun hn => ?_⟩
  obtain ⟨g, o, rfl, hg⟩ := h.shape hn
  refine ⟨g, o, rfl, hg, fun j hj => ?_⟩
  have hj' : j < n := by rw [flat_length cStr 1 cStr_len, h.1] at hj; omega
  have e := flat_getD cStr 1 cStr_len ByteArray.empty l j 0 (by rw [h.1]; exact hj') (by omega)
  rw [Nat.mul_one, Nat.add_zero] at e
  rw [h.cell j hj', e]
  rfl
/-- All but the first k of them. -/
theorem OwnS.back (h : OwnS w K (some ⟨g, o, none⟩) n c l) (k : Nat) (hk : k ≤ n) : OwnS w K (some ⟨g, o + k, none⟩) (n - k) (c - k) (l.drop k) := by
  refine ⟨by rw [List.length_drop, h.1], ?_⟩
  rcases h.2 with ⟨h0, _⟩ | ⟨g', o', cur, hv, hb, hg, h1, h2, h3, h4⟩
  · cases h0
  · injection hv with hv
    injection hv with hv hv2
    subst hv hv2
    refine .inr ⟨g, o + k, cur, rfl, hb, hg, by omega, by omega, by omega, ?_⟩
    rw [List.map_drop, ← h4, List.drop_take, List.drop_drop]
end
end Go.Proofs.YtgoofbbbnphncaaDoor
