/- append of a row, wherever it lies. -/
import Derived.Test.YtkeeggklgdinhaaSlice
import Derived.Test.YtkeeggklgdinhaaTail
import Derived.Test.YtkeeggklgdinhaaStruct
namespace Go.Proofs.Ytkeeggklgdinhaa
open Go.RowKit
set_option linter.unusedVariables false

/-- append of another row, wherever it lies. -/
theorem wpList_append_all {P : Program} {w : World} {ops : Array Oper} {rest : List Oper} {o : Oper} {a : Act} {Q : Exit → Act → World → Prop} (hgd : o.guard = none) (s x : Operand) (t : TypeId)
    (ho : o.op = .call { callee := .builtin .append, args := #[s, x], argTypes := #[t, t] })
    (base : Nat) (e : TypeId) {z : Value} {size bytes : Nat} (hinfo : (P.info? e).map (fun i => (i.zero, i.size, i.bytes)) = some (some z, size, bytes)) (ht : P.underlying t = some (.slice e)) (hzs : z.cells.size = size) (hsz : 0 < size)
    (A : Option Addr) (n c : Nat) (xs : List Value) (hs : a.eval s = .slice A n c) (hown : w.ownsRow base e size (.slice A n c) n xs)
    (X : Option Addr) (m c2 B : Nat) (news : List Value) (hx : a.eval x = .slice X m c2) (hr : Reads w B X m size news) (h1 : ∀ u ∈ news, u.oneCell' = true)
    (h63 : n + m ≤ maxLen) (hbytes : (n + m) * bytes ≤ 140737488355328) (hbase : base ≤ w.heap.size)
    (h : ∀ A' c' w1, w1.ownsRow base e size (.slice A' (n + m) c') (n + m) (xs ++ news) → w.grownBy w1 (Value.slice A n c).ownBlock → wpList P ops Q rest (a.put o.dst (.slice A' (n + m) c')) w1) : wpList P ops Q (o :: rest) a w := by
  obtain ⟨i0, hi, hz0, hz1, hz2⟩ := info_parts hinfo
  cases X with
  | some ad =>
    refine wpList_append_own w hgd s x t ho base e i0 z size bytes ht hi hz0 hz1 hz2 hzs hsz (.slice A n c) n xs hs hown ad m c2 news hx hr.1 (fun j u hj => ?_) h1 h63 hbytes hbase fun v' w1 h2 h3 _ => ?_
    · have hj' := (List.getElem?_eq_some_iff.1 hj).1
      have hm0 : 0 < m := by rcases Nat.eq_zero_or_pos m with h0 | h0; rw [hr.1, h0] at hj'; omega; exact h0
      obtain ⟨b, o, e, hb, hc⟩ := hr.2 hm0
      injection e with e
      subst e
      rw [add_at, hc j hj', List.getD_eq_getElem?_getD, hj]; rfl
    · obtain ⟨A', c', rfl, _⟩ := own_shape h2
      exact h A' c' w1 h2 h3
  | none =>
    have hm : m = 0 := by
      rcases Nat.eq_zero_or_pos m with h0 | h0
      · exact h0
      · obtain ⟨b, o, e, _⟩ := hr.2 h0; cases e
    subst hm
    have hn : news = [] := List.eq_nil_of_length_eq_zero (by rw [hr.1]; omega)
    subst hn
    have hcap : n ≤ c := by
      rcases hown.2 with ⟨h1, h0⟩ | ⟨g, cap, cur, h1, _, _, h2, _⟩
      · omega
      · injection h1 with _ _ h3
        omega
    have hrun : (Builtin.append_ #[t, t] o.type #[.slice A n c, .slice none 0 c2]).run P w = .ok (.slice A n c) w := by
      cases A with
      | some a0 => simp [Builtin.append_, run_underlying ht, sizeOf, typeInfo, hi, Builtin.lenOf, Builtin.firstCells, loadCells, storeCells, hcap]
      | none =>
        have h0 : n = 0 ∧ c = 0 := by
          rcases hown.2 with ⟨h1, h0⟩ | ⟨g, cap, cur, h1, _⟩
          · injection h1 with _ h2 h3; exact ⟨h2, h3⟩
          · injection h1 with h1; cases h1
        obtain ⟨rfl, rfl⟩ := h0
        simp [Builtin.append_, run_underlying ht, sizeOf, typeInfo, hi, Builtin.lenOf, Builtin.firstCells]
    refine wpList_plain hgd fun K hK => ?_
    unfold Oper.wp execOp
    simp only [ho, resolve, invoke, builtin, Sem.run_bind, Sem.run_pure, Result.andThen_ok, List.map_toArray, List.map_cons, List.map_nil, hs, hx, hrun]
    refine hK _ _ (h A c w ?_ ?_)
    · rw [List.append_nil]; exact hown
    · exact ⟨rfl, rfl, rfl, Nat.le_refl _, fun _ _ _ => rfl⟩

theorem own_ne_type {w : World} {B size n g : Nat} {e t : TypeId} {v : Value} {xs : List Value} {cs : Array Value} {fz : Nat × Nat} (h : w.ownsRow B e size v n xs) (hb : w.heap[g]? = some (.cells cs t fz)) (ht : e ≠ t) : v.ownBlock ≠ some g := fun hq => by
  rcases h.2 with ⟨rfl, _⟩ | ⟨g', cap, cur, rfl, _, hg, _⟩
  · cases hq
  · injection hq with hq
    subst hq
    have := hg.symm.trans hb
    injection this with this
    injection this with _ h1 _
    exact ht h1
theorem ownsRow_later {w w' : World} {B size n : Nat} {e : TypeId} {v : Value} {xs : List Value} (h : w.ownsRow B e size v n xs) (hb : Below w.heap.size w w') : w'.ownsRow B e size v n xs := by
  have hlt := h.lt
  refine ⟨h.1, ?_⟩
  rcases h.2 with h0 | ⟨g', cap, cur, hv, hB, hg, rest⟩
  · exact .inl h0
  · exact .inr ⟨g', cap, cur, hv, hB, by rw [hb.block g' (hlt g' (by rw [hv]; rfl)).2]; exact hg, rest⟩
theorem cell_heap {w w' : World} {h : Nat} (hh : w'.heap[h]? = w.heap[h]?) (j : Nat) : w'.cell? ⟨h, j, none⟩ = w.cell? ⟨h, j, none⟩ := by
  simp [World.cell?, hh]
end Go.Proofs.Ytkeeggklgdinhaa
