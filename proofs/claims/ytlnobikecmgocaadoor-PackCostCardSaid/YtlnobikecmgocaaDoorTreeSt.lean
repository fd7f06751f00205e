/- Piles in the making: what lies where while tree.Lens runs. -/
import Derived.Test.YtlnobikecmgocaaDoorPileSort
import Derived.Test.YtlnobikecmgocaaDoorTreeCost
import Derived.Test.YtlnobikecmgocaaDoorConcatI
import Derived.Test.YtlnobikecmgocaaDoorTreeP
namespace Go.Proofs.YtlnobikecmgocaaDoor
open Go.RowKit Go.Sort
set_option linter.unusedVariables false

/-- Every block of ints stays as it was. -/
def KeepI (w w' : World) : Prop := ∀ k cs, Blk w k 3 cs → Blk w' k 3 cs
theorem KeepI.trans {a b c : World} (h : KeepI a b) (h' : KeepI b c) : KeepI a c := fun k cs hk => h' k cs (h k cs hk)
theorem KeepI.below {w w' : World} (h : Below w.heap.size w w') : KeepI w w' := fun k cs hk => hk.after h
theorem KeepI.alloc (w : World) (o : Obj) : KeepI w (w.alloc o) := fun k cs hk => hk.alloc o
theorem blk_type {w : World} {g : Nat} {t t' : TypeId} {cs cs' : Array Value} (h : Blk w g t cs) (h' : Blk w g t' cs') : t = t' := by
  have e := h.symm.trans h'
  injection e with e
  injection e with _ e _
theorem KeepI.grown {w w' : World} {row : Option Nat} (hg : w.grownBy w' row) (hr : ∀ g, row = some g → ∃ cs, Blk w g 42 cs) : KeepI w w' := fun k cs hk =>
  hk.grown hg fun e => by
    obtain ⟨cs', h⟩ := hr k e
    exact absurd (blk_type h hk) (by decide)
theorem OwnK.blkP {T : TypeId} {s : Nat} {w : World} {K : Nat → Prop} {A : Option Addr} {n c : Nat} {xs : List Value} (h : OwnK T s w K A n c xs) (g : Nat) (hg : (Value.slice A n c).ownBlock = some g) : ∃ cs, Blk w g T cs := by
  rcases h.2 with ⟨rfl, _⟩ | ⟨g', o, cur, rfl, _, hb, _⟩
  · cases hg
  · injection hg with hg
    subst hg
    exact ⟨_, hb⟩
theorem OwnK.keepI {w w' : World} {K : Nat → Prop} {A : Option Addr} {n c : Nat} {xs : List Value} (h : OwnK 3 1 w K A n c xs) (hk : KeepI w w') : OwnK 3 1 w' K A n c xs := by
  refine ⟨h.1, ?_⟩
  rcases h.2 with h0 | ⟨g, o, cur, hv, hb, hg, rest⟩
  · exact .inl h0
  · exact .inr ⟨g, o, cur, hv, hb, hk _ _ hg, rest⟩
def ikN (K : List Nat) : List Int := K.map fun (k : Nat) => (k : Int)
theorem ikN_len (K : List Nat) : (ikN K).length = K.length := by unfold ikN; rw [List.length_map]
theorem ikN_getD (K : List Nat) (j : Nat) : (ikN K).getD j 0 = ((K.getD j 0 : Nat) : Int) := by
  unfold ikN
  rw [List.getD_eq_getElem?_getD, List.getElem?_map, List.getD_eq_getElem?_getD]
  cases K[j]? <;> rfl
theorem ikN_app (a b : List Nat) : ikN (a ++ b) = ikN a ++ ikN b := by unfold ikN; rw [List.map_append]
/-- A pile's slice: the numbers K, in a block of ints that is not the block g. -/
def OfAt (w : World) (g : Nat) (A : Option Addr) (n : Nat) (K : List Nat) : Prop :=
  K.length = n ∧ (n = 0 ∨ ∃ b o cs, A = some ⟨b, o, none⟩ ∧ b ≠ g ∧ Blk w b 3 cs ∧ ∀ j, j < n → cs[o + j]? = some (.int .i64 ((K.getD j 0 : Nat) : Int)))
section
variable {w w' : World} {g n : Nat} {A : Option Addr} {K : List Nat}
theorem OfAt.keep (h : OfAt w g A n K) (hk : KeepI w w') : OfAt w' g A n K := by
  refine ⟨h.1, ?_⟩
  rcases h.2 with h0 | ⟨b, o, cs, hA, hb, hB, hc⟩
  · exact .inl h0
  · exact .inr ⟨b, o, cs, hA, hb, hk _ _ hB, hc⟩
theorem OfAt.store (h : OfAt w g A n K) (i : Nat) (u : Value) : OfAt (w.setCell ⟨g, i, none⟩ u) g A n K := by
  refine ⟨h.1, ?_⟩
  rcases h.2 with h0 | ⟨b, o, cs, hA, hb, hB, hc⟩
  · exact .inl h0
  · exact .inr ⟨b, o, cs, hA, hb, hB.far (p := ⟨g, i, none⟩) hb u, hc⟩
theorem OfAt.reads (h : OfAt w g A n K) : Reads w w.heap.size A n 1 ((ikN K).flatMap cInt) := by
  have hl : ((ikN K).flatMap cInt).length = n := by rw [flat_length cInt 1 cInt_len, ikN_len, h.1, Nat.mul_one]
  refine ⟨by rw [hl, Nat.mul_one], fun hn => ?_⟩
  rcases h.2 with h0 | ⟨b, o, cs, hA, hb, hB, hc⟩
  · omega
  · refine ⟨b, o, hA, hB.lt, fun j hj => ?_⟩
    rw [hl] at hj
    have e := flat_getD cInt 1 cInt_len 0 (ikN K) j 0 (by rw [ikN_len, h.1]; exact hj) (by omega)
    rw [Nat.mul_one, Nat.add_zero] at e
    rw [e, hB.cell, hc j hj, ikN_getD]
    rfl
theorem OfAt.one (w : World) (g k : Nat) (hg : g < w.heap.size) : OfAt (w.alloc (Obj.cells #[.int .i64 (k : Int)] 3)) g (some ⟨w.heap.size, 0, none⟩) 1 [k] :=
  ⟨rfl, .inr ⟨w.heap.size, 0, #[.int .i64 (k : Int)], rfl, Nat.ne_of_gt hg, Blk.new w _ _, fun j hj => by
    have h0 : j = 0 := by have h1 : j < 1 := hj
                          omega
    subst h0
    rfl⟩⟩
theorem OfAt.own {c B : Nat} (h : w.ownsRow B 3 1 (.slice A n c) n ((ikN K).flatMap cInt)) (hg : g < B) (hK : K.length = n) : OfAt w g A n K := by
  refine ⟨hK, ?_⟩
  rcases h.2 with ⟨hv, h0⟩ | ⟨g', cap, cur, hv, h1, hh, h3, h4, _, h5⟩
  · injection hv with _ h1 _
    exact .inl (by omega)
  · have hv2 : A = some ⟨g', 0, none⟩ := by injection hv
    refine .inr ⟨g', 0, cur, hv2, by omega, hh, fun j hj => ?_⟩
    have e := flat_getD cInt 1 cInt_len 0 (ikN K) j 0 (by rw [ikN_len, hK]; exact hj) (by omega)
    rw [Nat.mul_one, Nat.add_zero, ikN_getD] at e
    have hl : j < ((ikN K).flatMap cInt).length := by rw [flat_length cInt 1 cInt_len, ikN_len, hK]; omega
    rw [Nat.zero_add, ← Array.getElem?_toList]
    have h6 : cur.toList[j]? = ((ikN K).flatMap cInt)[j]? := by rw [← h5, List.getElem?_take_of_lt (by omega)]
    rw [h6, List.getElem?_eq_getElem hl]
    rw [List.getD_eq_getElem?_getD, List.getElem?_eq_getElem hl] at e
    exact congrArg some e
end

abbrev LP := List (Pil × List Nat)
structure LensSt (w0 : World) (g : Nat) (W : World) (A : Option Addr) (c : Nat) (L : LP) (o : List Nat) : Prop where
  row : OwnK 42 2 W (· < w0.heap.size) A L.length c ((L.map (·.1)).flatMap cPil)
  out : Blk W g 3 ((ikN o).map (Value.int .i64)).toArray
  of : ∀ x ∈ L, OfAt W g x.1.1.2.1 x.1.1.2.2.1 x.2
  low : Below w0.heap.size w0 W
  hg : w0.heap.size ≤ g
/-- Piles, without their slices. -/
def bare (L : LP) : List Pile := L.map fun x => (x.1.1.1, x.2)
theorem perm_lift {α β : Type} (f : α → β) : ∀ (d : List β) (L : List α), (L.map f).Perm d → ∃ M, L.Perm M ∧ M.map f = d
  | [], L, h => by
    have : L = [] := by have := h.length_eq; simpa using this
    exact ⟨[], by rw [this], rfl⟩
  | x :: d, L, h => by
    have hx : x ∈ L.map f := h.mem_iff.2 (by simp)
    obtain ⟨y, hy, rfl⟩ := List.mem_map.1 hx
    obtain ⟨s, t, rfl⟩ := List.append_of_mem hy
    have hp : (s ++ y :: t).Perm (y :: (s ++ t)) := List.perm_middle
    obtain ⟨M, h1, h2⟩ := perm_lift f d (s ++ t) (((hp.map f).symm.trans h).cons_inv)
    exact ⟨y :: M, hp.trans (h1.cons y), by rw [List.map_cons, h2]⟩
end Go.Proofs.YtlnobikecmgocaaDoor
