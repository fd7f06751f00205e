/- strings.Builder, beside rows of another kind. -/
import Derived.Test.YtgoofbbbnphncaaDoorBuilder
import Derived.Test.YtgoofbbbnphncaaDoorOwnK
import Derived.Shelf.Strings.BuilderK
namespace Go.Proofs.YtgoofbbbnphncaaDoor
open Go.RowKit
set_option linter.unusedVariables false

/-- A builder that holds these bytes, some of them handed out perhaps. -/
def BldF (w : World) (b : Nat) (l : Wd) : Prop := Lib.IsBuilderF 76 5 b b (Lib.byteCells l) w
theorem BldF.new (w : World) : BldF (w.alloc (.cells #[.pointer none, .slice none 0 0] 76)) w.heap.size [] := Lib.IsBuilderF.of (Lib.fresh_isBuilder _ _ w)
theorem BldF.lt {w : World} {b : Nat} {l : Wd} (h : BldF w b l) : b < w.heap.size := by
  rcases h with ⟨_, v, hb, _⟩ | ⟨_, v, hb, _⟩ <;> exact (Array.getElem?_eq_some_iff.1 hb).1
theorem BldF.blk {w : World} {b : Nat} {l : Wd} (h : BldF w b l) : ∃ cs, Blk w b 76 cs := by
  rcases h with ⟨_, v, hb, _⟩ | ⟨_, v, hb, _⟩ <;> exact ⟨_, hb⟩
theorem BldF.keep {w w' : World} {b : Nat} {l : Wd} (h : BldF w b l) (hk : ∀ (k : Nat) (t : TypeId) (cs : Array Value) (fz : Nat × Nat), t = 76 ∨ t = 5 → w.heap[k]? = some (Obj.cells cs t fz) → w'.heap[k]? = some (Obj.cells cs t fz)) : BldF w' b l := by
  have key : ∀ p, Lib.BuilderAtF 76 5 b b p (Lib.byteCells l) w → Lib.BuilderAtF 76 5 b b p (Lib.byteCells l) w' := fun p ⟨h1, v, hb, hown, hne⟩ => by
    refine ⟨h1, v, hk b _ _ _ (.inl rfl) hb, ⟨hown.1, ?_⟩, hne⟩
    rcases hown.2 with h0 | ⟨g, cap, cur, fz, hv, hB, hg, rest⟩
    · exact .inl h0
    · exact .inr ⟨g, cap, cur, fz, hv, hB, hk g _ _ _ (.inr rfl) hg, rest⟩
  rcases h with h | h
  · exact .inl (key _ h)
  · exact .inr (key _ h)
theorem BldF.after {w w' : World} {b : Nat} {l : Wd} (h : BldF w b l) (hb : Below w.heap.size w w') : BldF w' b l := h.keep fun k t cs fz _ hk => by
  rw [hb.block k (Array.getElem?_eq_some_iff.1 hk).1]; exact hk
/-- What grows a row of ints leaves it. -/
theorem BldF.grown {w w' : World} {b : Nat} {l : Wd} {row : Option Nat} (h : BldF w b l) (hg : w.grownBy w' row) (hr : ∀ g, row = some g → ∃ cs, Blk w g 3 cs) : BldF w' b l := h.keep fun k t cs fz ht hk => by
  rw [hg.block k (Array.getElem?_eq_some_iff.1 hk).1 (fun e => by
    obtain ⟨cs', h'⟩ := hr k e.symm
    have h2 : w.heap[k]? = _ := h'
    rw [hk] at h2
    injection h2 with h2
    injection h2 with _ h2 _
    rcases ht with rfl | rfl
    · exact absurd h2 (by decide)
    · exact absurd h2 (by decide))]
  exact hk
theorem bldWriteF (b : Nat) (l : Wd) (s : ByteArray) (w : World) (h : BldF w b l) (hlen : l.length + s.size ≤ 140737488355328) :
    Calls Tryd.prog 53 #[.pointer (some ⟨b, 0, none⟩), .string s] w fun e w' => e = .returned (.tuple #[.int .i64 s.size, .nilIface]) ∧ BldF w' b (l ++ wd s) ∧ Below b w w' ∧ Lib.OthersKept 5 (some b) w w' := by
  have hc := Any.Builder_WriteString_k layWS layWSX b b (Lib.byteCells l) s w h (by rw [Lib.byteCells_length]; exact hlen) (Nat.le_of_lt h.lt)
  change Calls Tryd.prog 53 _ _ _ at hc
  refine hc.mono fun e w' ⟨he, hb, hbl, ho⟩ => ⟨he, ?_, hbl, ho⟩
  rw [Lib.strCells_eq, ← Lib.byteCells_append] at hb
  exact .inr hb
theorem bldStringF (b : Nat) (l : Wd) (w : World) (h : BldF w b l) :
    Calls Tryd.prog 54 #[.pointer (some ⟨b, 0, none⟩)] w fun e w' => e = .returned (.string (⟨l.toArray⟩ : ByteArray)) ∧ Below b w w' ∧ Lib.OthersKept 5 (some b) w w' := by
  have hc := Any.Builder_String_any_k layBS layBSX b b l w h (Nat.le_of_lt h.lt)
  change Calls Tryd.prog 54 _ _ _ at hc
  exact hc.mono fun e w' ⟨he, _, hb, ho⟩ => ⟨he, hb, ho⟩
theorem OwnK.blkOf {T : TypeId} {s : Nat} {w : World} {K : Nat → Prop} {A : Option Addr} {n c : Nat} {xs : List Value} (h : OwnK T s w K A n c xs) (g : Nat) (hg : (Value.slice A n c).ownBlock = some g) : ∃ cs, Blk w g T cs := by
  rcases h.2 with ⟨rfl, _⟩ | ⟨g', o, cur, rfl, _, hb, _⟩
  · cases hg
  · injection hg with hg
    subst hg
    exact ⟨_, hb⟩
/-- A row of ints beside a builder. -/
theorem OwnK.others {s : Nat} {w w' : World} {K : Nat → Prop} {A : Option Addr} {n c b : Nat} {xs : List Value} (h : OwnK 3 s w K A n c xs) (ho : Lib.OthersKept 5 (some b) w w') (hb : ∃ cs, Blk w b 76 cs) : OwnK 3 s w' K A n c xs := by
  refine ⟨h.1, ?_⟩
  rcases h.2 with h0 | ⟨g, o, cur, hv, hk, hg, rest⟩
  · exact .inl h0
  · refine .inr ⟨g, o, cur, hv, hk, ?_, rest⟩
    obtain ⟨cs, hb⟩ := hb
    refine ho g _ hg (fun e => ?_) (fun c fz e => ?_)
    · injection e with e
      subst e
      have h2 : w.heap[g]? = _ := hb
      rw [show w.heap[g]? = _ from hg] at h2
      injection h2 with h2
      injection h2 with _ h2 _
      exact absurd h2 (by decide)
    · injection e with _ e _
      exact absurd e (by decide)
end Go.Proofs.YtgoofbbbnphncaaDoor
