/- Piles in the making: one more, two less. -/
import Derived.Test.YtlnobikecmgocaaDoorTreeSortL
namespace Go.Proofs.YtlnobikecmgocaaDoor
open Go.RowKit Go.Sort
set_option linter.unusedVariables false

theorem made_ints (n : Nat) : madeCells #[Value.int .i64 0] n = ((ikN (List.replicate n 0)).map (Value.int .i64)).toArray := by
  refine Array.ext (by simp [ikN, size_madeCells]) fun i h1 h2 => ?_
  simp [madeCells, ikN, Nat.mod_one]
theorem LensSt.push {w0 W W2 W3 : World} {g n : Nat} {A A3 : Option Addr} {c c3 : Nat} {L : LP} {o : List Nat} {x : Pil × List Nat} (h : LensSt w0 g W A c L o) (hb : Below W.heap.size W W2) (hn : n = L.length)
    (hown : OwnK 42 2 W3 (· < w0.heap.size) A3 (n + 1) c3 ((L.map fun x => x.1).flatMap cPil ++ cPil x.1)) (hg : W2.grownBy W3 (Value.slice A n c).ownBlock) (hx : OfAt W2 g x.1.1.2.1 x.1.1.2.2.1 x.2) : LensSt w0 g W3 A3 c3 (L ++ [x]) o := by
  subst hn
  have hk1 : KeepI W W2 := KeepI.below hb
  have hk2 : KeepI W2 W3 := KeepI.grown hg fun k hk => by
    obtain ⟨cs, hB⟩ := h.row.blkP k hk
    exact ⟨cs, hB.after hb⟩
  have hs := h.low.size
  refine ⟨?_, hk2 _ _ (hk1 _ _ h.out), fun y hy => ?_, (h.low.trans (hb.mono hs)).grown hg (Nat.le_trans hs hb.size) (fun k hk => by have := (h.row.lt k hk).1; omega), h.hg⟩
  · rw [List.length_append, List.length_singleton, List.map_append, List.flatMap_append]
    simpa using hown
  · rcases List.mem_append.1 hy with hy | hy
    · exact ((h.of y hy).keep hk1).keep hk2
    · rw [List.mem_singleton.1 hy]; exact hx.keep hk2
theorem LensSt.after {w0 W W' : World} {g : Nat} {A : Option Addr} {c : Nat} {L : LP} {o : List Nat} (h : LensSt w0 g W A c L o) (hb : Below W.heap.size W W') : LensSt w0 g W' A c L o :=
  ⟨h.row.after hb, h.out.after hb, fun x hx => (h.of x hx).keep (KeepI.below hb), h.low.trans (hb.mono h.low.size), h.hg⟩
/-- One of the numbers told is set anew. -/
theorem LensSt.put {w0 W : World} {g : Nat} {A : Option Addr} {c : Nat} {L : LP} {o : List Nat} (h : LensSt w0 g W A c L o) (k v : Nat) : LensSt w0 g (W.setCell ⟨g, k, none⟩ (.int .i64 (v : Int))) A c L (o.set k v) := by
  refine ⟨h.row.far (fun hq => ?_) k _, ?_, fun x hx => (h.of x hx).store k _, h.low.setCell h.hg _, h.hg⟩
  · obtain ⟨cs, hB⟩ := h.row.blkP g hq
    exact absurd (blk_type hB h.out) (by decide)
  · have := h.out.set_ k (.int .i64 (v : Int))
    have e : ((ikN o).map (Value.int .i64)).toArray.setIfInBounds k (.int .i64 (v : Int)) = ((ikN (o.set k v)).map (Value.int .i64)).toArray := by
      rw [List.setIfInBounds_toArray]
      congr 1
      unfold ikN
      rw [List.map_set, List.map_set]
    rwa [e] at this
theorem LensSt.outCell {w0 W : World} {g : Nat} {A : Option Addr} {c : Nat} {L : LP} {o : List Nat} (h : LensSt w0 g W A c L o) (k : Nat) (hk : k < o.length) : W.cell? ⟨g, k, none⟩ = some (.int .i64 ((o.getD k 0 : Nat) : Int)) ∧ W.frozen? ⟨g, k, none⟩ = false := by
  refine ⟨?_, h.out.frozen k⟩
  rw [h.out.cell]
  unfold ikN
  simp [hk, List.getD_eq_getElem?_getD]
/-- All but two. -/
theorem LensSt.rest {w0 W : World} {g b off c : Nat} {x y : Pil × List Nat} {r : LP} {o : List Nat} (h : LensSt w0 g W (some ⟨b, off, none⟩) c (x :: y :: r) o) : LensSt w0 g W (some ⟨b, if c = 2 then off else off + 4, none⟩) (c - 2) r o := by
  have hrow := h.row
  have hl : (x :: y :: r).length = r.length + 2 := rfl
  have hd : (((x :: y :: r).map fun x => x.1).flatMap cPil).drop (2 * 2) = (r.map fun x => x.1).flatMap cPil := rfl
  rw [hl] at hrow
  have hcap := hrow.cap
  refine ⟨?_, h.out, fun z hz => h.of z (by simp [hz]), h.low, h.hg⟩
  by_cases h2 : c = 2
  · rw [if_pos h2]
    subst h2
    have h0 : r.length = 0 := by omega
    have hr : r = [] := List.eq_nil_of_length_eq_zero h0
    subst hr
    exact hrow.tail0 2
  · rw [if_neg h2]
    have := hrow.tail 2 (by omega)
    rw [hd, Nat.add_sub_cancel] at this
    exact this
theorem LensSt.cells {w0 W : World} {g b off c : Nat} {x y : Pil × List Nat} {r : LP} {o : List Nat} (h : LensSt w0 g W (some ⟨b, off, none⟩) c (x :: y :: r) o) :
    W.cell? ⟨b, off, none⟩ = some (.int .i64 (x.1.1.1 : Int)) ∧ W.cell? ⟨b, off + 1, none⟩ = some (.slice x.1.1.2.1 x.1.1.2.2.1 x.1.1.2.2.2) ∧ W.cell? ⟨b, off + 2, none⟩ = some (.int .i64 (y.1.1.1 : Int)) ∧ W.cell? ⟨b, off + 3, none⟩ = some (.slice y.1.1.2.1 y.1.1.2.2.1 y.1.1.2.2.2) ∧ b < W.heap.size := by
  have hl : (x :: y :: r).length = r.length + 2 := rfl
  have hrow := h.row
  rw [hl] at hrow
  have e0 := (hrow.cell 0 (by omega)).1
  have e1 := (hrow.cell 1 (by omega)).1
  have e2 := (hrow.cell 2 (by omega)).1
  have e3 := (hrow.cell 3 (by omega)).1
  exact ⟨e0, e1, e2, e3, (hrow.lt b rfl).2⟩

theorem sumL_top {f : Nat → Nat} (hf : ∀ k, f k ≤ 10000) : ∀ l : List Nat, sumL f l ≤ l.length * 10000
  | [] => by simp [sumL]
  | k :: l => by
    have := sumL_top hf l
    have := hf k
    rw [sumL, List.length_cons]
    omega
theorem HInv.two {ws o : List Nat} {a b : Nat} {A B : List Nat} {r : List Pile} (h : HInv ws ((a, A) :: (b, B) :: r) o) (h12 : ws.length ≤ 12) (hw : ∀ k, ws.getD k 0 ≤ 10000) :
    a + b ≤ 120000 ∧ A.length + B.length ≤ 12 ∧ (∀ k ∈ A ++ B, k < o.length) ∧ o.length ≤ 12 ∧ ∀ j k, k < o.length → (inc o ((A ++ B).take j)).getD k 0 ≤ 24 := by
  have hA := h.lt (p := (a, A)) (by simp)
  have hB := h.lt (p := (b, B)) (by simp)
  have hAB : ∀ k ∈ A ++ B, k < o.length := fun k hk => by
    rw [h.len]
    rcases List.mem_append.1 hk with hk | hk
    · exact hA k hk
    · exact hB k hk
  have wa := h.weight (a, A) (by simp)
  have wb := h.weight (b, B) (by simp)
  simp only at wa wb
  have hp := sumL_perm (fun k => ws.getD k 0) h.part
  have hl := h.part.length_eq
  simp only [List.map_cons, List.flatten_cons] at hp hl
  rw [sumL_app, sumL_app, ← wa, ← wb] at hp
  rw [List.length_append, List.length_append, List.length_range] at hl
  have ht := sumL_top hw (List.range ws.length)
  rw [List.length_range] at ht
  refine ⟨by omega, by omega, hAB, by rw [h.len]; exact h12, fun j k hk => ?_⟩
  rw [inc_at _ o (fun k hk => hAB k (List.mem_of_mem_take hk))]
  have h1 := h.deep k (by rw [← h.len]; exact hk)
  have h2 := List.count_le_length (a := k) (l := (A ++ B).take j)
  rw [List.length_take, List.length_append] at h2
  omega
end Go.Proofs.YtlnobikecmgocaaDoor
