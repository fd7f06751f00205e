/- An editor of a text: how it lies in memory, and its methods' walks. -/
import Derived.Test.YtookbaaicpapnaaApply
import Derived.Test.YtookbaaicpapnaaTail
import Derived.Deep.RegionHeldLaw
import Derived.Deep.RegionLaw
import Derived.BigRegion
namespace Go.Proofs.Ytookbaaicpapnaa
open Go.RowKit
set_option linter.unusedVariables false

/-- Blocks of K are as they were. -/
structure Kept (K : Nat → Prop) (w w' : World) : Prop where
  os : w'.os = w.os
  tape : w'.tape = w.tape
  output : w'.output = w.output
  size : w.heap.size ≤ w'.heap.size
  block : ∀ k, K k → w'.heap[k]? = w.heap[k]?
section
variable {K : Nat → Prop} {w w' w'' : World} {g : Nat}
theorem Kept.refl (K : Nat → Prop) (w : World) : Kept K w w := ⟨rfl, rfl, rfl, Nat.le_refl _, fun _ _ => rfl⟩
theorem Kept.trans (h : Kept K w w') (h2 : Kept K w' w'') : Kept K w w'' := ⟨h2.os.trans h.os, h2.tape.trans h.tape, h2.output.trans h.output, Nat.le_trans h.size h2.size, fun k hk => (h2.block k hk).trans (h.block k hk)⟩
theorem Kept.of_below (h : Below w.heap.size w w') (hK : ∀ k, K k → k < w.heap.size) : Kept K w w' := ⟨h.os, h.tape, h.output, h.size, fun k hk => h.block k (hK k hk)⟩
theorem Kept.of_grown {row : Option Nat} (h : w.grownBy w' row) (hK : ∀ k, K k → k < w.heap.size) (hr : ∀ k, row = some k → ¬ K k) : Kept K w w' := ⟨h.os, h.tape, h.output, h.size, fun k hk => h.block k (hK k hk) (fun e => hr k e.symm hk)⟩
theorem Kept.set (h : Kept K w w') (hg : ¬ K g) (i : Nat) (u : Value) : Kept K w (w'.setCell ⟨g, i, none⟩ u) :=
  ⟨h.os, h.tape, h.output, by rw [size_setCell]; exact h.size, fun k hk => (Below.heap_setCell w' ⟨g, i, none⟩ u k (by rintro rfl; exact hg hk)).trans (h.block k hk)⟩
theorem Kept.drew (h : Kept K w w') : Kept K w w'.drew := ⟨h.os, h.tape, h.output, h.size, h.block⟩
theorem Kept.drewN (h : Kept K w w') (n : Nat) : Kept K w (w'.drewN n) := ⟨h.os, h.tape, h.output, h.size, h.block⟩
theorem Kept.lt (h : Kept K w w') (hK : ∀ k, K k → k < w.heap.size) : ∀ k, K k → k < w'.heap.size := fun k hk => Nat.lt_of_lt_of_le (hK k hk) h.size
theorem Kept.below {B : Nat} (h : Kept (· < B) w w') : Below B w w' := ⟨h.os, h.tape, h.output, h.size, fun k hk => h.block k hk⟩
theorem Kept.weak {K' : Nat → Prop} (h : Kept K w w') (hK : ∀ k, K' k → K k) : Kept K' w w' := ⟨h.os, h.tape, h.output, h.size, fun k hk => h.block k (hK k hk)⟩
end

/-- A slice of strings that lies anywhere in a row of one's own. -/
def OwnS (w : World) (K : Nat → Prop) (A : Option Addr) (n c : Nat) (l : List ByteArray) : Prop :=
  l.length = n ∧ ((A = none ∧ n = 0 ∧ c = 0) ∨
    ∃ g o cur, A = some ⟨g, o, none⟩ ∧ ¬ K g ∧ Blk w g 9 cur ∧ n ≤ c ∧ c ≤ maxLen ∧ cur.size = o + c ∧ (cur.toList.drop o).take n = l.map Value.string)
section
variable {w w' : World} {K : Nat → Prop} {A : Option Addr} {n c g o : Nat} {l : List ByteArray}
theorem OwnS.nil (w : World) (K : Nat → Prop) : OwnS w K none 0 0 [] := ⟨rfl, .inl ⟨rfl, rfl, rfl⟩⟩
theorem OwnS.cap (h : OwnS w K A n c l) : n ≤ c ∧ c ≤ maxLen := by
  rcases h.2 with ⟨_, h1, h2⟩ | ⟨g, o, cur, _, _, _, h1, h2, _⟩
  · omega
  · exact ⟨h1, h2⟩
theorem OwnS.keep (h : OwnS w K A n c l) (hk : ∀ k, ¬ K k → (Value.slice A n c).ownBlock = some k → k < w.heap.size → w'.heap[k]? = w.heap[k]?) : OwnS w' K A n c l := by
  refine ⟨h.1, ?_⟩
  rcases h.2 with h0 | ⟨g, o, cur, hv, hb, hg, rest⟩
  · exact .inl h0
  · exact .inr ⟨g, o, cur, hv, hb, by unfold Blk; rw [hk g hb (by rw [hv]; rfl) hg.lt]; exact hg, rest⟩
theorem OwnS.after (h : OwnS w K A n c l) (hb : Below w.heap.size w w') : OwnS w' K A n c l := h.keep fun k _ _ hk => hb.block k hk
theorem OwnS.alloc (h : OwnS w K A n c l) (o : Obj) : OwnS (w.alloc o) K A n c l := h.keep fun k _ _ hk => Below.heap_alloc w o k hk
theorem OwnS.far (h : OwnS w K A n c l) (hp : (Value.slice A n c).ownBlock ≠ some g) (i : Nat) (u : Value) : OwnS (w.setCell ⟨g, i, none⟩ u) K A n c l :=
  h.keep fun k _ hq _ => Below.heap_setCell w ⟨g, i, none⟩ u k (by rintro rfl; exact hp hq)
theorem OwnS.grown {row : Option Nat} (h : OwnS w K A n c l) (hg : w.grownBy w' row) (hp : ∀ k, row = some k → (Value.slice A n c).ownBlock ≠ some k) : OwnS w' K A n c l :=
  h.keep fun k _ hq hk => hg.block k hk (fun e => hp k e.symm hq)
theorem OwnS.lt (h : OwnS w K A n c l) : ∀ k, (Value.slice A n c).ownBlock = some k → ¬ K k ∧ k < w.heap.size := fun k hk => by
  rcases h.2 with ⟨rfl, _⟩ | ⟨g, o, cur, rfl, hb, hg, _⟩
  · cases hk
  · injection hk with hk
    subst hk
    exact ⟨hb, hg.lt⟩
theorem OwnS.weak {K' : Nat → Prop} (h : OwnS w K A n c l) (hK : ∀ k, (Value.slice A n c).ownBlock = some k → ¬ K' k) : OwnS w K' A n c l := by
  refine ⟨h.1, ?_⟩
  rcases h.2 with h0 | ⟨g, o, cur, hv, hb, rest⟩
  · exact .inl h0
  · exact .inr ⟨g, o, cur, hv, hK g (by rw [hv]; rfl), rest⟩
theorem OwnS.ne_blk {t : TypeId} {cs : Array Value} (h : OwnS w K A n c l) (hg : Blk w g t cs) (ht : 9 ≠ t) : (Value.slice A n c).ownBlock ≠ some g := fun hq => by
  rcases h.2 with ⟨rfl, _⟩ | ⟨g', o, cur, rfl, hb, hg', _⟩
  · cases hq
  · injection hq with hq
    subst hq
    have := hg'.symm.trans hg
    injection this with this
    injection this with _ this _
    exact ht this
theorem OwnS.shape (h : OwnS w K A n c l) (hn : 0 < n) : ∃ g o, A = some ⟨g, o, none⟩ ∧ g < w.heap.size := by
  rcases h.2 with ⟨_, h0, _⟩ | ⟨g, o, _, hv, _, hg, _⟩
  · omega
  · exact ⟨g, o, hv, hg.lt⟩
theorem OwnS.cell (h : OwnS w K (some ⟨g, o, none⟩) n c l) (j : Nat) (hj : j < n) : w.cell? ⟨g, o + j, none⟩ = some (.string (l.getD j ByteArray.empty)) := by
  rcases h.2 with ⟨h0, _⟩ | ⟨g', o', cur, hv, hb, hg, h1, h2, h3, h4⟩
  · cases h0
  · injection hv with hv
    injection hv with hv hv2
    subst hv hv2
    rw [hg.cell, ← Array.getElem?_toList]
    have : ((cur.toList.drop o).take n)[j]? = cur.toList[o + j]? := by rw [List.getElem?_take, if_pos hj, List.getElem?_drop]
    rw [← this, h4, List.getElem?_map, List.getElem?_eq_getElem (by rw [h.1]; exact hj), List.getD_eq_getElem?_getD, List.getElem?_eq_getElem (by rw [h.1]; exact hj)]
    rfl
/-- The first of them. -/
theorem OwnS.short (h : OwnS w K A n c l) (m : Nat) (hm : m ≤ n) : OwnS w K A m c (l.take m) := by
  refine ⟨by rw [List.length_take, h.1]; omega, ?_⟩
  rcases h.2 with ⟨h0, h1, h2⟩ | ⟨g, o, cur, hv, hb, hg, h1, h2, h3, h4⟩
  · exact .inl ⟨h0, by omega, h2⟩
  · refine .inr ⟨g, o, cur, hv, hb, hg, by omega, h2, h3, ?_⟩
    rw [List.map_take, ← h4, List.take_take, Nat.min_eq_left hm]
/-- All but the first of them. -/
theorem OwnS.tail (h : OwnS w K (some ⟨g, o, none⟩) (n + 1) c l) : OwnS w K (some ⟨g, o + 1, none⟩) n (c - 1) (l.drop 1) := by
  refine ⟨by rw [List.length_drop, h.1]; omega, ?_⟩
  rcases h.2 with ⟨h0, _⟩ | ⟨g', o', cur, hv, hb, hg, h1, h2, h3, h4⟩
  · cases h0
  · injection hv with hv
    injection hv with hv hv2
    subst hv hv2
    refine .inr ⟨g, o + 1, cur, rfl, hb, hg, by omega, by omega, by omega, ?_⟩
    rw [List.map_drop, ← h4, List.drop_take, List.drop_drop]
    congr 1
end

/-- append of one string. -/
theorem run_append_S {P : Program} (w : World) (K : Nat → Prop) (t ty : TypeId) (ht : P.underlying t = some (.slice 9)) (hinfo : (P.info? 9).map (fun i => (i.zero, i.size, i.bytes)) = some (some (.string ⟨#[]⟩), 1, 16))
    (A : Option Addr) (n c : Nat) (l : List ByteArray) (hown : OwnS w K A n c l) (a : Addr) (c2 : Nat) (x : ByteArray) (hx : w.cell? a = some (.string x)) (ha : a.spot = none)
    (h63 : n ≤ 8000000000000) (hK : ∀ k, K k → k < w.heap.size) :
    ∃ A' c' w', (Builtin.append_ #[t, t] ty #[.slice A n c, .slice (some a) 1 c2]).run P w = .ok (.slice A' (n + 1) c') w' ∧ OwnS w' K A' (n + 1) c' (l ++ [x]) ∧ w.grownBy w' (Value.slice A n c).ownBlock ∧
      (∀ k, (Value.slice A' (n + 1) c').ownBlock = some k → (Value.slice A n c).ownBlock = some k ∨ w.heap.size ≤ k) := by
  obtain ⟨i, hi, hz, hs1, hby⟩ := info_parts hinfo
  have hnews : ∀ j u, ([.string x] : List Value)[j]? = some u → w.cell? (a.add j) = some u := fun j u hj => by
    cases j with
    | zero => injection hj with hj; subst hj; obtain ⟨b, o, s⟩ := a; simp only at ha; subst ha; rw [add_at, Nat.add_zero]; exact hx
    | succ j => simp at hj
  have h1 : ∀ u ∈ ([.string x] : List Value), u.oneCell' = true := by simp [Value.oneCell']
  have hll : (l ++ [x]).length = n + 1 := by rw [List.length_append, hown.1]; rfl
  rcases hown.2 with ⟨rfl, rfl, rfl⟩ | ⟨g, o, cur, rfl, hb, hg, hnc, hcm, hcs, htake⟩
  · have hl : l = [] := List.eq_nil_of_length_eq_zero hown.1
    subst hl
    have hr := run_append_nil (P := P) w t ty 9 i _ ht hi hz a 1 c2 [.string x] (by rw [hs1]; rfl) hnews (by omega) (by omega) (by rw [hby]; decide)
    refine ⟨_, _, _, hr, ⟨hll, .inr ⟨w.heap.size, 0, _, rfl, fun hk => Nat.lt_irrefl _ (hK _ hk), Blk.new w.drew _ _, grownCap_ge w 1 0 _, grownCap_le_maxLen w 1 0 _ (by unfold maxLen; omega), ?_, ?_⟩⟩, ⟨rfl, rfl, rfl, by simp, fun k hk _ => Below.heap_alloc w.drew _ k hk⟩, fun k hk => ?_⟩
    · have := grownCap_ge w 1 0 9
      simp only [Array.size_append, List.size_toArray, size_zeroCells, List.length_singleton]
      show 1 + (_ - 1) * 1 = _
      omega
    · simp
    · have hk : w.heap.size = k := by injection hk
      exact .inr (by omega)
  · by_cases hroom : n + 1 ≤ c
    · have hf := run_firstCells_some (P := P) w i.size 1 a 1 c2 [.string x] (by rw [hs1]; rfl) hnews
      have hst := run_storeCells_T P g (o + n) 9 (0, 0) [.string x] 0 cur w hg (fun i _ hh => by omega) (by simp; omega) h1
      simp only [Nat.add_zero] at hst
      have hr : (Builtin.append_ #[t, t] ty #[.slice (some ⟨g, o, none⟩) n c, .slice (some a) 1 c2]).run P w =
          .ok (.slice (some ⟨g, o, none⟩) (n + 1) c) (w.setRow g (cur.toList.take (o + n) ++ [Value.string x] ++ cur.toList.drop (o + n + [Value.string x].length)).toArray) := by
        rw [hs1] at hf
        simp [Builtin.append_, run_underlying ht, sizeOf, typeInfo, hi, Builtin.lenOf, hroom, hf, add_at, hs1, hst]
      refine ⟨_, _, _, hr, ⟨hll, .inr ⟨g, o, _, rfl, hb, setRow_heap w g cur _ _ _ hg, hroom, hcm, ?_, ?_⟩⟩, ⟨rfl, rfl, rfl, by simp, fun k _ hk => setRow_other w g k _ (fun e => hk (by simp [Value.ownBlock, e]))⟩, fun k hk => .inl hk⟩
      · simp only [List.size_toArray, List.length_append, List.length_take, List.length_drop, Array.length_toList, List.length_singleton]; omega
      · rw [List.map_append, ← htake]
        have hlen : (cur.toList.take (o + n)).length = o + n := by rw [List.length_take, Array.length_toList]; omega
        rw [List.append_assoc, List.drop_append_of_le_length (by omega), List.drop_take, show o + n - o = n from by omega]
        have hl2 : ((cur.toList.drop o).take n).length = n := by rw [List.length_take, List.length_drop, Array.length_toList]; omega
        rw [List.take_append, List.take_of_length_le (by omega), hl2, show n + 1 - n = 1 from by omega]
        rfl
    · have holds : ∀ j u, (l.map Value.string)[j]? = some u → w.cell? ((⟨g, o, none⟩ : Addr).add j) = some u := fun j u hj => by
        have hj' : j < n := by have := (List.getElem?_eq_some_iff.1 hj).1; rw [List.length_map, hown.1] at this; exact this
        rw [add_at, hg.cell, ← Array.getElem?_toList, ← hj, ← htake, List.getElem?_take, if_pos hj', List.getElem?_drop]
      have hr := run_append_grow (P := P) w t ty 9 i _ ht hi hz ⟨g, o, none⟩ n c (l.map Value.string) (by rw [List.length_map, hown.1, hs1]; omega) holds a 1 c2 [.string x] (by rw [hs1]; rfl) hnews (by omega) (by omega) (growslice_fits (by omega) (by rw [hby]; omega))
      refine ⟨_, _, _, hr, ⟨hll, .inr ⟨w.heap.size, 0, _, rfl, fun hk => Nat.lt_irrefl _ (hK _ hk), Blk.new w.drew _ _, grownCap_ge w (n + 1) c _, grownCap_le_maxLen w (n + 1) c _ (by unfold maxLen; omega), ?_, ?_⟩⟩, ⟨rfl, rfl, rfl, by simp, fun k hk _ => Below.heap_alloc w.drew _ k hk⟩, fun k hk => ?_⟩
      · have := grownCap_ge w (n + 1) c 9
        simp only [Array.size_append, List.size_toArray, size_zeroCells, List.length_singleton, List.length_map, hown.1]
        show n + 1 + (_ - (n + 1)) * 1 = _
        omega
      · rw [List.drop_zero, Array.toList_append, Array.toList_append, List.take_append_of_le_length (by simp [hown.1]), List.take_of_length_le (by simp [hown.1])]
        simp
      · have hk : w.heap.size = k := by injection hk
        exact .inr (by omega)

/-- append of one string, as one step of a region that draws. -/
theorem step_append_S {P : Program} {w : World} {ops : Array Oper} {o : Oper} {a : Act} {Kq : Act → World → Prop} {Q : Exit → Act → World → Prop} {E : Prop} (hgd : o.guard = none) (s x : Operand) (t : TypeId)
    (ho : o.op = .call { callee := .builtin .append, args := #[s, x], argTypes := #[t, t] }) (K : Nat → Prop)
    (hinfo : (P.info? 9).map (fun i => (i.zero, i.size, i.bytes)) = some (some (.string ⟨#[]⟩), 1, 16)) (ht : P.underlying t = some (.slice 9))
    (A : Option Addr) (n c : Nat) (l : List ByteArray) (hs : a.eval s = .slice A n c) (hown : OwnS w K A n c l)
    (ad : Addr) (c2 : Nat) (y : ByteArray) (hx : a.eval x = .slice (some ad) 1 c2) (hy : w.cell? ad = some (.string y)) (had : ad.spot = none)
    (h63 : n ≤ 8000000000000) (hK : ∀ k, K k → k < w.heap.size)
    (h : ∀ A' c' w1, OwnS w1 K A' (n + 1) c' (l ++ [y]) → w.grownBy w1 (Value.slice A n c).ownBlock → (∀ k, (Value.slice A' (n + 1) c').ownBlock = some k → (Value.slice A n c).ownBlock = some k ∨ w.heap.size ≤ k) → Kq (a.put o.dst (.slice A' (n + 1) c')) w1) :
    if Region.wanted o (yielded ops a.tmps) = true then Oper.wp P o a w Kq Q else E := by
  rw [if_pos (by simp [Region.wanted, hgd])]
  obtain ⟨A', c', w1, hr, h1, h2, h3⟩ := run_append_S (P := P) w K t o.type ht hinfo A n c l hown ad c2 y hy had h63 hK
  unfold Oper.wp execOp
  simp only [ho, resolve, invoke, builtin, Sem.run_bind, Sem.run_pure, Result.andThen_ok, List.map_toArray, List.map_cons, List.map_nil, hs, hx, hr]
  exact h A' c' w1 h1 h2 h3

/-- An editor lies there: its text, and what is kept to go back and onward. -/
structure EdAt (w : World) (K : Nat → Prop) (g : Nat) (s : ByteArray) (B O : List ByteArray) : Prop where
  ex : ∃ (Ab : Option Addr) (nb cb : Nat) (Ao : Option Addr) (no co : Nat), Blk w g 86 #[.string s, .slice Ab nb cb, .slice Ao no co] ∧ OwnS w K Ab nb cb B ∧ OwnS w K Ao no co O ∧
    (∀ k, (Value.slice Ab nb cb).ownBlock = some k → (Value.slice Ao no co).ownBlock ≠ some k)
  off : ¬ K g
theorem infoStrE : (Try.prog.info? 9).map (fun i => (i.zero, i.size, i.bytes)) = some (some (.string ⟨#[]⟩), 1, 16) := by kernel_rfl
theorem EdAt.lt {w : World} {K : Nat → Prop} {g : Nat} {s : ByteArray} {B O : List ByteArray} (h : EdAt w K g s B O) : g < w.heap.size := by
  obtain ⟨⟨_, _, _, _, _, _, h, _⟩, _⟩ := h
  exact h.lt
theorem EdAt.after {w w' : World} {K : Nat → Prop} {g : Nat} {s : ByteArray} {B O : List ByteArray} (h : EdAt w K g s B O) (hb : Below w.heap.size w w') : EdAt w' K g s B O := by
  obtain ⟨⟨Ab, nb, cb, Ao, no, co, h1, h2, h3, h4⟩, h5⟩ := h
  exact ⟨⟨Ab, nb, cb, Ao, no, co, h1.after hb, h2.after hb, h3.after hb, h4⟩, h5⟩
/-- Other blocks are to be kept: such as are not the editor's own. -/
theorem EdAt.weak {w : World} {K K' : Nat → Prop} {g : Nat} {s : ByteArray} {B O : List ByteArray} (h : EdAt w K g s B O) (hK : ∀ k, K' k → K k ∨ w.heap.size ≤ k) : EdAt w K' g s B O := by
  have hg := h.lt
  obtain ⟨⟨Ab, nb, cb, Ao, no, co, h1, h2, h3, h4⟩, h5⟩ := h
  refine ⟨⟨Ab, nb, cb, Ao, no, co, h1, h2.weak fun k hk hq => ?_, h3.weak fun k hk hq => ?_, h4⟩, fun hq => ?_⟩
  · have := h2.lt k hk
    rcases hK k hq with h | h
    · exact this.1 h
    · omega
  · have := h3.lt k hk
    rcases hK k hq with h | h
    · exact this.1 h
    · omega
  · rcases hK g hq with h | h
    · exact h5 h
    · omega

theorem EdAt.grown {w w' : World} {K : Nat → Prop} {g : Nat} {s : ByteArray} {B O : List ByteArray} {row : Option Nat} (h : EdAt w K g s B O) (hg : w.grownBy w' row) (hrow : ∀ k, row = some k → K k) : EdAt w' K g s B O := by
  obtain ⟨⟨Ab, nb, cb, Ao, no, co, h1, h2, h3, h4⟩, h5⟩ := h
  exact ⟨⟨Ab, nb, cb, Ao, no, co, h1.grown hg (fun hq => h5 (hrow g hq)), h2.grown hg (fun k hk hq => (h2.lt k hq).1 (hrow k hk)), h3.grown hg (fun k hk hq => (h3.lt k hq).1 (hrow k hk)), h4⟩, h5⟩

theorem text_any (g : Nat) (s : ByteArray) (B O : List ByteArray) (K : Nat → Prop) (w : World) (h : EdAt w K g s B O) :
    Calls Try.prog 41 #[.pointer (some ⟨g, 0, none⟩)] w fun e w' => e = .returned (.string s) ∧ w = w' := by
  obtain ⟨⟨Ab, nb, cb, Ao, no, co, h1, h2, h3, h4⟩, h5⟩ := h
  have c0 : w.cell? ⟨g, 0, none⟩ = some (.string s) := h1.cell 0
  go_enter Try.func41, Try.ntmps41
  go_wp2
  go_ret
  exact ⟨rfl, rfl⟩
theorem newE_ok (s : ByteArray) (hs : s.size ≤ 200) (K : Nat → Prop) (w : World) (hK : ∀ k, K k → k < w.heap.size) :
    Calls Try.prog 56 #[.string s] w fun e w' => e = .returned (.tuple #[.pointer (some ⟨w.heap.size, 0, none⟩), .int .i64 0]) ∧ EdAt w' K w.heap.size s [] [] ∧ Below w.heap.size w w' ∧ w'.heap.size = w.heap.size + 1 := by
  have q1 : decide (200 < (s.size : Int)) = false := decide_eq_false (by omega)
  have q1' : decide (200 < s.size) = false := decide_eq_false (by omega)
  go_enter Try.func56, Try.ntmps56
  go_wp2
  go_ret2
  exact ⟨rfl, ⟨⟨none, 0, 0, none, 0, 0, Blk.new w _ _, OwnS.nil _ _, OwnS.nil _ _, fun k hk => by cases hk⟩, fun hk => Nat.lt_irrefl _ (hK _ hk)⟩, (Below.refl w.heap.size w).alloc (Nat.le_refl _) _, by simp⟩
theorem newE_no (s : ByteArray) (hs : 200 < s.size) (w : World) :
    Calls Try.prog 56 #[.string s] w fun e w' => e = .returned (.tuple #[.pointer none, .int .i64 2]) ∧ w = w' := by
  have q1 : decide (200 < (s.size : Int)) = true := decide_eq_true (by omega)
  have q1' : decide (200 < s.size) = true := decide_eq_true (by omega)
  go_enter Try.func56, Try.ntmps56
  go_wp2
  go_ret2
  exact ⟨rfl, rfl⟩
theorem steps_any (g : Nat) (s : ByteArray) (B O : List ByteArray) (K : Nat → Prop) (w : World) (h : EdAt w K g s B O) :
    Calls Try.prog 39 #[.pointer (some ⟨g, 0, none⟩)] w fun e w' => e = .returned (.tuple #[.int .i64 (B.length : Int), .int .i64 (O.length : Int)]) ∧ Below w.heap.size w w' := by
  obtain ⟨⟨Ab, nb, cb, Ao, no, co, h1, h2, h3, h4⟩, h5⟩ := h
  have c1 : w.cell? ⟨g, 1, none⟩ = some (.slice Ab nb cb) := h1.cell 1
  have c2 : w.cell? ⟨g, 2, none⟩ = some (.slice Ao no co) := h1.cell 2
  rw [h2.1, h3.1]
  go_enter Try.func39, Try.ntmps39
  go_wp2
  go_quiet (fail)
  go_wp2
  go_ret2
  exact ⟨rfl, below_drewN (Below.refl _ _) _⟩

theorem undo_no (g : Nat) (s : ByteArray) (O : List ByteArray) (K : Nat → Prop) (w : World) (h : EdAt w K g s [] O) :
    Calls Try.prog 40 #[.pointer (some ⟨g, 0, none⟩)] w fun e w' => e = .returned (.int .i64 4) ∧ Below w.heap.size w w' := by
  obtain ⟨⟨Ab, nb, cb, Ao, no, co, h1, h2, h3, h4⟩, h5⟩ := h
  have c1 : w.cell? ⟨g, 1, none⟩ = some (.slice Ab nb cb) := h1.cell 1
  have hn0 : nb = 0 := h2.1.symm
  subst hn0
  go_enter Try.func40, Try.ntmps40
  go_wp2
  go_ret
  exact ⟨rfl, Below.refl _ _⟩
theorem redo_no (g : Nat) (s : ByteArray) (B : List ByteArray) (K : Nat → Prop) (w : World) (h : EdAt w K g s B []) :
    Calls Try.prog 42 #[.pointer (some ⟨g, 0, none⟩)] w fun e w' => e = .returned (.int .i64 4) ∧ Below w.heap.size w w' := by
  obtain ⟨⟨Ab, nb, cb, Ao, no, co, h1, h2, h3, h4⟩, h5⟩ := h
  have c1 : w.cell? ⟨g, 2, none⟩ = some (.slice Ao no co) := h1.cell 2
  have hn0 : no = 0 := h3.1.symm
  subst hn0
  go_enter Try.func42, Try.ntmps42
  go_wp2
  go_ret
  exact ⟨rfl, Below.refl _ _⟩
set_option maxHeartbeats 1000000 in
theorem do_no (g : Nat) (s : ByteArray) (hs : s.size ≤ 140737488355328) (B O : List ByteArray) (K : Nat → Prop) (w : World) (h : EdAt w K g s B O) (A : Option Addr) (len c B0 : Nat) (l : List Ed) (hlen : len ≤ 4398046511104) (hl : l.length = len) (ho : ∀ x ∈ l, (-9223372036854775808 ≤ x.1 ∧ x.1 ≤ 9223372036854775807) ∧ (-9223372036854775808 ≤ x.2.1 ∧ x.2.1 ≤ 9223372036854775807) ∧ (x.2.2).size ≤ 140737488351232)
    (E : Int) (hE : checkE s.size l = E) (hE0 : E ≠ 0) (hr : Reads w B0 A len 3 (l.flatMap cEdit)) (hB0 : B0 ≤ w.heap.size) :
    Calls Try.prog 43 #[.pointer (some ⟨g, 0, none⟩), .slice A len c] w fun e w' => e = .returned (.int .i64 E) ∧ Below w.heap.size w w' := by
  obtain ⟨⟨Ab, nb, cb, Ao, no, co, h1, h2, h3, h4⟩, h5⟩ := h
  have c0 : w.cell? ⟨g, 0, none⟩ = some (.string s) := h1.cell 0
  have Hap := Lib.hid (apply_no s hs A len c B0 l hlen hl ho E hE hE0 w hr hB0)
  have q0 : (E != 0) = true := by simpa using hE0
  clear ho hE hr hl
  go_enter Try.func43, Try.ntmps43
  go_wp2_with fail
  refine Hap.out.mono ?_
  rintro e w1 ⟨rfl, hb1⟩
  go_wp2
  go_ret
  exact ⟨rfl, hb1⟩
set_option maxHeartbeats 1000000 in
theorem do_nil (g : Nat) (s : ByteArray) (hs : s.size ≤ 200) (B O : List ByteArray) (K : Nat → Prop) (w : World) (h : EdAt w K g s B O) (A : Option Addr) (c : Nat) :
    Calls Try.prog 43 #[.pointer (some ⟨g, 0, none⟩), .slice A 0 c] w fun e w' => e = .returned (.int .i64 5) ∧ Below w.heap.size w w' := by
  obtain ⟨⟨Ab, nb, cb, Ao, no, co, h1, h2, h3, h4⟩, h5⟩ := h
  have c0 : w.cell? ⟨g, 0, none⟩ = some (.string s) := h1.cell 0
  have hE : checkE s.size [] = 0 := by unfold checkE; rw [if_neg (by omega), if_neg (by simp)]; unfold chk; rw [if_neg (by omega)]
  have Hap := Lib.hid (apply_ok s A 0 c w.heap.size [] rfl hE w ⟨rfl, fun h => absurd h (by omega)⟩ (Nat.le_refl _))
  clear hE
  go_enter Try.func43, Try.ntmps43
  go_wp2_with fail
  refine Hap.out.mono ?_
  rintro e w1 ⟨rfl, hb1⟩
  go_wp2
  go_ret
  exact ⟨rfl, hb1⟩

set_option maxHeartbeats 4000000 in
theorem undo_yes (g : Nat) (s : ByteArray) (B O : List ByteArray) (t : ByteArray) (K : Nat → Prop) (w : World) (hK : ∀ k, K k → k < w.heap.size) (hO : O.length ≤ 1000000) (hB : B.length ≤ 1000000) (h : EdAt w K g s (B ++ [t]) O) :
    Calls Try.prog 40 #[.pointer (some ⟨g, 0, none⟩)] w fun e w' => e = .returned (.int .i64 0) ∧ EdAt w' K g t B (O ++ [s]) ∧ Kept K w w' := by
  obtain ⟨⟨Ab, nb, cb, Ao, no, co, h1, h2, h3, h4a⟩, h5⟩ := h
  have h4 : ∀ k, (Value.slice Ab nb cb).ownBlock = some k → (Value.slice Ao no co).ownBlock ≠ some k := h4a
  clear h4a
  have c0 : w.cell? ⟨g, 0, none⟩ = some (.string s) := h1.cell 0
  have c1 : w.cell? ⟨g, 1, none⟩ = some (.slice Ab nb cb) := h1.cell 1
  have c2 : w.cell? ⟨g, 2, none⟩ = some (.slice Ao no co) := h1.cell 2
  have hnb : nb = B.length + 1 := by rw [← h2.1, List.length_append]; rfl
  have hno : O.length = no := h3.1
  obtain ⟨m, hm⟩ : ∃ m, m = B.length := ⟨_, rfl⟩
  rw [← hm] at hnb
  have Hm := Lib.hid hm
  have hno8 : no ≤ 8000000000000 := by omega
  have hmB : m ≤ 1000000 := by omega
  subst hnb
  clear hm hno
  have q0 : ((m : Int) + 1 == 0) = false := by rw [beq_eq_false_iff_ne]; omega
  go_enter Try.func40, Try.ntmps40
  go_wp2
  have hZ : Blk (w.alloc (Obj.cells #[.string s] 9)).drew g 86 #[.string s, .slice Ab (m + 1) cb, .slice Ao no co] := h1.alloc (Obj.cells #[.string s] 9)
  have hneO : (Value.slice Ao no co).ownBlock ≠ some g := h3.ne_blk h1 (by decide)
  have hnw : (w.alloc (Obj.cells #[.string s] 9)).drew.cell? ⟨w.heap.size, 0, none⟩ = some (.string s) := by
    show (w.alloc _).cell? _ = _
    rw [World.cell?_alloc_mark]; rfl
  have f2 : w.frozen? ⟨g, 2, none⟩ = false := h1.frozen 2
  have z2 := hZ.cell 2
  have hh4 : ∀ k, (Value.slice Ab (m + 1) cb).ownBlock = some k → (Value.slice Ao no co).ownBlock ≠ some k := h4
  have hbz : Below w.heap.size w (w.alloc (Obj.cells #[.string s] 9)).drew := ((Below.refl w.heap.size w).alloc (Nat.le_refl _) _).drew
  have hwz : (w.alloc (Obj.cells #[.string s] 9)).drew.heap.size = w.heap.size + 1 := by show (w.alloc _).heap.size = _; simp
  go_region_law ((refine step_append_S rfl (.tmp 15) (.tmp 20) 55 rfl K infoStrE Try.underlying55 Ao no co O (by simp [Act.eval]) (h3.alloc _) ⟨w.heap.size, 0, none⟩ 1 s (by simp [Act.eval]) hnw rfl (by omega) (fun k hk => by have := hK k hk; show k < (w.alloc _).heap.size; simp; omega) ?_; intro A3 c3 w4 hown4 hg4 hp4; have y2 := (Blk.grown hZ hg4 hneO).cell 2; have yf := (Blk.grown hZ hg4 hneO).frozen 2))
  all_goals
    have hX5 : Blk (w4.setCell ⟨g, 2, none⟩ (.slice A3 (no + 1) c3)) g 86 #[.string s, .slice Ab (m + 1) cb, .slice A3 (no + 1) c3] := (Blk.grown hZ hg4 hneO).set_ 2 _
    have hB5 : OwnS (w4.setCell ⟨g, 2, none⟩ (.slice A3 (no + 1) c3)) K Ab (m + 1) cb (B ++ [t]) := ((h2.after hbz).grown hg4 (fun k hk => by intro hq; exact h4 k hq hk)).far (h2.ne_blk h1 (by decide)) 2 _
    have hO5 : OwnS (w4.setCell ⟨g, 2, none⟩ (.slice A3 (no + 1) c3)) K A3 (no + 1) c3 (O ++ [s]) := hown4.far (hown4.ne_blk (Blk.grown hZ hg4 hneO) (by decide)) 2 _
    have hd5 : ∀ k, (Value.slice Ab (m + 1) cb).ownBlock = some k → (Value.slice A3 (no + 1) c3).ownBlock ≠ some k := fun k hk hq => by
      rcases hp4 k hq with h | h
      · exact h4 k hk h
      · have := (h2.lt k hk).2; omega
    have hk5 : Kept K w (w4.setCell ⟨g, 2, none⟩ (.slice A3 (no + 1) c3)) := ((Kept.of_below hbz hK).trans (Kept.of_grown hg4 (fun k hk => by have := hK k hk; omega) (fun k hk => (h3.lt k hk).1))).set h5 2 _
    generalize w4.setCell ⟨g, 2, none⟩ (.slice A3 (no + 1) c3) = w5 at *
    clear hZ hg4 hp4 hown4 y2 yf z2 hnw hneO c0 c1 c2 f2 h1 h2 h3 h4 hh4 hbz hwz
  all_goals
    obtain ⟨gb, ob, rfl, hgb⟩ := hB5.shape (by omega)
    have c0 : w5.cell? ⟨g, 0, none⟩ = some (.string s) := hX5.cell 0
    have c1 : w5.cell? ⟨g, 1, none⟩ = some (.slice (some ⟨gb, ob, none⟩) (m + 1) cb) := hX5.cell 1
    have f0 : w5.frozen? ⟨g, 0, none⟩ = false := hX5.frozen 0
    have f1 : w5.frozen? ⟨g, 1, none⟩ = false := hX5.frozen 1
    have ct := hB5.cell m (by omega)
    rw [getD_app_right _ _ _ _ (by have := Hm.out; omega), ← Hm.out, Nat.sub_self] at ct
    simp only [List.getD_cons_zero] at ct
    have hcap := hB5.cap
    have wm : IntKind.i64.wrap ((m : Int) + 1 - 1) = (m : Int) := by rw [IntKind.wrap_i64]; unfold maxLen at hcap; omega
    have hne : gb ≠ g := fun e => hB5.ne_blk hX5 (by decide) (by rw [e]; rfl)
    have hm1 : (m : Int) ≤ (cb : Int) := by omega
    have hm2 : (m : Int) < (m : Int) + 1 := by omega
    have hm0 : (0 : Int) ≤ (m : Int) := by omega
    have hc9 : cb ≤ 9223372036854775807 := by unfold maxLen at hcap; omega
    clear hcap
    go_wp2
  all_goals
    go_region
    go_wp2
    go_ret
    have hX6 : Blk ((w5.setCell ⟨g, 0, none⟩ (.string t)).setCell ⟨g, 1, none⟩ (.slice (some ⟨gb, ob, none⟩) m cb)) g 86 #[.string t, .slice (some ⟨gb, ob, none⟩) m cb, .slice A3 (no + 1) c3] := (hX5.set_ 0 _).set_ 1 _
    have hB6 := hB5.short m (by omega)
    rw [List.take_left' Hm.out.symm] at hB6
    refine ⟨rfl, ⟨⟨some ⟨gb, ob, none⟩, m, cb, A3, no + 1, c3, hX6, (hB6.far (fun e => hB5.ne_blk hX5 (by decide) e) 0 _).far (fun e => hB5.ne_blk hX5 (by decide) e) 1 _, (hO5.far (hO5.ne_blk hX5 (by decide)) 0 _).far (hO5.ne_blk hX5 (by decide)) 1 _, fun k hk => hd5 k hk⟩, h5⟩, ((hk5.set h5 0 _).set h5 1 _).drew⟩
set_option maxHeartbeats 4000000 in
theorem redo_yes (g : Nat) (s : ByteArray) (B O : List ByteArray) (t : ByteArray) (K : Nat → Prop) (w : World) (hK : ∀ k, K k → k < w.heap.size) (hO : O.length ≤ 1000000) (hB : B.length ≤ 1000000) (h : EdAt w K g s B (O ++ [t])) :
    Calls Try.prog 42 #[.pointer (some ⟨g, 0, none⟩)] w fun e w' => e = .returned (.int .i64 0) ∧ EdAt w' K g t (B ++ [s]) O ∧ Kept K w w' := by
  obtain ⟨⟨Ao, no, co, Ab, nb, cb, h1, h3, h2, h4a⟩, h5⟩ := h
  have h4 : ∀ k, (Value.slice Ab nb cb).ownBlock = some k → (Value.slice Ao no co).ownBlock ≠ some k := fun k hk hq => h4a k hq hk
  clear h4a
  have c0 : w.cell? ⟨g, 0, none⟩ = some (.string s) := h1.cell 0
  have c1 : w.cell? ⟨g, 2, none⟩ = some (.slice Ab nb cb) := h1.cell 2
  have c2 : w.cell? ⟨g, 1, none⟩ = some (.slice Ao no co) := h1.cell 1
  have hnb : nb = O.length + 1 := by rw [← h2.1, List.length_append]; rfl
  have hno : B.length = no := h3.1
  obtain ⟨m, hm⟩ : ∃ m, m = O.length := ⟨_, rfl⟩
  rw [← hm] at hnb
  have Hm := Lib.hid hm
  have hno8 : no ≤ 8000000000000 := by omega
  have hmB : m ≤ 1000000 := by omega
  subst hnb
  clear hm hno
  have q0 : ((m : Int) + 1 == 0) = false := by rw [beq_eq_false_iff_ne]; omega
  go_enter Try.func42, Try.ntmps42
  go_wp2
  have hZ : Blk (w.alloc (Obj.cells #[.string s] 9)).drew g 86 #[.string s, .slice Ao no co, .slice Ab (m + 1) cb] := h1.alloc (Obj.cells #[.string s] 9)
  have hneO : (Value.slice Ao no co).ownBlock ≠ some g := h3.ne_blk h1 (by decide)
  have hnw : (w.alloc (Obj.cells #[.string s] 9)).drew.cell? ⟨w.heap.size, 0, none⟩ = some (.string s) := by
    show (w.alloc _).cell? _ = _
    rw [World.cell?_alloc_mark]; rfl
  have f2 : w.frozen? ⟨g, 1, none⟩ = false := h1.frozen 1
  have z2 := hZ.cell 1
  have hh4 : ∀ k, (Value.slice Ab (m + 1) cb).ownBlock = some k → (Value.slice Ao no co).ownBlock ≠ some k := h4
  have hbz : Below w.heap.size w (w.alloc (Obj.cells #[.string s] 9)).drew := ((Below.refl w.heap.size w).alloc (Nat.le_refl _) _).drew
  have hwz : (w.alloc (Obj.cells #[.string s] 9)).drew.heap.size = w.heap.size + 1 := by show (w.alloc _).heap.size = _; simp
  go_region_law ((refine step_append_S rfl (.tmp 15) (.tmp 20) 55 rfl K infoStrE Try.underlying55 Ao no co B (by simp [Act.eval]) (h3.alloc _) ⟨w.heap.size, 0, none⟩ 1 s (by simp [Act.eval]) hnw rfl (by omega) (fun k hk => by have := hK k hk; show k < (w.alloc _).heap.size; simp; omega) ?_; intro A3 c3 w4 hown4 hg4 hp4; have y2 := (Blk.grown hZ hg4 hneO).cell 1; have yf := (Blk.grown hZ hg4 hneO).frozen 1))
  all_goals
    have hX5 : Blk (w4.setCell ⟨g, 1, none⟩ (.slice A3 (no + 1) c3)) g 86 #[.string s, .slice A3 (no + 1) c3, .slice Ab (m + 1) cb] := (Blk.grown hZ hg4 hneO).set_ 1 _
    have hB5 : OwnS (w4.setCell ⟨g, 1, none⟩ (.slice A3 (no + 1) c3)) K Ab (m + 1) cb (O ++ [t]) := ((h2.after hbz).grown hg4 (fun k hk => by intro hq; exact h4 k hq hk)).far (h2.ne_blk h1 (by decide)) 1 _
    have hO5 : OwnS (w4.setCell ⟨g, 1, none⟩ (.slice A3 (no + 1) c3)) K A3 (no + 1) c3 (B ++ [s]) := hown4.far (hown4.ne_blk (Blk.grown hZ hg4 hneO) (by decide)) 1 _
    have hd5 : ∀ k, (Value.slice Ab (m + 1) cb).ownBlock = some k → (Value.slice A3 (no + 1) c3).ownBlock ≠ some k := fun k hk hq => by
      rcases hp4 k hq with h | h
      · exact h4 k hk h
      · have := (h2.lt k hk).2; omega
    have hk5 : Kept K w (w4.setCell ⟨g, 1, none⟩ (.slice A3 (no + 1) c3)) := ((Kept.of_below hbz hK).trans (Kept.of_grown hg4 (fun k hk => by have := hK k hk; omega) (fun k hk => (h3.lt k hk).1))).set h5 1 _
    generalize w4.setCell ⟨g, 1, none⟩ (.slice A3 (no + 1) c3) = w5 at *
    clear hZ hg4 hp4 hown4 y2 yf z2 hnw hneO c0 c1 c2 f2 h1 h2 h3 h4 hh4 hbz hwz
  all_goals
    obtain ⟨gb, ob, rfl, hgb⟩ := hB5.shape (by omega)
    have c0 : w5.cell? ⟨g, 0, none⟩ = some (.string s) := hX5.cell 0
    have c1 : w5.cell? ⟨g, 2, none⟩ = some (.slice (some ⟨gb, ob, none⟩) (m + 1) cb) := hX5.cell 2
    have f0 : w5.frozen? ⟨g, 0, none⟩ = false := hX5.frozen 0
    have f1 : w5.frozen? ⟨g, 2, none⟩ = false := hX5.frozen 2
    have ct := hB5.cell m (by omega)
    rw [getD_app_right _ _ _ _ (by have := Hm.out; omega), ← Hm.out, Nat.sub_self] at ct
    simp only [List.getD_cons_zero] at ct
    have hcap := hB5.cap
    have wm : IntKind.i64.wrap ((m : Int) + 1 - 1) = (m : Int) := by rw [IntKind.wrap_i64]; unfold maxLen at hcap; omega
    have hne : gb ≠ g := fun e => hB5.ne_blk hX5 (by decide) (by rw [e]; rfl)
    have hm1 : (m : Int) ≤ (cb : Int) := by omega
    have hm2 : (m : Int) < (m : Int) + 1 := by omega
    have hm0 : (0 : Int) ≤ (m : Int) := by omega
    have hc9 : cb ≤ 9223372036854775807 := by unfold maxLen at hcap; omega
    clear hcap
    go_wp2
  all_goals
    go_region
    go_wp2
    go_ret
    have hX6 : Blk ((w5.setCell ⟨g, 0, none⟩ (.string t)).setCell ⟨g, 2, none⟩ (.slice (some ⟨gb, ob, none⟩) m cb)) g 86 #[.string t, .slice A3 (no + 1) c3, .slice (some ⟨gb, ob, none⟩) m cb] := (hX5.set_ 0 _).set_ 2 _
    have hB6 := hB5.short m (by omega)
    rw [List.take_left' Hm.out.symm] at hB6
    refine ⟨rfl, ⟨⟨A3, no + 1, c3, some ⟨gb, ob, none⟩, m, cb, hX6, (hO5.far (hO5.ne_blk hX5 (by decide)) 0 _).far (hO5.ne_blk hX5 (by decide)) 2 _, (hB6.far (fun e => hB5.ne_blk hX5 (by decide) e) 0 _).far (fun e => hB5.ne_blk hX5 (by decide) e) 2 _, fun k hk hq => hd5 k hq hk⟩, h5⟩, ((hk5.set h5 0 _).set h5 2 _).drew⟩
set_option maxHeartbeats 4000000 in
theorem do_yes (g : Nat) (s : ByteArray) (B O : List ByteArray) (K : Nat → Prop) (w : World) (hK : ∀ k, K k → k < w.heap.size) (hB : B.length ≤ 30) (h : EdAt w K g s B O) (A : Option Addr) (len c B0 : Nat) (l : List Ed) (hl : l.length = len) (hE : checkE s.size l = 0) (hn : 0 < len) (hr : Reads w B0 A len 3 (l.flatMap cEdit)) (hB0 : B0 ≤ w.heap.size) :
    Calls Try.prog 43 #[.pointer (some ⟨g, 0, none⟩), .slice A len c] w fun e w' => e = .returned (.int .i64 0) ∧ EdAt w' K g ⟨(app s.data.toList 0 l).toArray⟩ ((B ++ [s]).drop (B.length + 1 - 30)) [] ∧ Kept K w w' := by
  have Hap := Lib.hid (apply_ok s A len c B0 l hl hE w hr hB0)
  generalize (⟨(app s.data.toList 0 l).toArray⟩ : ByteArray) = R at *
  have c0 : w.cell? ⟨g, 0, none⟩ = some (.string s) := by
    obtain ⟨⟨Ab, nb, cb, Ao, no, co, h1, h2, h3, h4⟩, h5⟩ := h
    exact h1.cell 0
  have q0 : ((len : Int) == 0) = false := by rw [beq_eq_false_iff_ne]; omega
  clear hl hE hr hB0
  go_enter Try.func43, Try.ntmps43
  go_wp2_with fail
  refine Hap.out.mono ?_
  rintro e w1 ⟨rfl, hb1⟩
  have hk1 : Kept K w w1 := Kept.of_below hb1 hK
  have h := h.after hb1
  have hK1 : ∀ k, K k → k < w1.heap.size := hk1.lt hK
  have Hk1 := Lib.hid hk1
  clear c0 hb1 hK hk1 Hap
  obtain ⟨⟨Ab, nb, cb, Ao, no, co, h1, h2, h3, h4⟩, h5⟩ := h
  have c0 : w1.cell? ⟨g, 0, none⟩ = some (.string s) := h1.cell 0
  have c1 : w1.cell? ⟨g, 1, none⟩ = some (.slice Ab nb cb) := h1.cell 1
  have hnb : B.length = nb := h2.1
  have Hnb := Lib.hid hnb
  have hnb30 : nb ≤ 30 := by omega
  clear hnb hB
  go_wp2
  have hZ : Blk (w1.alloc (Obj.cells #[.string s] 9)).drew g 86 #[.string s, .slice Ab nb cb, .slice Ao no co] := h1.alloc (Obj.cells #[.string s] 9)
  have hneB : (Value.slice Ab nb cb).ownBlock ≠ some g := h2.ne_blk h1 (by decide)
  have hnw : (w1.alloc (Obj.cells #[.string s] 9)).drew.cell? ⟨w1.heap.size, 0, none⟩ = some (.string s) := by
    show (w1.alloc _).cell? _ = _
    rw [World.cell?_alloc_mark]; rfl
  have f1 : w1.frozen? ⟨g, 1, none⟩ = false := h1.frozen 1
  have z1 := hZ.cell 1
  have hbz : Below w1.heap.size w1 (w1.alloc (Obj.cells #[.string s] 9)).drew := ((Below.refl w1.heap.size w1).alloc (Nat.le_refl _) _).drew
  have hwz : (w1.alloc (Obj.cells #[.string s] 9)).drew.heap.size = w1.heap.size + 1 := by show (w1.alloc _).heap.size = _; simp
  go_region_law ((refine step_append_S rfl (.tmp 26) (.tmp 31) 55 rfl K infoStrE Try.underlying55 Ab nb cb B (by simp [Act.eval]) (h2.alloc _) ⟨w1.heap.size, 0, none⟩ 1 s (by simp [Act.eval]) hnw rfl (by omega) (fun k hk => by have := hK1 k hk; show k < (w1.alloc _).heap.size; simp; omega) ?_; intro A3 c3 w4 hown4 hg4 hp4; have y2 := (Blk.grown hZ hg4 hneB).cell 1; have yf := (Blk.grown hZ hg4 hneB).frozen 1))
  all_goals
    have hX5 : Blk (w4.setCell ⟨g, 1, none⟩ (.slice A3 (nb + 1) c3)) g 86 #[.string s, .slice A3 (nb + 1) c3, .slice Ao no co] := (Blk.grown hZ hg4 hneB).set_ 1 _
    have hB5 : OwnS (w4.setCell ⟨g, 1, none⟩ (.slice A3 (nb + 1) c3)) K A3 (nb + 1) c3 (B ++ [s]) := hown4.far (hown4.ne_blk (Blk.grown hZ hg4 hneB) (by decide)) 1 _
    have hk5 : Kept K w1 (w4.setCell ⟨g, 1, none⟩ (.slice A3 (nb + 1) c3)) := ((Kept.of_below hbz hK1).trans (Kept.of_grown hg4 (fun k hk => by have := hK1 k hk; omega) (fun k hk => (h2.lt k hk).1))).set h5 1 _
    generalize w4.setCell ⟨g, 1, none⟩ (.slice A3 (nb + 1) c3) = w5 at *
    clear hZ hg4 hp4 hown4 y2 yf z1 hnw hneB c0 c1 f1 h1 h2 h3 h4 hbz hwz
    obtain ⟨gb, ob, rfl, hgb⟩ := hB5.shape (by omega)
    have c0 : w5.cell? ⟨g, 0, none⟩ = some (.string s) := hX5.cell 0
    have c1 : w5.cell? ⟨g, 1, none⟩ = some (.slice (some ⟨gb, ob, none⟩) (nb + 1) c3) := hX5.cell 1
    have c2 : w5.cell? ⟨g, 2, none⟩ = some (.slice Ao no co) := hX5.cell 2
    have f0 : w5.frozen? ⟨g, 0, none⟩ = false := hX5.frozen 0
    have f1 : w5.frozen? ⟨g, 1, none⟩ = false := hX5.frozen 1
    have f2 : w5.frozen? ⟨g, 2, none⟩ = false := hX5.frozen 2
    have hcap := hB5.cap
    have hca1 : nb + 1 ≤ c3 := hcap.1
    have hc9 : c3 ≤ 9223372036854775807 := by unfold maxLen at hcap; omega
    clear hcap
  all_goals
    by_cases h30 : nb = 30
    · have q1 : decide (30 < nb + 1) = true := decide_eq_true (by omega)
      have q1' : decide ((30 : Int) < (nb : Int) + 1) = true := decide_eq_true (by omega)
      have q2 : (1 : Int) ≤ (nb : Int) + 1 := by omega
      have hd : (B ++ [s]).drop (B.length + 1 - 30) = (B ++ [s]).drop 1 := by rw [Hnb.out, h30]
      have Hd := Lib.hid hd
      clear hd
      go_wp2
      go_ret
      subst h30
      have hne : (Value.slice (some ⟨gb, ob, none⟩) (30 + 1) c3).ownBlock ≠ some g := hB5.ne_blk hX5 (by decide)
      have hX6 : Blk (((w5.setCell ⟨g, 1, none⟩ (.slice (some ⟨gb, ob + 1, none⟩) 30 (c3 - 1))).setCell ⟨g, 0, none⟩ (.string R)).setCell ⟨g, 2, none⟩ (.slice none 0 0)) g 86 #[.string R, .slice (some ⟨gb, ob + 1, none⟩) 30 (c3 - 1), .slice none 0 0] := ((hX5.set_ 1 _).set_ 0 _).set_ 2 _
      have hB6 := (((OwnS.tail hB5).far (fun e => hne e) 1 (.slice (some ⟨gb, ob + 1, none⟩) 30 (c3 - 1))).far (fun e => hne e) 0 (.string R)).far (fun e => hne e) 2 (.slice none 0 0)
      rw [← Hd.out] at hB6
      exact ⟨rfl, ⟨⟨some ⟨gb, ob + 1, none⟩, 30, c3 - 1, none, 0, 0, hX6, hB6, OwnS.nil _ _, fun k hk hq => by cases hq⟩, h5⟩, ((((Hk1.out.trans hk5).set h5 1 _).set h5 0 _).set h5 2 _)⟩
    · have q1 : decide (30 < nb + 1) = false := decide_eq_false (by omega)
      have q1' : decide ((30 : Int) < (nb : Int) + 1) = false := decide_eq_false (by omega)
      have hd : (B ++ [s]).drop (B.length + 1 - 30) = B ++ [s] := by rw [Hnb.out, show nb + 1 - 30 = 0 from by omega]; rfl
      have Hd := Lib.hid hd
      clear hd
      go_wp2
      go_ret
      have hne : (Value.slice (some ⟨gb, ob, none⟩) (nb + 1) c3).ownBlock ≠ some g := hB5.ne_blk hX5 (by decide)
      have hX6 : Blk ((w5.setCell ⟨g, 0, none⟩ (.string R)).setCell ⟨g, 2, none⟩ (.slice none 0 0)) g 86 #[.string R, .slice (some ⟨gb, ob, none⟩) (nb + 1) c3, .slice none 0 0] := (hX5.set_ 0 _).set_ 2 _
      have hB6 := (hB5.far (fun e => hne e) 0 (.string R)).far (fun e => hne e) 2 (.slice none 0 0)
      rw [← Hd.out] at hB6
      exact ⟨rfl, ⟨⟨some ⟨gb, ob, none⟩, nb + 1, c3, none, 0, 0, hX6, hB6, OwnS.nil _ _, fun k hk hq => by cases hq⟩, h5⟩, (((Hk1.out.trans hk5).set h5 0 _).set h5 2 _)⟩
end Go.Proofs.Ytookbaaicpapnaa
