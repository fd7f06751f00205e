/- A block of cells that the library sorts whole; strings.Compare. -/
import Derived.Test.YtpnpalbdlhlnkaaSortK
import Derived.Test.YtpnpalbdlhlnkaaLaidIntSort
import Derived.Test.YtpnpalbdlhlnkaaLaidCompare
import Derived.Test.YtpnpalbdlhlnkaaTurnP
namespace Go.Proofs.Ytpnpalbdlhlnkaa
open Go.RowKit Go.Sort Go.Shelf Go.Lib
set_option linter.unusedVariables false

theorem Blk.sortedW {α : Type} [Inhabited α] (enc : α → Value) {w : World} {g : Nat} {T : TypeId} {cs : Array Value} (d : Array α) (h : Blk w g T cs) (hs : cs.size = d.size) (m : Nat) (os : Array Obj) :
    Blk (sortWorld enc w g 0 m d os) g T (d.map enc) ∧ w.grownBy (sortWorld enc w g 0 m d os) (some g) := by
  refine ⟨?_, ⟨rfl, rfl, rfl, by simp [sortWorld], fun k hk hne => ?_⟩⟩
  · unfold Blk at h ⊢
    have hg' : g < w.heap.size := (Array.getElem?_eq_some_iff.1 h).1
    unfold sortWorld
    rw [heap_grow_old _ _ (by simpa using hg')]
    have e : putCells enc 0 d cs = d.map enc := by
      refine Array.ext (by simp [putCells, hs]) fun j h1 h2 => ?_
      have hj : j < d.size := by simpa using h2
      simp only [putCells, Array.getElem_mapIdx, Array.getElem_map]
      rw [if_pos (by omega), Nat.sub_zero, getElem!_pos d j hj]
    simp [putRow, mapBlock, Sort.ahead, Array.getElem?_modify, h, onCells, e]
  · unfold sortWorld
    rw [heap_grow_old _ _ (by simpa using hk)]
    have : g ≠ k := fun e => hne (by rw [e])
    simp [putRow, mapBlock, Sort.ahead, Array.getElem?_modify, this]
theorem Blk.holds1 {α : Type} [Inhabited α] (enc : α → Value) {w : World} {g : Nat} {T : TypeId} (d : Array α) (h : Blk w g T (d.map enc)) : Holds enc w g 0 d := fun j hj => by
  refine ⟨?_, h.frozen _⟩
  rw [h.cell, Nat.zero_add, Array.getElem?_eq_getElem (by simpa using hj), Array.getElem_map, getElem!_pos d j hj]

theorem compare_any (a b : ByteArray) (w : World) : Calls Try.prog 12 #[.string a, .string b] w fun e w' => e = .returned (.int .i64 (Lib.compareBytes a.data.toList b.data.toList)) ∧ w = w' := by
  have h := Any.strings_Compare layCompare a b w
  change Calls Try.prog 12 _ _ _ at h
  exact h.mono fun _ _ ⟨h1, h2⟩ => ⟨h1, h2.symm⟩
/-- slices.SortFunc of ints: what comes out of it. -/
theorem intSort_any {α : Type} [Inhabited α] (enc : α → Int) (cf : α → α → Int) (hO : SWO (ltOf cf)) (g : Nat) (cb : Array Value) (blk : Nat) (d : Array α) (w : World) (hB : Blk w blk 3 (d.map fun x => Value.int .i64 (enc x)))
    (eg : ∀ args w, (callFunc g args).run Try.prog w = .ok (.enter g args) w)
    (hcmp : ∀ W, (∀ b t cs, b ≠ blk → Blk w b t cs → Blk W b t cs) → ∀ x y : α, Calls Try.prog g (#[.int .i64 (enc x), .int .i64 (enc y)] ++ cb) W fun e w' => e = .returned (.int .i64 (cf x y)) ∧ ∃ q os', w' = grow (W.drewN q) os') (hsz : d.size < 4611686018427387904) :
    Calls Try.prog 10 #[.slice (some ⟨blk, 0, none⟩) d.size d.size, .func (.func g) #[] cb] w fun e w' => e = .returned (.tuple #[]) ∧
      ∃ d' : Array α, d'.toList.Perm d.toList ∧ d'.toList.Pairwise (fun x y => ltOf cf y x = false) ∧ Blk w' blk 3 (d'.map fun x => Value.int .i64 (enc x)) ∧ w.grownBy w' (some blk) := by
  have hL : CmpLays1 Try.prog g cb (fun x => Value.int .i64 (enc x)) cf blk 0 d.size w := fun m os dk hdk x y => by
    refine hcmp _ (fun b t cs hb hblk => ?_) x y
    have hgr := (Blk.sortedW (fun x => Value.int .i64 (enc x)) dk hB (by simp [hdk]) m os).2
    exact hblk.grown hgr (fun e => hb (by injection e with e; exact e.symm))
  have h := Any.slices_SortFunc layIntSort (fun x => Value.int .i64 (enc x)) (fun _ => rfl) cf hO g cb blk 0 d.size d w eg hL (Blk.holds1 _ d hB) hB.lt hsz
  change Calls Try.prog 10 _ _ _ at h
  refine h.mono fun e w' ⟨he, d', n, os, ⟨hs, _, hp⟩, hsort, hw⟩ => ⟨he, d', ?_, ?_, ?_⟩
  · have e1 : ∀ x : Array α, x.size = d.size → (x.extract 0 d.size).toList = x.toList := fun x hx => by rw [← hx, Array.extract_size]
    rwa [e1 _ hs, e1 _ rfl] at hp
  · refine List.pairwise_iff_getElem.2 fun i j hi hj hij => ?_
    have := hsort i j (Nat.zero_le _) hij (by rw [← hs]; simpa using hj)
    rwa [getElem!_pos d' j (by simpa using hj), getElem!_pos d' i (by simpa using hi)] at this
  · rw [hw]
    exact Blk.sortedW _ d' hB (by simp [hs]) n os
end Go.Proofs.Ytpnpalbdlhlnkaa
