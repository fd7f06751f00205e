/- A row of ints of one's own, with room behind it, that the library sorts. -/
import Derived.Test.YtpaodbkdmiedfaaIntSort
import Derived.Test.YtpaodbkdmiedfaaIntSort0
namespace Go.Proofs.Ytpaodbkdmiedfaa
open Go.RowKit Go.Sort Go.Shelf Go.Lib
set_option linter.unusedVariables false

theorem putCells_map {α : Type} [Inhabited α] (enc : α → Value) (o : Nat) (d : Array α) (cs : Array Value) : putCells enc o d cs = putCells id o (d.map enc) cs := by
  refine Array.ext (by simp [putCells]) fun j h1 h2 => ?_
  simp only [putCells, Array.getElem_mapIdx, id, Array.size_map]
  by_cases h : o ≤ j ∧ j < o + d.size
  · rw [if_pos h, if_pos h, getElem!_pos d _ (by omega), getElem!_pos (d.map enc) _ (by simp; omega), Array.getElem_map]
  · rw [if_neg h, if_neg h]
theorem sortWorld_map {α : Type} [Inhabited α] (enc : α → Value) (w : World) (g o m : Nat) (d : Array α) (os : Array Obj) : sortWorld enc w g o m d os = grow (putRow id (Sort.ahead w m) g o (d.map enc)) os := by
  have e : putCells enc o d = putCells id o (d.map enc) := funext (putCells_map enc o d)
  unfold sortWorld putRow
  rw [e]
/-- slices.SortFunc of ints that lie in a row of one's own. -/
theorem intSortK_any {α : Type} [Inhabited α] (enc : α → Int) (cf : α → α → Int) (hO : SWO (ltOf cf)) (f : Nat) (cb : Array Value) (K : Nat → Prop) (A : Option Addr) (n c : Nat) (d : Array α) (w : World) (hn : d.size = n) (hB : OwnK 3 1 w K A n c (d.toList.map fun x => Value.int .i64 (enc x)))
    (eg : ∀ args w, (callFunc f args).run Try.prog w = .ok (.enter f args) w)
    (hcmp : ∀ W, w.grownBy W (Value.slice A n c).ownBlock → ∀ x y : α, Calls Try.prog f (#[.int .i64 (enc x), .int .i64 (enc y)] ++ cb) W fun e w' => e = .returned (.int .i64 (cf x y)) ∧ ∃ q os', w' = grow (W.drewN q) os') (hsz : d.size < 4611686018427387904) :
    Calls Try.prog 64 #[.slice A n c, .func (.func f) #[] cb] w fun e w' => e = .returned (.tuple #[]) ∧
      ∃ d' : Array α, d'.toList.Perm d.toList ∧ d'.toList.Pairwise (fun x y => ltOf cf y x = false) ∧ OwnK 3 1 w' K A n c (d'.toList.map fun x => Value.int .i64 (enc x)) ∧ w.grownBy w' (Value.slice A n c).ownBlock := by
  subst hn
  rcases Nat.eq_zero_or_pos d.size with h0 | h0
  · rw [h0] at hB ⊢
    refine (intSort_none A c _ w).mono fun e w' ⟨he, hw⟩ => ?_
    subst hw
    refine ⟨he, d, List.Perm.refl _, ?_, hB, ⟨rfl, rfl, rfl, Nat.le_refl _, fun k hk _ => rfl⟩⟩
    have : d.toList = [] := List.eq_nil_of_length_eq_zero (by simpa using h0)
    rw [this]; exact List.Pairwise.nil
  obtain ⟨blk, o, rfl, hlt, _⟩ := hB.shape h0
  have hob : (Value.slice (some ⟨blk, o, none⟩) d.size c).ownBlock = some blk := rfl
  rw [hob] at hcmp ⊢
  have hL : CmpLays1 Try.prog f cb (fun x => Value.int .i64 (enc x)) cf blk o d.size w := fun m os dk hdk x y => by
    refine hcmp _ ?_ x y
    rw [sortWorld_map]
    exact grownBy_put _
  have hH : Holds (fun x => Value.int .i64 (enc x)) w blk o d := fun j hj => by
    have := hB.cell j (by omega)
    refine ⟨?_, this.2⟩
    rw [this.1, List.getElem?_map, getElem!_pos d j hj, Array.getElem?_toList, Array.getElem?_eq_getElem hj]; rfl
  have h := Any.slices_SortFunc layIntSort (fun x => Value.int .i64 (enc x)) (fun _ => rfl) cf hO f cb blk o c d w eg hL hH hlt hsz
  change Calls Try.prog 64 _ _ _ at h
  refine h.mono fun e w' ⟨he, d', n, os, ⟨hs, _, hp⟩, hsort, hw⟩ => ⟨he, d', ?_, ?_, ?_⟩
  · have e1 : ∀ x : Array α, x.size = d.size → (x.extract 0 d.size).toList = x.toList := fun x hx => by rw [← hx, Array.extract_size]
    rwa [e1 _ hs, e1 _ rfl] at hp
  · refine List.pairwise_iff_getElem.2 fun i j hi hj hij => ?_
    have := hsort i j (Nat.zero_le _) hij (by rw [← hs]; simpa using hj)
    rwa [getElem!_pos d' j (by simpa using hj), getElem!_pos d' i (by simpa using hi)] at this
  · rw [hw, sortWorld_map]
    refine ⟨?_, grownBy_put _⟩
    have := hB.sorted (F := d'.map fun x => Value.int .i64 (enc x)) (by simp [hs]) n os
    rwa [Array.toList_map] at this
end Go.Proofs.Ytpaodbkdmiedfaa
