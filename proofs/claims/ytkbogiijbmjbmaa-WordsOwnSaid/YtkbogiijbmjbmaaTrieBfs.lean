/- What build's second stage needs: memory facts beside the queue, and the longest end as one number. -/
import Derived.Test.YtkbogiijbmjbmaaTrieStep
namespace Go.Proofs.Ytkbogiijbmjbmaa
open Go.RowKit Go.Sort
set_option linter.unusedVariables false

theorem longIn_ex {T : List Nd} {W : List (List UInt8)} (h : Tree T W) (x : List UInt8) : ∃ r, LongIn W x r := by
  have key : ∀ n, ∃ r, r < W.length ∧ W.getD r [] <:+ x ∧ ∀ u, u < n → u < W.length → W.getD u [] <:+ x → (W.getD u []).length ≤ (W.getD r []).length := fun n => by
    induction n with
    | zero => exact ⟨0, h.pos, by rw [h.root]; exact List.nil_suffix, fun u hu => absurd hu (Nat.not_lt_zero _)⟩
    | succ n ih =>
      obtain ⟨r, h1, h2, h3⟩ := ih
      by_cases hn : n < W.length ∧ W.getD n [] <:+ x ∧ (W.getD r []).length < (W.getD n []).length
      · refine ⟨n, hn.1, hn.2.1, fun u hu hl hs => ?_⟩
        rcases Nat.lt_or_ge u n with h4 | h4
        · exact Nat.le_trans (h3 u h4 hl hs) (Nat.le_of_lt hn.2.2)
        · obtain rfl : u = n := by omega
          exact Nat.le_refl _
      · refine ⟨r, h1, h2, fun u hu hl hs => ?_⟩
        rcases Nat.lt_or_ge u n with h4 | h4
        · exact h3 u h4 hl hs
        · obtain rfl : u = n := by omega
          rcases Nat.lt_or_ge (W.getD r []).length (W.getD u []).length with h5 | h5
          · exact absurd ⟨hl, hs, h5⟩ hn
          · exact h5
  obtain ⟨r, h1, h2, h3⟩ := key W.length
  exact ⟨r, h1, h2, fun u hu hs => h3 u hu hu hs⟩
theorem longIn_unique {T : List Nd} {W : List (List UInt8)} (h : Tree T W) {x : List UInt8} {r q : Nat} (hr : LongIn W x r) (hq : LongIn W x q) : r = q := by
  have h1 := hr.most q hq.lt hq.suf
  have h2 := hq.most r hr.lt hr.suf
  have h3 := List.suffix_of_suffix_length_le hr.suf hq.suf h2
  exact h.inj _ _ hr.lt hq.lt (h3.eq_of_length (Nat.le_antisymm h2 h1))
section
variable {w w' : World} {B c : Nat} {A : Option Addr} {L : List NV}
theorem OwnK.blkT {T : TypeId} {s n c : Nat} {w : World} {K : Nat → Prop} {A : Option Addr} {xs : List Value} (h : OwnK T s w K A n c xs) (g : Nat) (hg : (Value.slice A n c).ownBlock = some g) : ∃ cs, Blk w g T cs := by
  rcases h.2 with ⟨rfl, _⟩ | ⟨g', o, cur, rfl, hb, hg', _⟩
  · cases hg
  · injection hg with hg
    subst hg
    exact ⟨cur, hg'⟩
theorem TrieAt.grown_int (h : TrieAt w B A c L) {K : Nat → Prop} {A2 : Option Addr} {n c2 : Nat} {xs : List Value} (h2 : OwnK 3 1 w K A2 n c2 xs) (hg : w.grownBy w' (Value.slice A2 n c2).ownBlock) : TrieAt w' B A c L :=
  ⟨h.row.grown hg fun k hk hq => by
      obtain ⟨cs, hb⟩ := h2.blkT k hk
      exact h.row.ne_blk hb (by decide) hq,
    fun v hv => (h.kid v hv).grown hg fun k hk hq => by
      obtain ⟨cs, hb⟩ := h2.blkT k hk
      exact (h.kid v hv).ne_blk hb (by decide) hq, h.apart⟩
theorem TrieAt.int_far {g o : Nat} (h : TrieAt w B (some ⟨g, o, none⟩) c L) {K : Nat → Prop} {A2 : Option Addr} {n c2 : Nat} {xs : List Value} (h2 : OwnK 3 1 w K A2 n c2 xs) (i : Nat) (u : Value) : OwnK 3 1 (w.setCell ⟨g, i, none⟩ u) K A2 n c2 xs := by
  obtain ⟨cs, hb⟩ := h.row.blkT g rfl
  exact h2.far (fun hq => h2.ne_blk hb (by decide) hq) _ _
/-- The link of a node is set. -/
theorem TrieAt.link {g o : Nat} (h : TrieAt w B (some ⟨g, o, none⟩) c L) {t : Nat} (ht : t < L.length) (r : Nat) : TrieAt (w.setCell ⟨g, o + t * 3 + 1, none⟩ (.int .i64 (r : Int))) B (some ⟨g, o, none⟩) c (L.set t { L.getD t nv0 with x := { (L.getD t nv0).x with fail := r } }) := by
  have := h.num ht (j := 1) (.inl rfl) (x := { (L.getD t nv0).x with fail := r }) (u := .int .i64 (r : Int)) rfl rfl (fun x hx h2 => by
    match x, hx, h2 with
    | 0, _, _ => rfl
    | 1, _, h2 => exact absurd rfl h2
    | 2, _, _ => rfl)
  rwa [← Nat.add_assoc] at this
theorem nds_link (L : List NV) (t r : Nat) : nds (L.set t { L.getD t nv0 with x := { (L.getD t nv0).x with fail := r } }) = (nds L).set t { (nds L).getD t nd0 with fail := r } := by rw [nds_set, nds_getD]
theorem link_getD (L : List NV) {t : Nat} (ht : t < L.length) (r a : Nat) : ((L.set t { L.getD t nv0 with x := { (L.getD t nv0).x with fail := r } }).getD a nv0).A = (L.getD a nv0).A ∧ ((L.set t { L.getD t nv0 with x := { (L.getD t nv0).x with fail := r } }).getD a nv0).m = (L.getD a nv0).m ∧ ((L.set t { L.getD t nv0 with x := { (L.getD t nv0).x with fail := r } }).getD a nv0).c = (L.getD a nv0).c ∧ ((L.set t { L.getD t nv0 with x := { (L.getD t nv0).x with fail := r } }).getD a nv0).x.next = (L.getD a nv0).x.next := by
  rw [getD_set _ _ _ _ ht]
  split
  · rename_i e; subst e; exact ⟨rfl, rfl, rfl, rfl⟩
  · exact ⟨rfl, rfl, rfl, rfl⟩
theorem link_ends (T : List Nd) {t : Nat} (ht : t < T.length) (r : Nat) : ∀ i, ((T.set t { T.getD t nd0 with fail := r }).getD i nd0).ends = (T.getD i nd0).ends := fun i => by
  rw [setNd ht]
  split
  · rename_i e; subst e; rfl
  · rfl
/-- The cells that the step from a link reads. -/
abbrev StAt (eb g oa : Nat) (b : UInt8) (t f : Nat) (w' : World) : Prop := w'.cell? ⟨eb, 0, none⟩ = some (.int .u8 (b.toNat : Int)) ∧ w'.cell? ⟨eb, 1, none⟩ = some (.int .i64 (t : Int)) ∧ w'.cell? ⟨g, oa, none⟩ = some (.int .i64 (f : Int)) ∧ eb < w'.heap.size ∧ g < w'.heap.size
theorem StAt.on {eb g oa : Nat} {b : UInt8} {t f : Nat} {w1 w2 : World} (h : StAt eb g oa b t f w1) (hb : Below w1.heap.size w1 w2) : StAt eb g oa b t f w2 := by
  obtain ⟨h1, h2, h3, h4, h5⟩ := h
  exact ⟨(hb.cell h4).trans h1, (hb.cell h4).trans h2, (hb.cell h5).trans h3, Nat.lt_of_lt_of_le h4 hb.size, Nat.lt_of_lt_of_le h5 hb.size⟩
theorem StAt.store {eb g oa ot : Nat} {b : UInt8} {t f : Nat} {w1 : World} (h : StAt eb g oa b t f w1) (h1 : eb ≠ g) (h2 : ot ≠ oa) (u : Value) : StAt eb g oa b t f (w1.setCell ⟨g, ot, none⟩ u) := by
  obtain ⟨k1, k2, k3, k4, k5⟩ := h
  refine ⟨?_, ?_, ?_, by rw [size_setCell]; exact k4, by rw [size_setCell]; exact k5⟩
  · rw [World.cell?_setCell_other _ _ _ _ (fun e => h1 (by injection e with e1; exact e1.symm))]; exact k1
  · rw [World.cell?_setCell_other _ _ _ _ (fun e => h1 (by injection e with e1; exact e1.symm))]; exact k2
  · rw [World.cell?_setCell_other _ _ _ _ (fun e => h2 (by injection e))]; exact k3
end
def natV (q : Nat) : List Value := [.int .i64 (q : Int)]
theorem natV_len (q : Nat) : (natV q).length = 1 := rfl
theorem que_one (w : World) (B : Nat) (hB : B ≤ w.heap.size) : OwnK 3 1 (w.alloc (Obj.cells #[.int .i64 0] 3)) (· < B) (some ⟨w.heap.size, 0, none⟩) 1 1 ([0].flatMap natV) :=
  ⟨rfl, .inr ⟨w.heap.size, 0, _, rfl, by show ¬ w.heap.size < B; omega, Blk.new w _ _, Nat.le_refl _, by unfold maxLen; decide, by decide, rfl⟩⟩
theorem int_cell (w : World) (t : Nat) : ∀ x, x < 1 → (w.alloc (Obj.cells #[.int .i64 (t : Int)] 3)).cell? ((⟨w.heap.size, 0, none⟩ : Addr).add x) = ([.int .i64 (t : Int)] : List Value)[x]? := fun x hx => by
  have hB := Blk.new w 3 #[.int .i64 (t : Int)]
  rw [add_at, Nat.zero_add, hB.cell, ← Array.getElem?_toList]
end Go.Proofs.Ytkbogiijbmjbmaa
