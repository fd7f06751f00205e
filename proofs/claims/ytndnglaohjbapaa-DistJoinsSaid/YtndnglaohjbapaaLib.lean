/- Small laws and tactics' facts that every walk of this seat uses. -/
import Derived.WalkKit
import Derived.WalkSpells
import Derived.WalkLawsBesides
import Derived.Lib.Hide
namespace Go.Proofs.Ytndnglaohjbapaa
open Go.RowKit
set_option linter.unusedVariables false

/-- Two calls in a row. -/
theorem chain {W w1 w2 : World} (h2 : Below w1.heap.size w1 w2) (h1 : Below W.heap.size W w1) : Below W.heap.size W w2 := h1.trans (h2.mono h1.size)
theorem chain_to {B : Nat} {W w1 w2 : World} (h2 : Below w1.heap.size w1 w2) (h1 : Below B W w1) (hB : B ≤ W.heap.size) : Below B W w2 := h1.trans (h2.mono (Nat.le_trans hB h1.size))
theorem chain_and {A : Prop} {W w1 w2 : World} (h2 : Below w1.heap.size w1 w2) (h1 : A ∧ Below W.heap.size W w1) : Below W.heap.size W w2 := chain h2 h1.2

/-- 'string(b)' where b's cells are the bytes l. -/
theorem run_string_of {P : Program} (w : World) (src dst e : TypeId) (a : Addr) (n cap : Nat) (l : List UInt8) (hn : l.length = n) (hs : P.underlying src = some (.slice e)) (he : P.underlying e = some (.int .u8)) (hd : P.underlying dst = some .string)
    (hc : ∀ j (hj : j < l.length), w.cell? (a.add j) = some (.int .u8 (l[j].toNat : Int))) :
    (convert src dst (.slice (some a) n cap)).run P w = .ok (.string ⟨l.toArray⟩) w := by
  subst hn
  exact run_convert_bytes_back w src dst e a cap l hs he hd hc

theorem add_zero (b j : Nat) : (Addr.add ⟨b, 0, none⟩ j) = ⟨b, j, none⟩ := by unfold Addr.add; split <;> simp_all

/-- The world behind '[]byte(s)'. -/
theorem bytes_world (s : ByteArray) (c : Nat) (m : Nat × Nat) (e : TypeId) (w W : World) (hW : (w.alloc (.cells (bytesRow s c) e m)).drew = W) :
   Below w.heap.size w W ∧ W.heap.size = w.heap.size + 1 ∧ ∀ k (h : k < s.size), W.cell? ⟨w.heap.size, k, none⟩ = some (.int .u8 (s[k].toNat : Int)) := by
  subst hW
  refine ⟨((Below.refl _ _).alloc (Nat.le_refl _) _).drew, by simp, fun k h => ?_⟩
  have h1 : (w.alloc (.cells (bytesRow s c) e m)).heap[w.heap.size]? = some (.cells (bytesRow s c) e m) := by
    show (w.heap.push _)[_]? = _
    simp
  have h2 := cell_of_row (w.alloc (.cells (bytesRow s c) e m)) w.heap.size k _ _ _ h1
  exact h2.trans (bytesRow_at s c k h)

theorem getD_bytes (s : ByteArray) (j : Nat) (h : j < s.size) : s.data.toList.getD j 0 = s[j] := by
  rw [List.getD_eq_getElem?_getD, List.getElem?_eq_getElem h]; rfl
theorem xor3_step (l : List UInt8) (k : Nat) (c : UInt8) (hk : k < l.length) (j : Nat) : (l.set k c).getD j 0 = if j = k then c else l.getD j 0 := by
  rw [List.getD_eq_getElem?_getD, List.getElem?_set]
  by_cases e : k = j
  · subst e; simp [hk]
  · rw [if_neg e, if_neg (Ne.symm e), List.getD_eq_getElem?_getD]
theorem take_succ_bytes (s : ByteArray) (k : Nat) (h : k < s.size) : s.data.toList.take (k + 1) = s.data.toList.take k ++ [s[k]] := by
  rw [List.take_succ_eq_append_getElem (by simpa using h)]; rfl

/-- Block g's first cells are the bytes l, none frozen. -/
def BytesAt (w : World) (g : Nat) (l : List UInt8) : Prop :=
  g < w.heap.size ∧ ∀ j, j < l.length → w.cell? ⟨g, j, none⟩ = some (.int .u8 ((l.getD j 0).toNat : Int)) ∧ w.frozen? ⟨g, j, none⟩ = false

section
variable {w w' : World} {g : Nat} {l : List UInt8}
theorem BytesAt.drew (h : BytesAt w g l) : BytesAt w.drew g l := h
theorem BytesAt.below {B : Nat} (h : BytesAt w g l) (hb : Below B w w') (hg : g < B) : BytesAt w' g l :=
  ⟨Nat.lt_of_lt_of_le h.1 hb.size, fun j hj => ⟨(hb.cell (p := ⟨g, j, none⟩) hg).trans (h.2 j hj).1, (hb.frozen (p := ⟨g, j, none⟩) hg).trans (h.2 j hj).2⟩⟩
theorem size_setCell (w : World) (p : Addr) (v : Value) : (w.setCell p v).heap.size = w.heap.size := by simp [World.setCell]
theorem BytesAt.set (h : BytesAt w g l) (k : Nat) (hk : k < l.length) (c : UInt8) : BytesAt (w.setCell ⟨g, k, none⟩ (.int .u8 (c.toNat : Int))) g (l.set k c) := by
  refine ⟨by rw [size_setCell]; exact h.1, fun j hj => ?_⟩
  rw [List.length_set] at hj
  refine ⟨?_, (World.frozen?_setCell _ _ _ _).trans (h.2 j hj).2⟩
  by_cases e : j = k
  · subst e
    rw [World.cell?_setCell_same _ _ _ (h.2 j hj).1]
    simp [List.getD, hk]
  · rw [World.cell?_setCell_other _ _ _ _ (by intro e'; injection e' with _ e'; exact e e'.symm)]
    rw [(h.2 j hj).1]
    simp [List.getD, Ne.symm e]
end

/-- make([]T, n, c). -/
theorem run_make_rowN {P : Program} (t e : TypeId) (i : TypeInfo) (z : Value) (ht : P.underlying t = some (.slice e)) (hi : P.info? e = some i) (hz : i.zero = some z)
    (kl kc : IntKind) (n c : Nat) (hnc : n ≤ c) (hbytes : i.bytes * c ≤ 281474976710656) (h63 : c ≤ 9223372036854775807) (w : World) :
    (Instr.makeSlice t (.int kl (n : Int)) (.int kc (c : Int))).run P w = .ok (.slice (some ⟨w.heap.size, 0, none⟩) n c) (w.alloc (.cells (madeCells z.cells (c * i.size)) e)) := by
  have hb : (i.bytes : Int) * (c : Int) ≤ 281474976710656 := by
    have h : ((i.bytes * c : Nat) : Int) ≤ 281474976710656 := by omega
    rwa [Int.natCast_mul] at h
  have hr := run_make (P := P) w t e i z ht hi hz kl kc n c (by omega) (by omega) hb (by omega)
  simp only [Int.toNat_natCast] at hr
  exact hr

/-- Block g's first cells are the ints l, none frozen. -/
def IntsAt (w : World) (g : Nat) (l : List Int) : Prop :=
  g < w.heap.size ∧ ∀ j, j < l.length → w.cell? ⟨g, j, none⟩ = some (.int .i64 (l.getD j 0)) ∧ w.frozen? ⟨g, j, none⟩ = false

section
variable {w w' : World} {g : Nat} {l : List Int}
theorem IntsAt.drew (h : IntsAt w g l) : IntsAt w.drew g l := h
theorem IntsAt.below {B : Nat} (h : IntsAt w g l) (hb : Below B w w') (hg : g < B) : IntsAt w' g l :=
  ⟨Nat.lt_of_lt_of_le h.1 hb.size, fun j hj => ⟨(hb.cell (p := ⟨g, j, none⟩) hg).trans (h.2 j hj).1, (hb.frozen (p := ⟨g, j, none⟩) hg).trans (h.2 j hj).2⟩⟩
theorem IntsAt.set (h : IntsAt w g l) (k : Nat) (hk : k < l.length) (c : Int) : IntsAt (w.setCell ⟨g, k, none⟩ (.int .i64 c)) g (l.set k c) := by
  refine ⟨by rw [size_setCell]; exact h.1, fun j hj => ?_⟩
  rw [List.length_set] at hj
  refine ⟨?_, (World.frozen?_setCell _ _ _ _).trans (h.2 j hj).2⟩
  by_cases e : j = k
  · subst e
    rw [World.cell?_setCell_same _ _ _ (h.2 j hj).1]
    simp [List.getD, hk]
  · rw [World.cell?_setCell_other _ _ _ _ (by intro e'; injection e' with _ e'; exact e e'.symm)]
    rw [(h.2 j hj).1]
    simp [List.getD, Ne.symm e]
theorem IntsAt.far (h : IntsAt w g l) {p : Addr} (hp : p.block ≠ g) (v : Value) : IntsAt (w.setCell p v) g l :=
  ⟨by rw [size_setCell]; exact h.1, fun j hj => ⟨by rw [World.cell?_setCell_other _ _ _ _ (by intro e; subst e; exact hp rfl)]; exact (h.2 j hj).1, (World.frozen?_setCell _ _ _ _).trans (h.2 j hj).2⟩⟩
end

theorem make_ints {P : Program} (t e : TypeId) (ht : P.underlying t = some (.slice e)) (hi : (P.info? e).map (fun i => (i.zero, i.size, i.bytes)) = some (some (.int .i64 0), 1, 8))
    (n : Nat) (x : Int) (hx : x = n) (h : n ≤ 35184372088832) (w : World) :
    (Instr.makeSlice t (.int .i64 x) (.int .i64 x)).run P w = .ok (.slice (some ⟨w.heap.size, 0, none⟩) n n) (w.alloc (.cells (madeCells #[.int .i64 0] n) e)) := by
  obtain ⟨i0, hi, hz0, hz1, hz2⟩ := info_parts hi
  have := run_make_rowN t e i0 (.int .i64 0) ht hi hz0 .i64 .i64 n n (Nat.le_refl _) (by rw [hz2]; omega) (by omega) w
  rw [hz1, Nat.mul_one] at this
  subst hx
  exact this

/-- The world behind 'make([]int, n)'. -/
theorem ints_made (w : World) (n : Nat) (e : TypeId) : Below w.heap.size w (w.alloc (.cells (madeCells #[.int .i64 0] n) e)) ∧ (w.alloc (.cells (madeCells #[.int .i64 0] n) e)).heap.size = w.heap.size + 1 ∧
    IntsAt (w.alloc (.cells (madeCells #[.int .i64 0] n) e)) w.heap.size (List.replicate n 0) := by
  refine ⟨(Below.refl _ _).alloc (Nat.le_refl _) _, by simp, by simp, fun j hj => ?_⟩
  rw [List.length_replicate] at hj
  refine ⟨?_, ?_⟩
  · rw [World.cell?_alloc_mark]
    have h1 := toList_madeCells_one (.int .i64 0) n
    have h2 : (madeCells #[.int .i64 0] n)[j]? = (madeCells #[.int .i64 0] n).toList[j]? := by simp
    rw [h2, h1]
    simp [hj, List.getD]
  · rw [World.frozen?_alloc_mark]; simp

/-- The world behind '[]byte(s)': its bytes lie in the new block. -/
theorem bytes_at (s : ByteArray) (c : Nat) (hc : s.size ≤ c) (e : TypeId) (w W : World)
    (hW : (w.alloc (.cells (bytesRow s c) e ((bytesRow s c).size, (bytesRow s c).size + 1))).drew = W) :
   Below w.heap.size w W ∧ W.heap.size = w.heap.size + 1 ∧ BytesAt W w.heap.size s.data.toList := by
  obtain ⟨h1, h2, h3⟩ := bytes_world _ _ _ _ _ _ hW
  refine ⟨h1, h2, by omega, fun j hj => ?_⟩
  have hj' : j < s.size := by simpa using hj
  refine ⟨?_, ?_⟩
  · rw [h3 j hj']
    have e1 : s.data.toList.getD j 0 = s[j] := by
      rw [List.getD_eq_getElem?_getD, List.getElem?_eq_getElem hj]; rfl
    rw [e1]
  · rw [← hW]
    have := World.frozen?_alloc_mark w (bytesRow s c) e (bytesRow s c).size ((bytesRow s c).size + 1) j
    refine this.trans ?_
    have hs : (bytesRow s c).size = c := by unfold bytesRow; simp; omega
    have : ¬ (bytesRow s c).size ≤ j := by omega
    simp [this]

end Go.Proofs.Ytndnglaohjbapaa
