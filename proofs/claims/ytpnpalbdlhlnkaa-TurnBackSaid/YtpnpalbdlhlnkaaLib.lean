/- Small laws and tactics' facts that every walk of this seat uses. -/
import Derived.WalkKit
import Derived.WalkSpells
import Derived.WalkLawsBesides
import Derived.Lib.Hide
namespace Go.Proofs.Ytpnpalbdlhlnkaa
open Go.RowKit
set_option linter.unusedVariables false

theorem str_ext {a b : ByteArray} (h : a.data.toList = b.data.toList) : a = b := by
  obtain ⟨⟨a⟩⟩ := a
  obtain ⟨⟨b⟩⟩ := b
  simp at h
  rw [h]

/-- Two calls in a row. -/
theorem chain {W w1 w2 : World} (h2 : Below w1.heap.size w1 w2) (h1 : Below W.heap.size W w1) : Below W.heap.size W w2 := h1.trans (h2.mono h1.size)
theorem chain_to {B : Nat} {W w1 w2 : World} (h2 : Below w1.heap.size w1 w2) (h1 : Below B W w1) (hB : B ≤ W.heap.size) : Below B W w2 := h1.trans (h2.mono (Nat.le_trans hB h1.size))
theorem chain_and {A : Prop} {W w1 w2 : World} (h2 : Below w1.heap.size w1 w2) (h1 : A ∧ Below W.heap.size W w1) : Below W.heap.size W w2 := chain h2 h1.2

/-- 'string(b)' where b's cells are the bytes l. -/
theorem run_string_of {P : Program} (w : World) (src dst e : TypeId) (a : Addr) (n cap : Nat) (l : List UInt8) (hn : l.length = n) (hs : P.underlying src = some (.slice e)) (he : P.underlying e = some (.int .u8)) (hd : P.underlying dst = some .string)
    (hc : ∀ j (hj : j < l.length), w.cell? (a.add j) = some (.int .u8 (l[j].toNat : Int))) :
    (convert src dst (.slice (some a) n cap)).run P w = .ok (.string ⟨l.toArray⟩) w := by
  subst hn
  exact run_convert_bytes_back w src dst e a cap l hs he hd hc

theorem add_zero (b j : Nat) : (Addr.add ⟨b, 0, none⟩ j) = ⟨b, j, none⟩ := by unfold Addr.add; split <;> simp_all

theorem add_at (b o j : Nat) : (Addr.add ⟨b, o, none⟩ j) = ⟨b, o + j, none⟩ := by
  unfold Addr.add
  by_cases h : j = 0
  · rw [if_pos h, h]; rfl
  · rw [if_neg h]

/-- The world behind '[]byte(s)'. -/
theorem bytes_world (s : ByteArray) (c : Nat) (m : Nat × Nat) (e : TypeId) (w W : World) (hW : (w.alloc (.cells (bytesRow s c) e m)).drew = W) :
   Below w.heap.size w W ∧ W.heap.size = w.heap.size + 1 ∧ ∀ k (h : k < s.size), W.cell? ⟨w.heap.size, k, none⟩ = some (.int .u8 (s[k].toNat : Int)) := by
  subst hW
  refine ⟨((Below.refl _ _).alloc (Nat.le_refl _) _).drew, by simp, fun k h => ?_⟩
  have h1 : (w.alloc (.cells (bytesRow s c) e m)).heap[w.heap.size]? = some (.cells (bytesRow s c) e m) := by
    show (w.heap.push _)[_]? = _
    simp
  have h2 := cell_of_row (w.alloc (.cells (bytesRow s c) e m)) w.heap.size k _ _ _ h1
  exact h2.trans (bytesRow_at s c k h)

theorem getD_bytes (s : ByteArray) (j : Nat) (h : j < s.size) : s.data.toList.getD j 0 = s[j] := by
  rw [List.getD_eq_getElem?_getD, List.getElem?_eq_getElem h]; rfl
theorem xor3_step (l : List UInt8) (k : Nat) (c : UInt8) (hk : k < l.length) (j : Nat) : (l.set k c).getD j 0 = if j = k then c else l.getD j 0 := by
  rw [List.getD_eq_getElem?_getD, List.getElem?_set]
  by_cases e : k = j
  · subst e; simp [hk]
  · rw [if_neg e, if_neg (Ne.symm e), List.getD_eq_getElem?_getD]
theorem take_succ_bytes (s : ByteArray) (k : Nat) (h : k < s.size) : s.data.toList.take (k + 1) = s.data.toList.take k ++ [s[k]] := by
  rw [List.take_succ_eq_append_getElem (by simpa using h)]; rfl

/-- Block g's first cells are the bytes l, none frozen. -/
def BytesAt (w : World) (g : Nat) (l : List UInt8) : Prop :=
  g < w.heap.size ∧ ∀ j, j < l.length → w.cell? ⟨g, j, none⟩ = some (.int .u8 ((l.getD j 0).toNat : Int)) ∧ w.frozen? ⟨g, j, none⟩ = false

section
variable {w w' : World} {g : Nat} {l : List UInt8}
theorem BytesAt.drew (h : BytesAt w g l) : BytesAt w.drew g l := h
theorem BytesAt.below {B : Nat} (h : BytesAt w g l) (hb : Below B w w') (hg : g < B) : BytesAt w' g l :=
  ⟨Nat.lt_of_lt_of_le h.1 hb.size, fun j hj => ⟨(hb.cell (p := ⟨g, j, none⟩) hg).trans (h.2 j hj).1, (hb.frozen (p := ⟨g, j, none⟩) hg).trans (h.2 j hj).2⟩⟩
theorem size_setCell (w : World) (p : Addr) (v : Value) : (w.setCell p v).heap.size = w.heap.size := by simp [World.setCell]
theorem BytesAt.set (h : BytesAt w g l) (k : Nat) (hk : k < l.length) (c : UInt8) : BytesAt (w.setCell ⟨g, k, none⟩ (.int .u8 (c.toNat : Int))) g (l.set k c) := by
  refine ⟨by rw [size_setCell]; exact h.1, fun j hj => ?_⟩
  rw [List.length_set] at hj
  refine ⟨?_, (World.frozen?_setCell _ _ _ _).trans (h.2 j hj).2⟩
  by_cases e : j = k
  · subst e
    rw [World.cell?_setCell_same _ _ _ (h.2 j hj).1]
    simp [List.getD, hk]
  · rw [World.cell?_setCell_other _ _ _ _ (by intro e'; injection e' with _ e'; exact e e'.symm)]
    rw [(h.2 j hj).1]
    simp [List.getD, Ne.symm e]
end

/-- make([]T, n, c). -/
theorem run_make_rowN {P : Program} (t e : TypeId) (i : TypeInfo) (z : Value) (ht : P.underlying t = some (.slice e)) (hi : P.info? e = some i) (hz : i.zero = some z)
    (kl kc : IntKind) (n c : Nat) (hnc : n ≤ c) (hbytes : i.bytes * c ≤ 281474976710656) (h63 : c ≤ 9223372036854775807) (w : World) :
    (Instr.makeSlice t (.int kl (n : Int)) (.int kc (c : Int))).run P w = .ok (.slice (some ⟨w.heap.size, 0, none⟩) n c) (w.alloc (.cells (madeCells z.cells (c * i.size)) e)) := by
  have hb : (i.bytes : Int) * (c : Int) ≤ 281474976710656 := by
    have h : ((i.bytes * c : Nat) : Int) ≤ 281474976710656 := by omega
    rwa [Int.natCast_mul] at h
  have hr := run_make (P := P) w t e i z ht hi hz kl kc n c (by omega) (by omega) hb (by omega)
  simp only [Int.toNat_natCast] at hr
  exact hr

/-- Block g's first cells are the ints l, none frozen. -/
def IntsAt (w : World) (g : Nat) (l : List Int) : Prop :=
  g < w.heap.size ∧ ∀ j, j < l.length → w.cell? ⟨g, j, none⟩ = some (.int .i64 (l.getD j 0)) ∧ w.frozen? ⟨g, j, none⟩ = false

section
variable {w w' : World} {g : Nat} {l : List Int}
theorem IntsAt.drew (h : IntsAt w g l) : IntsAt w.drew g l := h
theorem IntsAt.below {B : Nat} (h : IntsAt w g l) (hb : Below B w w') (hg : g < B) : IntsAt w' g l :=
  ⟨Nat.lt_of_lt_of_le h.1 hb.size, fun j hj => ⟨(hb.cell (p := ⟨g, j, none⟩) hg).trans (h.2 j hj).1, (hb.frozen (p := ⟨g, j, none⟩) hg).trans (h.2 j hj).2⟩⟩
theorem IntsAt.set (h : IntsAt w g l) (k : Nat) (hk : k < l.length) (c : Int) : IntsAt (w.setCell ⟨g, k, none⟩ (.int .i64 c)) g (l.set k c) := by
  refine ⟨by rw [size_setCell]; exact h.1, fun j hj => ?_⟩
  rw [List.length_set] at hj
  refine ⟨?_, (World.frozen?_setCell _ _ _ _).trans (h.2 j hj).2⟩
  by_cases e : j = k
  · subst e
    rw [World.cell?_setCell_same _ _ _ (h.2 j hj).1]
    simp [List.getD, hk]
  · rw [World.cell?_setCell_other _ _ _ _ (by intro e'; injection e' with _ e'; exact e e'.symm)]
    rw [(h.2 j hj).1]
    simp [List.getD, Ne.symm e]
theorem IntsAt.far (h : IntsAt w g l) {p : Addr} (hp : p.block ≠ g) (v : Value) : IntsAt (w.setCell p v) g l :=
  ⟨by rw [size_setCell]; exact h.1, fun j hj => ⟨by rw [World.cell?_setCell_other _ _ _ _ (by intro e; subst e; exact hp rfl)]; exact (h.2 j hj).1, (World.frozen?_setCell _ _ _ _).trans (h.2 j hj).2⟩⟩
end

theorem make_ints {P : Program} (t e : TypeId) (ht : P.underlying t = some (.slice e)) (hi : (P.info? e).map (fun i => (i.zero, i.size, i.bytes)) = some (some (.int .i64 0), 1, 8))
    (n : Nat) (x : Int) (hx : x = n) (h : n ≤ 35184372088832) (w : World) :
    (Instr.makeSlice t (.int .i64 x) (.int .i64 x)).run P w = .ok (.slice (some ⟨w.heap.size, 0, none⟩) n n) (w.alloc (.cells (madeCells #[.int .i64 0] n) e)) := by
  obtain ⟨i0, hi, hz0, hz1, hz2⟩ := info_parts hi
  have := run_make_rowN t e i0 (.int .i64 0) ht hi hz0 .i64 .i64 n n (Nat.le_refl _) (by rw [hz2]; omega) (by omega) w
  rw [hz1, Nat.mul_one] at this
  subst hx
  exact this

/-- The world behind 'make([]int, n)'. -/
theorem ints_made (w : World) (n : Nat) (e : TypeId) : Below w.heap.size w (w.alloc (.cells (madeCells #[.int .i64 0] n) e)) ∧ (w.alloc (.cells (madeCells #[.int .i64 0] n) e)).heap.size = w.heap.size + 1 ∧
    IntsAt (w.alloc (.cells (madeCells #[.int .i64 0] n) e)) w.heap.size (List.replicate n 0) := by
  refine ⟨(Below.refl _ _).alloc (Nat.le_refl _) _, by simp, by simp, fun j hj => ?_⟩
  rw [List.length_replicate] at hj
  refine ⟨?_, ?_⟩
  · rw [World.cell?_alloc_mark]
    have h1 := toList_madeCells_one (.int .i64 0) n
    have h2 : (madeCells #[.int .i64 0] n)[j]? = (madeCells #[.int .i64 0] n).toList[j]? := by simp
    rw [h2, h1]
    simp [hj, List.getD]
  · rw [World.frozen?_alloc_mark]; simp

/-- The world behind '[]byte(s)': its bytes lie in the new block. -/
theorem bytes_at (s : ByteArray) (c : Nat) (hc : s.size ≤ c) (e : TypeId) (w W : World)
    (hW : (w.alloc (.cells (bytesRow s c) e ((bytesRow s c).size, (bytesRow s c).size + 1))).drew = W) :
   Below w.heap.size w W ∧ W.heap.size = w.heap.size + 1 ∧ BytesAt W w.heap.size s.data.toList := by
  obtain ⟨h1, h2, h3⟩ := bytes_world _ _ _ _ _ _ hW
  refine ⟨h1, h2, by omega, fun j hj => ?_⟩
  have hj' : j < s.size := by simpa using hj
  refine ⟨?_, ?_⟩
  · rw [h3 j hj']
    have e1 : s.data.toList.getD j 0 = s[j] := by
      rw [List.getD_eq_getElem?_getD, List.getElem?_eq_getElem hj]; rfl
    rw [e1]
  · rw [← hW]
    have := World.frozen?_alloc_mark w (bytesRow s c) e (bytesRow s c).size ((bytesRow s c).size + 1) j
    refine this.trans ?_
    have hs : (bytesRow s c).size = c := by unfold bytesRow; simp; omega
    have : ¬ (bytesRow s c).size ≤ j := by omega
    simp [this]

/-- A slice value of n elements (size cells each) reads as the cells xs; its block lies below B. Nil and empty slices are let in. -/
def Reads (w : World) (B : Nat) (A : Option Addr) (n size : Nat) (xs : List Value) : Prop :=
  xs.length = n * size ∧ (0 < n → ∃ b o, A = some ⟨b, o, none⟩ ∧ b < B ∧ ∀ j, j < xs.length → w.cell? ⟨b, o + j, none⟩ = some (xs.getD j undef))

section
variable {w w' : World} {B B' n size : Nat} {A : Option Addr} {xs : List Value}
theorem Reads.nil : Reads w B none 0 size [] := ⟨by simp, fun h => absurd h (by omega)⟩
theorem Reads.empty : Reads w B A 0 size [] := ⟨by simp, fun h => absurd h (by omega)⟩
theorem Reads.keep (h : Reads w B A n size xs) (hk : ∀ p : Addr, p.block < B → w'.cell? p = w.cell? p) : Reads w' B A n size xs :=
  ⟨h.1, fun hn => by
    obtain ⟨b, o, e, hb, hc⟩ := h.2 hn
    exact ⟨b, o, e, hb, fun j hj => (hk ⟨b, o + j, none⟩ hb).trans (hc j hj)⟩⟩
theorem Reads.more (h : Reads w B A n size xs) (hB : B ≤ B') : Reads w B' A n size xs :=
  ⟨h.1, fun hn => by
    obtain ⟨b, o, e, hb, hc⟩ := h.2 hn
    exact ⟨b, o, e, by omega, hc⟩⟩
theorem Reads.below (h : Reads w B A n size xs) (hb : Below B w w') : Reads w' B A n size xs := h.keep fun _ hp => hb.cell hp
theorem Reads.below' (h : Reads w B A n size xs) (hb : Below w.heap.size w w') (hB : B ≤ w.heap.size) : Reads w' B A n size xs := h.below (hb.mono hB)
theorem Reads.after (h : Reads w w.heap.size A n size xs) (hb : Below w.heap.size w w') : Reads w' w'.heap.size A n size xs := (h.below hb).more hb.size
theorem Reads.drew (h : Reads w B A n size xs) : Reads w.drew B A n size xs := h
theorem Reads.drewN (h : Reads w B A n size xs) (k : Nat) : Reads (w.drewN k) B A n size xs := h
theorem Reads.alloc (h : Reads w B A n size xs) (hB : B ≤ w.heap.size) (o : Obj) : Reads (w.alloc o) B A n size xs := h.keep fun p hp => World.cell?_alloc_lt w o p (by omega)
theorem Reads.of_fresh (w : World) (cs : Array Value) (T : TypeId) (n size : Nat) (h : cs.size = n * size) : Reads (w.alloc (.cells cs T)) (w.heap.size + 1) (some ⟨w.heap.size, 0, none⟩) n size cs.toList :=
  ⟨by simpa using h, fun _ => ⟨w.heap.size, 0, rfl, by omega, fun j hj => by
    have hj' : j < cs.size := by simpa using hj
    rw [Nat.zero_add, World.cell?_alloc_mark, List.getD_eq_getElem?_getD]
    simp [hj']⟩⟩
theorem Reads.of_own {base : Nat} {e : TypeId} {c : Nat} (h : w.ownsRow base e size (.slice A n c) n xs) : Reads w w.heap.size A n size xs := by
  refine ⟨h.1, fun hn => ?_⟩
  rcases h.2 with ⟨_, h0⟩ | ⟨g, cap, cur, hv, _, hh, _⟩
  · omega
  · have hA : A = some ⟨g, 0, none⟩ := by injection hv
    subst hA
    have hlt : g < w.heap.size := by
      rcases Nat.lt_or_ge g w.heap.size with hlt | hge
      · exact hlt
      · rw [Array.getElem?_eq_none hge] at hh; cases hh
    refine ⟨g, 0, rfl, hlt, fun j hj => ?_⟩
    have := h.cells (g := g) rfl j (xs.getD j undef) (by rw [List.getD_eq_getElem?_getD, List.getElem?_eq_getElem hj]; rfl)
    rw [add_zero] at this
    rw [Nat.zero_add]
    exact this
theorem Reads.tail (h : Reads w B A n size xs) : xs.length = n * size := h.1
end

/-- The cells of a list of elements of a fixed number of cells. -/
theorem flat_length {α : Type} (f : α → List Value) (size : Nat) (hf : ∀ x, (f x).length = size) : ∀ l : List α, (l.flatMap f).length = l.length * size
  | [] => by simp
  | x :: l => by rw [List.flatMap_cons, List.length_append, hf, flat_length f size hf l, List.length_cons, Nat.succ_mul, Nat.add_comm]
theorem flat_getD {α : Type} (f : α → List Value) (size : Nat) (hf : ∀ x, (f x).length = size) (d : α) : ∀ (l : List α) (k j : Nat), k < l.length → j < size → (l.flatMap f).getD (k * size + j) undef = (f (l.getD k d)).getD j undef
  | [], k, j, h, _ => by simp at h
  | x :: l, 0, j, _, hj => by
    rw [List.flatMap_cons, Nat.zero_mul, Nat.zero_add, List.getD_eq_getElem?_getD, List.getElem?_append_left (by rw [hf]; exact hj)]
    rfl
  | x :: l, k + 1, j, h, hj => by
    rw [List.flatMap_cons, List.getD_eq_getElem?_getD, List.getElem?_append_right (by rw [hf, Nat.succ_mul]; omega), hf, ← List.getD_eq_getElem?_getD,
      show (k + 1) * size + j - size = k * size + j from by rw [Nat.succ_mul]; omega, flat_getD f size hf d l k j (by simpa using h) hj]
    simp
theorem flat_inj {α : Type} (f : α → List Value) (size : Nat) (hf : ∀ x, (f x).length = size) (hi : ∀ x y, f x = f y → x = y) : ∀ (l m : List α), l.flatMap f = m.flatMap f → l.length = m.length → l = m
  | [], [], _, _ => rfl
  | [], _ :: _, _, h => by simp at h
  | _ :: _, [], _, h => by simp at h
  | x :: l, y :: m, h, hl => by
    rw [List.flatMap_cons, List.flatMap_cons] at h
    obtain ⟨h1, h2⟩ := List.append_inj h (by rw [hf, hf])
    rw [hi _ _ h1, flat_inj f size hf hi l m h2 (by simpa using hl)]

theorem flat_set {α : Type} (f : α → List Value) (size : Nat) (hf : ∀ x, (f x).length = size) : ∀ (l : List α) (k j : Nat) (x y : α) (u : Value), l[k]? = some x → j < size → f y = (f x).set j u → (l.set k y).flatMap f = (l.flatMap f).set (k * size + j) u
  | [], k, j, x, y, u, h, _, _ => by simp at h
  | z :: l, 0, j, x, y, u, h, hj, hy => by
    obtain rfl : z = x := by simpa using h
    rw [List.set_cons_zero, List.flatMap_cons, List.flatMap_cons, hy, Nat.zero_mul, Nat.zero_add, List.set_append_left _ _ (by rw [hf]; exact hj)]
  | z :: l, k + 1, j, x, y, u, h, hj, hy => by
    rw [List.set_cons_succ, List.flatMap_cons, List.flatMap_cons, flat_set f size hf l k j x y u (by simpa using h) hj hy, List.set_append_right _ _ (by rw [hf, Nat.succ_mul]; omega), hf]
    congr 2
    rw [Nat.succ_mul]; omega
theorem flat_snoc {α : Type} (f : α → List Value) (l : List α) (x : α) : (l ++ [x]).flatMap f = l.flatMap f ++ f x := by simp

/-- The shape of an owned slice. -/
theorem own_shape {w : World} {base size n : Nat} {e : TypeId} {v : Value} {xs : List Value} (h : w.ownsRow base e size v n xs) : ∃ A c, v = .slice A n c ∧ (0 < n → ∃ g, A = some ⟨g, 0, none⟩ ∧ base ≤ g) := by
  rcases h.2 with ⟨rfl, h0⟩ | ⟨g, cap, cur, rfl, hg, _⟩
  · exact ⟨none, 0, by rw [h0], fun hn => by omega⟩
  · exact ⟨_, _, rfl, fun _ => ⟨g, rfl, hg⟩⟩

/-- append(out, x..) where the new elements have just been built in a block of their own. -/
theorem wpList_append_new {P : Program} (wr : World) {ops : Array Oper} {rest : List Oper} {o : Oper} {a : Act} {Q : Exit → Act → World → Prop} (t : TypeId) (s x : Operand) (hgd : o.guard = none)
    (ho : o.op = .call { callee := .builtin .append, args := #[s, x], argTypes := #[t, t] }) (base : Nat) (e : TypeId) {z : Value} {size bytes : Nat}
    (hinfo : (P.info? e).map (fun i => (i.zero, i.size, i.bytes)) = some (some z, size, bytes)) (ht : P.underlying t = some (.slice e)) (hzs : z.cells.size = size) (hsz : 0 < size)
    (A : Option Addr) (n c : Nat) (xs : List Value) (hs : a.eval s = .slice A n c) (hown : wr.ownsRow base e size (.slice A n c) n xs)
    (news : Array Value) (m : Nat) (hx : a.eval x = .slice (some ⟨wr.heap.size, 0, none⟩) m m) (hm : news.size = m * size) (h1 : ∀ u ∈ news.toList, u.oneCell' = true)
    (h63 : n + m ≤ maxLen) (hbytes : (n + m) * bytes ≤ 140737488355328) (hbase : base ≤ wr.heap.size)
    (h : ∀ A' c' w1, w1.ownsRow base e size (.slice A' (n + m) c') (n + m) (xs ++ news.toList) → Below base wr w1 → wr.grownBy w1 (Value.slice A n c).ownBlock → wpList P ops Q rest (a.put o.dst (.slice A' (n + m) c')) w1) :
    wpList P ops Q (o :: rest) a (wr.alloc (.cells news e)) := by
  obtain ⟨i0, hi, hz0, hz1, hz2⟩ := info_parts hinfo
  refine wpList_append_own _ hgd s x t ho base e i0 z size bytes ht hi hz0 hz1 hz2 hzs hsz (.slice A n c) n xs hs (hown.alloc _) ⟨wr.heap.size, 0, none⟩ m m news.toList hx (by simpa using hm) ?_ h1 h63 hbytes (by simp; omega) ?_
  · intro j u hj
    rw [add_zero, World.cell?_alloc_mark, ← Array.getElem?_toList]
    exact hj
  · intro v' w1 hown' hgrow _
    obtain ⟨A', c', rfl, _⟩ := own_shape hown'
    have hg : wr.grownBy w1 (Value.slice A n c).ownBlock := by
      refine ⟨hgrow.os, hgrow.tape, hgrow.output, ?_, fun k hk hne => ?_⟩
      · have := hgrow.size; simp at this; omega
      · rw [hgrow.block k (by simp; omega) hne]
        exact Below.heap_alloc wr _ k hk
    exact h A' c' w1 hown' ((Below.refl base wr).grown hg hbase (fun k hk => (hown.lt k hk).1)) hg

/-- A block that is known whole. -/
def Blk (w : World) (g : Nat) (t : TypeId) (cs : Array Value) : Prop := w.heap[g]? = some (.cells cs t (0, 0))
section
variable {w w' : World} {g : Nat} {t : TypeId} {cs : Array Value}
theorem Blk.lt (h : Blk w g t cs) : g < w.heap.size := by
  rcases Nat.lt_or_ge g w.heap.size with hlt | hge
  · exact hlt
  · unfold Blk at h; rw [Array.getElem?_eq_none hge] at h; cases h
theorem Blk.cell (h : Blk w g t cs) (i : Nat) : w.cell? ⟨g, i, none⟩ = cs[i]? := cell_of_row w g i cs t (0, 0) h
theorem Blk.frozen (h : Blk w g t cs) (i : Nat) : w.frozen? ⟨g, i, none⟩ = false := by
  unfold Blk at h
  simp [World.frozen?, h]
theorem Blk.new (w : World) (t : TypeId) (cs : Array Value) : Blk (w.alloc (.cells cs t)) w.heap.size t cs := heap_alloc_new w _
theorem Blk.drewN (h : Blk w g t cs) (n : Nat) : Blk (w.drewN n) g t cs := h
theorem Blk.alloc (h : Blk w g t cs) (o : Obj) : Blk (w.alloc o) g t cs := (Below.heap_alloc w o g h.lt).trans h
theorem Blk.set_ (h : Blk w g t cs) (i : Nat) (u : Value) : Blk (w.setCell ⟨g, i, none⟩ u) g t (cs.setIfInBounds i u) := by
  unfold Blk at h ⊢
  simp [World.setCell, Array.getElem?_modify, h]
theorem Blk.far (h : Blk w g t cs) {p : Addr} (hp : g ≠ p.block) (u : Value) : Blk (w.setCell p u) g t cs := (Below.heap_setCell w p u g hp).trans h
theorem Blk.below {B : Nat} (h : Blk w g t cs) (hb : Below B w w') (hg : g < B) : Blk w' g t cs := (hb.block g hg).trans h
theorem Blk.after (h : Blk w g t cs) (hb : Below w.heap.size w w') : Blk w' g t cs := h.below hb h.lt
theorem Blk.grown {row : Option Nat} (h : Blk w g t cs) (hb : w.grownBy w' row) (hg : row ≠ some g) : Blk w' g t cs := (hb.block g h.lt (fun e => hg e.symm)).trans h
theorem own_blk_ne {base size n : Nat} {e : TypeId} {v : Value} {xs : List Value} (h : w.ownsRow base e size v n xs) (hg : Blk w g t cs) (hne : e ≠ t) : v.ownBlock ≠ some g := by
  rcases h.2 with ⟨rfl, _⟩ | ⟨g', cap, cur, rfl, _, hh, _⟩
  · simp [Value.ownBlock]
  · intro he
    have : g' = g := by simpa [Value.ownBlock] using he
    subst this
    unfold Blk at hg
    rw [hh] at hg
    injection hg with hg
    injection hg with _ ht
    exact hne ht
theorem ownsRow_drewN {base size n : Nat} {e : TypeId} {v : Value} {xs : List Value} (h : w.ownsRow base e size v n xs) (k : Nat) : (w.drewN k).ownsRow base e size v n xs := h
end

/-- 'string(b)' of a slice of bytes of the call's own, nil let in. -/
theorem run_string_own {P : Program} (w : World) (src dst e : TypeId) (base : Nat) (A : Option Addr) (n c : Nat) (f : UInt8 → List Value) (hf : ∀ x : UInt8, f x = [.int .u8 (x.toNat : Int)]) (l : List UInt8)
    (h : w.ownsRow base e 1 (.slice A n c) n (l.flatMap f)) (hs : P.underlying src = some (.slice e)) (he : P.underlying e = some (.int .u8)) (hd : P.underlying dst = some .string) :
    (convert src dst (.slice A n c)).run P w = .ok (.string ⟨l.toArray⟩) w := by
  have hlen : l.length = n := by
    have := h.1
    rw [flat_length f 1 (fun x => by rw [hf]; rfl)] at this
    omega
  rcases h.2 with ⟨hv, h0⟩ | ⟨g, cap, cur, hv, _⟩
  · injection hv with e1 e2 e3
    subst e1 e2 e3
    have : l = [] := List.eq_nil_of_length_eq_zero hlen
    subst this
    rw [run_convert_bytes_string w src dst e none 0 0 hs he hd]
    simp [Conv.bytesToString]
    rfl
  · injection hv with e1 e2 e3
    subst e1
    refine run_string_of w src dst e ⟨g, 0, none⟩ n c l hlen hs he hd fun j hj => ?_
    have hc := h.cells (g := g) rfl j (.int .u8 (l[j].toNat : Int)) (by
      have := flat_getD f 1 (fun x => by rw [hf]; rfl) 0 l j 0 hj (by omega)
      rw [Nat.mul_one, Nat.add_zero, hf] at this
      rw [List.getD_eq_getElem?_getD] at this
      have h2 : j < (l.flatMap f).length := by rw [flat_length f 1 (fun x => by rw [hf]; rfl)]; omega
      rw [List.getElem?_eq_getElem h2] at this ⊢
      simp only [Option.getD_some, List.getD_cons_zero] at this
      rw [this, List.getD_eq_getElem?_getD, List.getElem?_eq_getElem hj]; rfl)
    exact hc

end Go.Proofs.Ytpnpalbdlhlnkaa
