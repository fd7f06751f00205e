/- A row of one's own, of elements of s cells each, that lies anywhere in its block: append, tail, stores. -/
import Derived.Test.YtpnpalbdlhlnkaaOwnS
namespace Go.Proofs.Ytpnpalbdlhlnkaa
open Go.RowKit
set_option linter.unusedVariables false

/-- A slice of elements of s cells (all cells in a row: xs) that lies anywhere in a row of one's own. -/
def OwnK (T : TypeId) (s : Nat) (w : World) (K : Nat → Prop) (A : Option Addr) (n c : Nat) (xs : List Value) : Prop :=
  xs.length = n * s ∧ ((A = none ∧ n = 0 ∧ c = 0) ∨
    ∃ g o cur, A = some ⟨g, o, none⟩ ∧ ¬ K g ∧ Blk w g T cur ∧ n ≤ c ∧ c ≤ maxLen ∧ o + c * s ≤ cur.size ∧ (cur.toList.drop o).take (n * s) = xs)
section
variable {T : TypeId} {s : Nat} {w w' : World} {K : Nat → Prop} {A : Option Addr} {n c g o : Nat} {xs : List Value}
theorem OwnK.nil (T : TypeId) (s : Nat) (w : World) (K : Nat → Prop) : OwnK T s w K none 0 0 [] := ⟨by simp, .inl ⟨rfl, rfl, rfl⟩⟩
theorem OwnK.cap (h : OwnK T s w K A n c xs) : n ≤ c ∧ c ≤ maxLen := by
  rcases h.2 with ⟨_, h1, h2⟩ | ⟨g, o, cur, _, _, _, h1, h2, _⟩
  · omega
  · exact ⟨h1, h2⟩
theorem OwnK.keep (h : OwnK T s w K A n c xs) (hk : ∀ k, ¬ K k → (Value.slice A n c).ownBlock = some k → k < w.heap.size → w'.heap[k]? = w.heap[k]?) : OwnK T s w' K A n c xs := by
  refine ⟨h.1, ?_⟩
  rcases h.2 with h0 | ⟨g, o, cur, hv, hb, hg, rest⟩
  · exact .inl h0
  · exact .inr ⟨g, o, cur, hv, hb, by unfold Blk; rw [hk g hb (by rw [hv]; rfl) hg.lt]; exact hg, rest⟩
theorem OwnK.after (h : OwnK T s w K A n c xs) (hb : Below w.heap.size w w') : OwnK T s w' K A n c xs := h.keep fun k _ _ hk => hb.block k hk
theorem OwnK.alloc (h : OwnK T s w K A n c xs) (o : Obj) : OwnK T s (w.alloc o) K A n c xs := h.keep fun k _ _ hk => Below.heap_alloc w o k hk
theorem OwnK.drewN (h : OwnK T s w K A n c xs) (m : Nat) : OwnK T s (w.drewN m) K A n c xs := h
theorem OwnK.drew (h : OwnK T s w K A n c xs) : OwnK T s w.drew K A n c xs := h
theorem OwnK.far (h : OwnK T s w K A n c xs) (hp : (Value.slice A n c).ownBlock ≠ some g) (i : Nat) (u : Value) : OwnK T s (w.setCell ⟨g, i, none⟩ u) K A n c xs :=
  h.keep fun k _ hq _ => Below.heap_setCell w ⟨g, i, none⟩ u k (by rintro rfl; exact hp hq)
theorem OwnK.grown {row : Option Nat} (h : OwnK T s w K A n c xs) (hg : w.grownBy w' row) (hp : ∀ k, row = some k → (Value.slice A n c).ownBlock ≠ some k) : OwnK T s w' K A n c xs :=
  h.keep fun k _ hq hk => hg.block k hk (fun e => hp k e.symm hq)
theorem OwnK.lt (h : OwnK T s w K A n c xs) : ∀ k, (Value.slice A n c).ownBlock = some k → ¬ K k ∧ k < w.heap.size := fun k hk => by
  rcases h.2 with ⟨rfl, _⟩ | ⟨g, o, cur, rfl, hb, hg, _⟩
  · cases hk
  · injection hk with hk
    subst hk
    exact ⟨hb, hg.lt⟩
theorem OwnK.weak {K' : Nat → Prop} (h : OwnK T s w K A n c xs) (hK : ∀ k, (Value.slice A n c).ownBlock = some k → ¬ K' k) : OwnK T s w K' A n c xs := by
  refine ⟨h.1, ?_⟩
  rcases h.2 with h0 | ⟨g, o, cur, hv, hb, rest⟩
  · exact .inl h0
  · exact .inr ⟨g, o, cur, hv, hK g (by rw [hv]; rfl), rest⟩
theorem OwnK.ne_blk {t : TypeId} {cs : Array Value} (h : OwnK T s w K A n c xs) (hg : Blk w g t cs) (ht : T ≠ t) : (Value.slice A n c).ownBlock ≠ some g := fun hq => by
  rcases h.2 with ⟨rfl, _⟩ | ⟨g', o, cur, rfl, hb, hg', _⟩
  · cases hq
  · injection hq with hq
    subst hq
    have := hg'.symm.trans hg
    injection this with this
    injection this with _ this _
    exact ht this
theorem OwnK.shape (h : OwnK T s w K A n c xs) (hn : 0 < n) : ∃ g o, A = some ⟨g, o, none⟩ ∧ g < w.heap.size ∧ ¬ K g := by
  rcases h.2 with ⟨_, h0, _⟩ | ⟨g, o, _, hv, hb, hg, _⟩
  · omega
  · exact ⟨g, o, hv, hg.lt, hb⟩
/-- Its cells. -/
theorem OwnK.cell (h : OwnK T s w K (some ⟨g, o, none⟩) n c xs) (j : Nat) (hj : j < n * s) : w.cell? ⟨g, o + j, none⟩ = xs[j]? ∧ w.frozen? ⟨g, o + j, none⟩ = false := by
  rcases h.2 with ⟨h0, _⟩ | ⟨g', o', cur, hv, hb, hg, h1, h2, h3, h4⟩
  · cases h0
  · injection hv with hv
    injection hv with hv hv2
    subst hv hv2
    refine ⟨?_, hg.frozen _⟩
    rw [hg.cell, ← Array.getElem?_toList]
    have : ((cur.toList.drop o).take (n * s))[j]? = cur.toList[o + j]? := by rw [List.getElem?_take, if_pos hj, List.getElem?_drop]
    rw [← this, h4]
/-- A store into it. -/
theorem OwnK.store (h : OwnK T s w K (some ⟨g, o, none⟩) n c xs) (j : Nat) (hj : j < n * s) (u : Value) : OwnK T s (w.setCell ⟨g, o + j, none⟩ u) K (some ⟨g, o, none⟩) n c (xs.set j u) := by
  refine ⟨by simpa using h.1, ?_⟩
  rcases h.2 with ⟨h0, _⟩ | ⟨g', o', cur, hv, hb, hg, h1, h2, h3, h4⟩
  · cases h0
  · injection hv with hv
    injection hv with hv hv2
    subst hv hv2
    have hle : n * s ≤ c * s := Nat.mul_le_mul_right _ h1
    refine .inr ⟨g, o, _, rfl, hb, hg.set_ (o + j) u, h1, h2, by simpa using h3, ?_⟩
    rw [Array.toList_setIfInBounds, List.drop_set, if_neg (by omega), Nat.add_sub_cancel_left, List.take_set, h4]
/-- The first of them. -/
theorem OwnK.short (h : OwnK T s w K A n c xs) (m : Nat) (hm : m ≤ n) : OwnK T s w K A m c (xs.take (m * s)) := by
  have hle : m * s ≤ n * s := Nat.mul_le_mul_right _ hm
  refine ⟨by rw [List.length_take, h.1]; omega, ?_⟩
  rcases h.2 with ⟨h0, h1, h2⟩ | ⟨g, o, cur, hv, hb, hg, h1, h2, h3, h4⟩
  · exact .inl ⟨h0, by omega, h2⟩
  · refine .inr ⟨g, o, cur, hv, hb, hg, by omega, h2, h3, ?_⟩
    rw [← h4, List.take_take, Nat.min_eq_left hle]
/-- All but the first m of them. -/
theorem OwnK.tail (m : Nat) (h : OwnK T s w K (some ⟨g, o, none⟩) n c xs) (hm : m ≤ n) : OwnK T s w K (some ⟨g, o + m * s, none⟩) (n - m) (c - m) (xs.drop (m * s)) := by
  refine ⟨by rw [List.length_drop, h.1, ← Nat.sub_mul], ?_⟩
  rcases h.2 with ⟨h0, _⟩ | ⟨g', o', cur, hv, hb, hg, h1, h2, h3, h4⟩
  · cases h0
  · injection hv with hv
    injection hv with hv hv2
    subst hv hv2
    refine .inr ⟨g, o + m * s, cur, rfl, hb, hg, by omega, by omega, ?_, ?_⟩
    · have : m * s + (c - m) * s = c * s := by rw [← Nat.add_mul, Nat.add_sub_cancel' (by omega)]
      omega
    · rw [← h4, List.drop_take, List.drop_drop, ← Nat.sub_mul]
/-- All of them cut off, none left: the address stays. -/
theorem OwnK.tail0 (m : Nat) (h : OwnK T s w K (some ⟨g, o, none⟩) m m xs) : OwnK T s w K (some ⟨g, o, none⟩) 0 0 (xs.drop (m * s)) := by
  refine ⟨by rw [List.length_drop, h.1]; simp, ?_⟩
  rcases h.2 with ⟨h0, _⟩ | ⟨g', o', cur, hv, hb, hg, h1, h2, h3, h4⟩
  · cases h0
  · injection hv with hv
    injection hv with hv hv2
    subst hv hv2
    refine .inr ⟨g, o, cur, rfl, hb, hg, Nat.le_refl _, Nat.zero_le _, by omega, ?_⟩
    rw [Nat.zero_mul, List.take_zero, List.drop_eq_nil_of_le (by rw [h.1]; exact Nat.le_refl _)]
/-- A row that was read stays a row to read. -/
theorem OwnK.toReads (h : OwnK T s w K A n c xs) : Reads w w.heap.size A n s xs := by
  refine ⟨h.1, fun hn => ?_⟩
  rcases h.2 with ⟨_, h0, _⟩ | ⟨g, o, cur, rfl, hb, hg, h1, h2, h3, h4⟩
  · omega
  · refine ⟨g, o, rfl, hg.lt, fun j hj => ?_⟩
    have := (OwnK.cell (⟨h.1, .inr ⟨g, o, cur, rfl, hb, hg, h1, h2, h3, h4⟩⟩ : OwnK T s w K (some ⟨g, o, none⟩) n c xs) j (by rw [← h.1]; exact hj)).1
    rw [this, List.getElem?_eq_getElem hj, List.getD_eq_getElem?_getD, List.getElem?_eq_getElem hj]
    rfl
end

/-- append of one element. -/
theorem run_append_K {P : Program} {T : TypeId} {s : Nat} (z : Value) (by_ : Nat) (w : World) (K : Nat → Prop) (t ty : TypeId) (ht : P.underlying t = some (.slice T)) (hinfo : (P.info? T).map (fun i => (i.zero, i.size, i.bytes)) = some (some z, s, by_)) (hzs : z.cells.size = s) (hs0 : 0 < s) (hb48 : by_ ≤ 281474976710656)
    (A : Option Addr) (n c : Nat) (xs : List Value) (hown : OwnK T s w K A n c xs) (a : Addr) (c2 : Nat) (ys : List Value) (hys : ys.length = s) (hy1 : ∀ u ∈ ys, u.oneCell' = true) (hx : ∀ j, j < s → w.cell? (a.add j) = ys[j]?)
    (h63 : (n + 1) * by_ ≤ 140737488355328) (hn63 : n ≤ 8000000000000) (hK : ∀ k, K k → k < w.heap.size) :
    ∃ A' c' w', (Builtin.append_ #[t, t] ty #[.slice A n c, .slice (some a) 1 c2]).run P w = .ok (.slice A' (n + 1) c') w' ∧ OwnK T s w' K A' (n + 1) c' (xs ++ ys) ∧ w.grownBy w' (Value.slice A n c).ownBlock ∧
      (∀ k, (Value.slice A' (n + 1) c').ownBlock = some k → (Value.slice A n c).ownBlock = some k ∨ w.heap.size ≤ k) ∧ 0 < w'.heap.size := by
  obtain ⟨i, hi, hz, hs1, hby⟩ := info_parts hinfo
  have hnews : ∀ j u, ys[j]? = some u → w.cell? (a.add j) = some u := fun j u hj => by
    rw [hx j (by rw [← hys]; exact (List.getElem?_eq_some_iff.1 hj).1)]; exact hj
  have hll : (xs ++ ys).length = (n + 1) * s := by rw [List.length_append, hown.1, hys, Nat.add_mul, Nat.one_mul]
  rcases hown.2 with ⟨rfl, rfl, rfl⟩ | ⟨g, o, cur, rfl, hb, hg, hnc, hcm, hcs, htake⟩
  · have hl : xs = [] := List.eq_nil_of_length_eq_zero (by simpa using hown.1)
    subst hl
    have hr := run_append_nil (P := P) w t ty T i _ ht hi hz a 1 c2 ys (by rw [hs1, hys, Nat.one_mul]) hnews (by omega) (by omega) (by rw [hby]; omega)
    have hge := grownCap_ge w 1 0 T
    refine ⟨_, _, _, hr, ⟨hll, .inr ⟨w.heap.size, 0, _, rfl, fun hk => Nat.lt_irrefl _ (hK _ hk), Blk.new w.drew _ _, hge, grownCap_le_maxLen w 1 0 _ (by unfold maxLen; omega), ?_, ?_⟩⟩, ⟨rfl, rfl, rfl, by simp, fun k hk _ => Below.heap_alloc w.drew _ k hk⟩, fun k hk => ?_, by simp⟩
    · simp only [Array.size_append, List.size_toArray, size_zeroCells, hys, hzs]
      rw [Nat.sub_mul, Nat.one_mul, Nat.zero_add]
      have : 1 * s ≤ grownCap w 1 0 T * s := Nat.mul_le_mul_right _ hge
      omega
    · rw [List.drop_zero, Array.toList_append, List.take_append_of_le_length (by simp [hys]), List.take_of_length_le (by simp [hys])]
      rfl
    · have hk : w.heap.size = k := by injection hk
      exact .inr (by omega)
  · by_cases hroom : n + 1 ≤ c
    · have hle : (n + 1) * s ≤ c * s := Nat.mul_le_mul_right _ hroom
      have hns : (n + 1) * s = n * s + s := by rw [Nat.add_mul, Nat.one_mul]
      have hf := run_firstCells_some (P := P) w i.size 1 a 1 c2 ys (by rw [hs1, hys, Nat.one_mul]) hnews
      have hst := run_storeCells_T P g (o + n * s) T (0, 0) ys 0 cur w hg (fun i _ hh => by omega) (by rw [hys]; omega) hy1
      simp only [Nat.add_zero] at hst
      have hr : (Builtin.append_ #[t, t] ty #[.slice (some ⟨g, o, none⟩) n c, .slice (some a) 1 c2]).run P w =
          .ok (.slice (some ⟨g, o, none⟩) (n + 1) c) (w.setRow g (cur.toList.take (o + n * s) ++ ys ++ cur.toList.drop (o + n * s + ys.length)).toArray) := by
        rw [hs1] at hf
        simp [Builtin.append_, run_underlying ht, sizeOf, typeInfo, hi, Builtin.lenOf, hroom, hf, add_at, hs1, hst]
      refine ⟨_, _, _, hr, ⟨hll, .inr ⟨g, o, _, rfl, hb, setRow_heap w g cur _ _ _ hg, hroom, hcm, ?_, ?_⟩⟩, ⟨rfl, rfl, rfl, by simp, fun k _ hk => setRow_other w g k _ (fun e => hk (by simp [Value.ownBlock, e]))⟩, fun k hk => .inl hk, ?_⟩
      · simp only [List.size_toArray, List.length_append, List.length_take, List.length_drop, Array.length_toList, hys]; omega
      · rw [← htake]
        have hlen : (cur.toList.take (o + n * s)).length = o + n * s := by rw [List.length_take, Array.length_toList]; omega
        rw [List.append_assoc, List.drop_append_of_le_length (by omega), List.drop_take, show o + n * s - o = n * s from by omega]
        have hl2 : ((cur.toList.drop o).take (n * s)).length = n * s := by rw [List.length_take, List.length_drop, Array.length_toList]; omega
        rw [List.take_append, List.take_of_length_le (by omega), hl2, show (n + 1) * s - n * s = s from by omega, List.take_append_of_le_length (by omega), List.take_of_length_le (l := ys) (by omega)]
      · have := hg.lt
        simp only [World.setRow]
        simp
        omega
    · have hge := grownCap_ge w (n + 1) c T
      have holds : ∀ j u, xs[j]? = some u → w.cell? ((⟨g, o, none⟩ : Addr).add j) = some u := fun j u hj => by
        have hj' : j < n * s := by have := (List.getElem?_eq_some_iff.1 hj).1; rw [hown.1] at this; exact this
        rw [add_at, hg.cell, ← Array.getElem?_toList, ← hj, ← htake, List.getElem?_take, if_pos hj', List.getElem?_drop]
      have hr := run_append_grow (P := P) w t ty T i _ ht hi hz ⟨g, o, none⟩ n c xs (by rw [hown.1, hs1]) holds a 1 c2 ys (by rw [hs1, hys, Nat.one_mul]) hnews (by omega) (by omega) (growslice_fits (by omega) (by rw [hby]; omega))
      refine ⟨_, _, _, hr, ⟨hll, .inr ⟨w.heap.size, 0, _, rfl, fun hk => Nat.lt_irrefl _ (hK _ hk), Blk.new w.drew _ _, hge, grownCap_le_maxLen w (n + 1) c _ (by unfold maxLen; omega), ?_, ?_⟩⟩, ⟨rfl, rfl, rfl, by simp, fun k hk _ => Below.heap_alloc w.drew _ k hk⟩, fun k hk => ?_, by simp⟩
      · have hle2 : (n + 1) * s ≤ grownCap w (n + 1) c T * s := Nat.mul_le_mul_right _ hge
        simp only [Array.size_append, List.size_toArray, size_zeroCells, hys, hzs, hown.1]
        rw [Nat.sub_mul]
        have hns : (n + 1) * s = n * s + s := by rw [Nat.add_mul, Nat.one_mul]
        omega
      · rw [List.drop_zero, Array.toList_append, Array.toList_append, List.take_append_of_le_length (by rw [← hll]; simp), List.take_of_length_le (by rw [← hll]; simp)]
      · have hk : w.heap.size = k := by injection hk
        exact .inr (by omega)

/-- append of one element, as one step of a region that draws. -/
theorem step_append_K {P : Program} {w : World} {ops : Array Oper} {op : Oper} {a : Act} {Kq : Act → World → Prop} {Q : Exit → Act → World → Prop} {E : Prop} {T : TypeId} {s : Nat} (hgd : op.guard = none) (x y : Operand) (t : TypeId)
    (ho : op.op = .call { callee := .builtin .append, args := #[x, y], argTypes := #[t, t] }) (K : Nat → Prop) (z : Value) (by_ : Nat)
    (hinfo : (P.info? T).map (fun i => (i.zero, i.size, i.bytes)) = some (some z, s, by_)) (ht : P.underlying t = some (.slice T)) (hzs : z.cells.size = s) (hs0 : 0 < s) (hb48 : by_ ≤ 281474976710656)
    (A : Option Addr) (n c : Nat) (xs : List Value) (hs : a.eval x = .slice A n c) (hown : OwnK T s w K A n c xs)
    (ad : Addr) (c2 : Nat) (ys : List Value) (hx : a.eval y = .slice (some ad) 1 c2) (hys : ys.length = s) (hy1 : ∀ u ∈ ys, u.oneCell' = true) (hy : ∀ j, j < s → w.cell? (ad.add j) = ys[j]?)
    (h63 : (n + 1) * by_ ≤ 140737488355328) (hn63 : n ≤ 8000000000000) (hK : ∀ k, K k → k < w.heap.size)
    (h : ∀ A' c' w1, OwnK T s w1 K A' (n + 1) c' (xs ++ ys) → w.grownBy w1 (Value.slice A n c).ownBlock → (∀ k, (Value.slice A' (n + 1) c').ownBlock = some k → (Value.slice A n c).ownBlock = some k ∨ w.heap.size ≤ k) → Kq (a.put op.dst (.slice A' (n + 1) c')) w1) :
    if Region.wanted op (yielded ops a.tmps) = true then Oper.wp P op a w Kq Q else E := by
  rw [if_pos (by simp [Region.wanted, hgd])]
  obtain ⟨A', c', w1, hr, h1, h2, h3, _⟩ := run_append_K (P := P) z by_ w K t op.type ht hinfo hzs hs0 hb48 A n c xs hown ad c2 ys hys hy1 hy h63 hn63 hK
  unfold Oper.wp execOp
  simp only [ho, resolve, invoke, builtin, Sem.run_bind, Sem.run_pure, Result.andThen_ok, List.map_toArray, List.map_cons, List.map_nil, hs, hx, hr]
  exact h A' c' w1 h1 h2 h3
/-- append of one element, at the operation. -/
theorem wpList_append_K {P : Program} {w : World} {ops : Array Oper} {rest : List Oper} {op : Oper} {a : Act} {Q : Exit → Act → World → Prop} {T : TypeId} {s : Nat} (hgd : op.guard = none) (x y : Operand) (t : TypeId)
    (ho : op.op = .call { callee := .builtin .append, args := #[x, y], argTypes := #[t, t] }) (K : Nat → Prop) (z : Value) (by_ : Nat)
    (hinfo : (P.info? T).map (fun i => (i.zero, i.size, i.bytes)) = some (some z, s, by_)) (ht : P.underlying t = some (.slice T)) (hzs : z.cells.size = s) (hs0 : 0 < s) (hb48 : by_ ≤ 281474976710656)
    (A : Option Addr) (n c : Nat) (xs : List Value) (hs : a.eval x = .slice A n c) (hown : OwnK T s w K A n c xs)
    (ad : Addr) (c2 : Nat) (ys : List Value) (hx : a.eval y = .slice (some ad) 1 c2) (hys : ys.length = s) (hy1 : ∀ u ∈ ys, u.oneCell' = true) (hy : ∀ j, j < s → w.cell? (ad.add j) = ys[j]?)
    (h63 : (n + 1) * by_ ≤ 140737488355328) (hn63 : n ≤ 8000000000000) (hK : ∀ k, K k → k < w.heap.size)
    (h : ∀ A' c' w1, OwnK T s w1 K A' (n + 1) c' (xs ++ ys) → w.grownBy w1 (Value.slice A n c).ownBlock → (∀ k, (Value.slice A' (n + 1) c').ownBlock = some k → (Value.slice A n c).ownBlock = some k ∨ w.heap.size ≤ k) → wpList P ops Q rest (a.put op.dst (.slice A' (n + 1) c')) w1) :
    wpList P ops Q (op :: rest) a w := by
  refine wpList_plain hgd fun K1 hK1 => ?_
  obtain ⟨A', c', w1, hr, h1, h2, h3, _⟩ := run_append_K (P := P) z by_ w K t op.type ht hinfo hzs hs0 hb48 A n c xs hown ad c2 ys hys hy1 hy h63 hn63 hK
  unfold Oper.wp execOp
  simp only [ho, resolve, invoke, builtin, Sem.run_bind, Sem.run_pure, Result.andThen_ok, List.map_toArray, List.map_cons, List.map_nil, hs, hx, hr]
  exact hK1 _ _ (h A' c' w1 h1 h2 h3)
end Go.Proofs.Ytpnpalbdlhlnkaa
