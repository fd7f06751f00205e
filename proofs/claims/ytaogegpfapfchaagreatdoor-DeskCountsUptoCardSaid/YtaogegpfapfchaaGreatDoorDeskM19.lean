import Derived.Test.YtaogegpfapfchaaGreatDoorDeskM17
import Derived.Test.YtaogegpfapfchaaGreatDoorDeskM16
import Derived.Test.YtaogegpfapfchaaGreatDoorDeskM18
/- Several texts in one: XOwnK XHouseMem XHouseLeaf XHouseEdit. -/
/- A row of one's own, of elements of s cells each, that lies anywhere in its block: append, tail, stores. -/
namespace Go.Proofs.YtaogegpfapfchaaGreatDoor
open Go.RowKit
set_option linter.unusedVariables false

/-- A slice of elements of s cells (all cells in a row: xs) that lies anywhere in a row of one's own. -/
def OwnK (T : TypeId) (s : Nat) (w : World) (K : Nat → Prop) (A : Option Addr) (n c : Nat) (xs : List Value) : Prop :=
  xs.length = n * s ∧ ((A = none ∧ n = 0 ∧ c = 0) ∨
    ∃ g o cur, A = some ⟨g, o, none⟩ ∧ ¬ K g ∧ Blk w g T cur ∧ n ≤ c ∧ c ≤ maxLen ∧ o + c * s ≤ cur.size ∧ (cur.toList.drop o).take (n * s) = xs)
section
variable {T : TypeId} {s : Nat} {w w' : World} {K : Nat → Prop} {A : Option Addr} {n c g o : Nat} {xs : List Value}
theorem OwnK.nil (T : TypeId) (s : Nat) (w : World) (K : Nat → Prop) : OwnK T s w K none 0 0 [] := ⟨by simp, .inl ⟨rfl, rfl, rfl⟩⟩
theorem OwnK.cap (h : OwnK T s w K A n c xs) : n ≤ c ∧ c ≤ maxLen := by
  rcases h.2 with ⟨_, h1, h2⟩ | ⟨g, o, cur, _, _, _, h1, h2, _⟩
  · omega
  · exact ⟨h1, h2⟩
theorem OwnK.keep (h : OwnK T s w K A n c xs) (hk : ∀ k, ¬ K k → (Value.slice A n c).ownBlock = some k → k < w.heap.size → w'.heap[k]? = w.heap[k]?) : OwnK T s w' K A n c xs := by
  refine ⟨h.1, ?_⟩
  rcases h.2 with h0 | ⟨g, o, cur, hv, hb, hg, rest⟩
  · exact .inl h0
  · exact .inr ⟨g, o, cur, hv, hb, by unfold Blk; rw [hk g hb (by rw [hv]; rfl) hg.lt]; exact hg, rest⟩
theorem OwnK.after (h : OwnK T s w K A n c xs) (hb : Below w.heap.size w w') : OwnK T s w' K A n c xs := h.keep fun k _ _ hk => hb.block k hk
theorem OwnK.alloc (h : OwnK T s w K A n c xs) (o : Obj) : OwnK T s (w.alloc o) K A n c xs := h.keep fun k _ _ hk => Below.heap_alloc w o k hk
theorem OwnK.drewN (h : OwnK T s w K A n c xs) (m : Nat) : OwnK T s (w.drewN m) K A n c xs := h
theorem OwnK.drew (h : OwnK T s w K A n c xs) : OwnK T s w.drew K A n c xs := h
theorem OwnK.far (h : OwnK T s w K A n c xs) (hp : (Value.slice A n c).ownBlock ≠ some g) (i : Nat) (u : Value) : OwnK T s (w.setCell ⟨g, i, none⟩ u) K A n c xs :=
  h.keep fun k _ hq _ => Below.heap_setCell w ⟨g, i, none⟩ u k (by rintro rfl; exact hp hq)
theorem OwnK.grown {row : Option Nat} (h : OwnK T s w K A n c xs) (hg : w.grownBy w' row) (hp : ∀ k, row = some k → (Value.slice A n c).ownBlock ≠ some k) : OwnK T s w' K A n c xs :=
  h.keep fun k _ hq hk => hg.block k hk (fun e => hp k e.symm hq)
theorem OwnK.lt (h : OwnK T s w K A n c xs) : ∀ k, (Value.slice A n c).ownBlock = some k → ¬ K k ∧ k < w.heap.size := fun k hk => by
  rcases h.2 with ⟨rfl, _⟩ | ⟨g, o, cur, rfl, hb, hg, _⟩
  · cases hk
  · injection hk with hk
    subst hk
    exact ⟨hb, hg.lt⟩
theorem OwnK.weak {K' : Nat → Prop} (h : OwnK T s w K A n c xs) (hK : ∀ k, (Value.slice A n c).ownBlock = some k → ¬ K' k) : OwnK T s w K' A n c xs := by
  refine ⟨h.1, ?_⟩
  rcases h.2 with h0 | ⟨g, o, cur, hv, hb, rest⟩
  · exact .inl h0
  · exact .inr ⟨g, o, cur, hv, hK g (by rw [hv]; rfl), rest⟩
theorem OwnK.ne_blk {t : TypeId} {cs : Array Value} (h : OwnK T s w K A n c xs) (hg : Blk w g t cs) (ht : T ≠ t) : (Value.slice A n c).ownBlock ≠ some g := fun hq => by
  rcases h.2 with ⟨rfl, _⟩ | ⟨g', o, cur, rfl, hb, hg', _⟩
  · cases hq
  · injection hq with hq
    subst hq
    have := hg'.symm.trans hg
    injection this with this
    injection this with _ this _
    exact ht this
theorem OwnK.shape (h : OwnK T s w K A n c xs) (hn : 0 < n) : ∃ g o, A = some ⟨g, o, none⟩ ∧ g < w.heap.size ∧ ¬ K g := by
  rcases h.2 with ⟨_, h0, _⟩ | ⟨g, o, _, hv, hb, hg, _⟩
  · omega
  · exact ⟨g, o, hv, hg.lt, hb⟩
/-- Its cells. -/
theorem OwnK.cell (h : OwnK T s w K (some ⟨g, o, none⟩) n c xs) (j : Nat) (hj : j < n * s) : w.cell? ⟨g, o + j, none⟩ = xs[j]? ∧ w.frozen? ⟨g, o + j, none⟩ = false := by
  rcases h.2 with ⟨h0, _⟩ | ⟨g', o', cur, hv, hb, hg, h1, h2, h3, h4⟩
  · cases h0
  · injection hv with hv
    injection hv with hv hv2
    subst hv hv2
    refine ⟨?_, hg.frozen _⟩
    rw [hg.cell, ← Array.getElem?_toList]
    have : ((cur.toList.drop o).take (n * s))[j]? = cur.toList[o + j]? := by rw [List.getElem?_take, if_pos hj, List.getElem?_drop]
    rw [← this, h4]
/-- A store into it. -/
theorem OwnK.store (h : OwnK T s w K (some ⟨g, o, none⟩) n c xs) (j : Nat) (hj : j < n * s) (u : Value) : OwnK T s (w.setCell ⟨g, o + j, none⟩ u) K (some ⟨g, o, none⟩) n c (xs.set j u) := by
  refine ⟨by simpa using h.1, ?_⟩
  rcases h.2 with ⟨h0, _⟩ | ⟨g', o', cur, hv, hb, hg, h1, h2, h3, h4⟩
  · cases h0
  · injection hv with hv
    injection hv with hv hv2
    subst hv hv2
    have hle : n * s ≤ c * s := Nat.mul_le_mul_right _ h1
    refine .inr ⟨g, o, _, rfl, hb, hg.set_ (o + j) u, h1, h2, by simpa using h3, ?_⟩
    rw [Array.toList_setIfInBounds, List.drop_set, if_neg (by omega), Nat.add_sub_cancel_left, List.take_set, h4]
/-- The first of them. -/
theorem OwnK.short (h : OwnK T s w K A n c xs) (m : Nat) (hm : m ≤ n) : OwnK T s w K A m c (xs.take (m * s)) := by
  have hle : m * s ≤ n * s := Nat.mul_le_mul_right _ hm
  refine ⟨by rw [List.length_take, h.1]; omega, ?_⟩
  rcases h.2 with ⟨h0, h1, h2⟩ | ⟨g, o, cur, hv, hb, hg, h1, h2, h3, h4⟩
  · exact .inl ⟨h0, by omega, h2⟩
  · refine .inr ⟨g, o, cur, hv, hb, hg, by omega, h2, h3, ?_⟩
    rw [← h4, List.take_take, Nat.min_eq_left hle]
/-- All but the first m of them. -/
theorem OwnK.tail (m : Nat) (h : OwnK T s w K (some ⟨g, o, none⟩) n c xs) (hm : m ≤ n) : OwnK T s w K (some ⟨g, o + m * s, none⟩) (n - m) (c - m) (xs.drop (m * s)) := by
  refine ⟨by rw [List.length_drop, h.1, ← Nat.sub_mul], ?_⟩
  rcases h.2 with ⟨h0, _⟩ | ⟨g', o', cur, hv, hb, hg, h1, h2, h3, h4⟩
  · cases h0
  · injection hv with hv
    injection hv with hv hv2
    subst hv hv2
    refine .inr ⟨g, o + m * s, cur, rfl, hb, hg, by omega, by omega, ?_, ?_⟩
    · have : m * s + (c - m) * s = c * s := by rw [← Nat.add_mul, Nat.add_sub_cancel' (by omega)]
      omega
    · rw [← h4, List.drop_take, List.drop_drop, ← Nat.sub_mul]
/-- All of them cut off, none left: the address stays. -/
theorem OwnK.tail0 (m : Nat) (h : OwnK T s w K (some ⟨g, o, none⟩) m m xs) : OwnK T s w K (some ⟨g, o, none⟩) 0 0 (xs.drop (m * s)) := by
  refine ⟨by rw [List.length_drop, h.1]; simp, ?_⟩
  rcases h.2 with ⟨h0, _⟩ | ⟨g', o', cur, hv, hb, hg, h1, h2, h3, h4⟩
  · cases h0
  · injection hv with hv
    injection hv with hv hv2
    subst hv hv2
    refine .inr ⟨g, o, cur, rfl, hb, hg, Nat.le_refl _, Nat.zero_le _, by omega, ?_⟩
    rw [Nat.zero_mul, List.take_zero, List.drop_eq_nil_of_le (by rw [h.1]; exact Nat.le_refl _)]
/-- A row that was read stays a row to read. -/
theorem OwnK.toReads (h : OwnK T s w K A n c xs) : Reads w w.heap.size A n s xs := by
  refine ⟨h.1, fun hn => ?_⟩
  rcases h.2 with ⟨_, h0, _⟩ | ⟨g, o, cur, rfl, hb, hg, h1, h2, h3, h4⟩
  · omega
  · refine ⟨g, o, rfl, hg.lt, fun j hj => ?_⟩
    have := (OwnK.cell (⟨h.1, .inr ⟨g, o, cur, rfl, hb, hg, h1, h2, h3, h4⟩⟩ : OwnK T s w K (some ⟨g, o, none⟩) n c xs) j (by rw [← h.1]; exact hj)).1
    rw [this, List.getElem?_eq_getElem hj, List.getD_eq_getElem?_getD, List.getElem?_eq_getElem hj]
    rfl
end

/-- append of one element. -/
theorem run_append_K {P : Program} {T : TypeId} {s : Nat} (z : Value) (by_ : Nat) (w : World) (K : Nat → Prop) (t ty : TypeId) (ht : P.underlying t = some (.slice T)) (hinfo : (P.info? T).map (fun i => (i.zero, i.size, i.bytes)) = some (some z, s, by_)) (hzs : z.cells.size = s) (hs0 : 0 < s) (hb48 : by_ ≤ 281474976710656)
    (A : Option Addr) (n c : Nat) (xs : List Value) (hown : OwnK T s w K A n c xs) (a : Addr) (c2 : Nat) (ys : List Value) (hys : ys.length = s) (hy1 : ∀ u ∈ ys, u.oneCell' = true) (hx : ∀ j, j < s → w.cell? (a.add j) = ys[j]?)
    (h63 : (n + 1) * by_ ≤ 140737488355328) (hn63 : n ≤ 8000000000000) (hK : ∀ k, K k → k < w.heap.size) :
    ∃ A' c' w', (Builtin.append_ #[t, t] ty #[.slice A n c, .slice (some a) 1 c2]).run P w = .ok (.slice A' (n + 1) c') w' ∧ OwnK T s w' K A' (n + 1) c' (xs ++ ys) ∧ w.grownBy w' (Value.slice A n c).ownBlock ∧
      (∀ k, (Value.slice A' (n + 1) c').ownBlock = some k → (Value.slice A n c).ownBlock = some k ∨ w.heap.size ≤ k) ∧ 0 < w'.heap.size := by
  obtain ⟨i, hi, hz, hs1, hby⟩ := info_parts hinfo
  have hnews : ∀ j u, ys[j]? = some u → w.cell? (a.add j) = some u := fun j u hj => by
    rw [hx j (by rw [← hys]; exact (List.getElem?_eq_some_iff.1 hj).1)]; exact hj
  have hll : (xs ++ ys).length = (n + 1) * s := by rw [List.length_append, hown.1, hys, Nat.add_mul, Nat.one_mul]
  rcases hown.2 with ⟨rfl, rfl, rfl⟩ | ⟨g, o, cur, rfl, hb, hg, hnc, hcm, hcs, htake⟩
  · have hl : xs = [] := List.eq_nil_of_length_eq_zero (by simpa using hown.1)
    subst hl
    have hr := run_append_nil (P := P) w t ty T i _ ht hi hz a 1 c2 ys (by rw [hs1, hys, Nat.one_mul]) hnews (by omega) (by omega) (by rw [hby]; omega)
    have hge := grownCap_ge w 1 0 T
    refine ⟨_, _, _, hr, ⟨hll, .inr ⟨w.heap.size, 0, _, rfl, fun hk => Nat.lt_irrefl _ (hK _ hk), Blk.new w.drew _ _, hge, grownCap_le_maxLen w 1 0 _ (by unfold maxLen; omega), ?_, ?_⟩⟩, ⟨rfl, rfl, rfl, by simp, fun k hk _ => Below.heap_alloc w.drew _ k hk⟩, fun k hk => ?_, by simp⟩
    · simp only [Array.size_append, List.size_toArray, size_zeroCells, hys, hzs]
      rw [Nat.sub_mul, Nat.one_mul, Nat.zero_add]
      have : 1 * s ≤ grownCap w 1 0 T * s := Nat.mul_le_mul_right _ hge
      omega
    · rw [List.drop_zero, Array.toList_append, List.take_append_of_le_length (by simp [hys]), List.take_of_length_le (by simp [hys])]
      rfl
    · have hk : w.heap.size = k := by injection hk
      exact .inr (by omega)
  · by_cases hroom : n + 1 ≤ c
    · have hle : (n + 1) * s ≤ c * s := Nat.mul_le_mul_right _ hroom
      have hns : (n + 1) * s = n * s + s := by rw [Nat.add_mul, Nat.one_mul]
      have hf := run_firstCells_some (P := P) w i.size 1 a 1 c2 ys (by rw [hs1, hys, Nat.one_mul]) hnews
      have hst := run_storeCells_T P g (o + n * s) T (0, 0) ys 0 cur w hg (fun i _ hh => by omega) (by rw [hys]; omega) hy1
      simp only [Nat.add_zero] at hst
      have hr : (Builtin.append_ #[t, t] ty #[.slice (some ⟨g, o, none⟩) n c, .slice (some a) 1 c2]).run P w =
          .ok (.slice (some ⟨g, o, none⟩) (n + 1) c) (w.setRow g (cur.toList.take (o + n * s) ++ ys ++ cur.toList.drop (o + n * s + ys.length)).toArray) := by
        rw [hs1] at hf
        simp [Builtin.append_, run_underlying ht, sizeOf, typeInfo, hi, Builtin.lenOf, hroom, hf, add_at, hs1, hst]
      refine ⟨_, _, _, hr, ⟨hll, .inr ⟨g, o, _, rfl, hb, setRow_heap w g cur _ _ _ hg, hroom, hcm, ?_, ?_⟩⟩, ⟨rfl, rfl, rfl, by simp, fun k _ hk => setRow_other w g k _ (fun e => hk (by simp [Value.ownBlock, e]))⟩, fun k hk => .inl hk, ?_⟩
      · simp only [List.size_toArray, List.length_append, List.length_take, List.length_drop, Array.length_toList, hys]; omega
      · rw [← htake]
        have hlen : (cur.toList.take (o + n * s)).length = o + n * s := by rw [List.length_take, Array.length_toList]; omega
        rw [List.append_assoc, List.drop_append_of_le_length (by omega), List.drop_take, show o + n * s - o = n * s from by omega]
        have hl2 : ((cur.toList.drop o).take (n * s)).length = n * s := by rw [List.length_take, List.length_drop, Array.length_toList]; omega
        rw [List.take_append, List.take_of_length_le (by omega), hl2, show (n + 1) * s - n * s = s from by omega, List.take_append_of_le_length (by omega), List.take_of_length_le (l := ys) (by omega)]
      · have := hg.lt
        simp only [World.setRow]
        simp
        omega
    · have hge := grownCap_ge w (n + 1) c T
      have holds : ∀ j u, xs[j]? = some u → w.cell? ((⟨g, o, none⟩ : Addr).add j) = some u := fun j u hj => by
        have hj' : j < n * s := by have := (List.getElem?_eq_some_iff.1 hj).1; rw [hown.1] at this; exact this
        rw [add_at, hg.cell, ← Array.getElem?_toList, ← hj, ← htake, List.getElem?_take, if_pos hj', List.getElem?_drop]
      have hr := run_append_grow (P := P) w t ty T i _ ht hi hz ⟨g, o, none⟩ n c xs (by rw [hown.1, hs1]) holds a 1 c2 ys (by rw [hs1, hys, Nat.one_mul]) hnews (by omega) (by omega) (growslice_fits (by omega) (by rw [hby]; omega))
      refine ⟨_, _, _, hr, ⟨hll, .inr ⟨w.heap.size, 0, _, rfl, fun hk => Nat.lt_irrefl _ (hK _ hk), Blk.new w.drew _ _, hge, grownCap_le_maxLen w (n + 1) c _ (by unfold maxLen; omega), ?_, ?_⟩⟩, ⟨rfl, rfl, rfl, by simp, fun k hk _ => Below.heap_alloc w.drew _ k hk⟩, fun k hk => ?_, by simp⟩
      · have hle2 : (n + 1) * s ≤ grownCap w (n + 1) c T * s := Nat.mul_le_mul_right _ hge
        simp only [Array.size_append, List.size_toArray, size_zeroCells, hys, hzs, hown.1]
        rw [Nat.sub_mul]
        have hns : (n + 1) * s = n * s + s := by rw [Nat.add_mul, Nat.one_mul]
        omega
      · rw [List.drop_zero, Array.toList_append, Array.toList_append, List.take_append_of_le_length (by rw [← hll]; simp), List.take_of_length_le (by rw [← hll]; simp)]
      · have hk : w.heap.size = k := by injection hk
        exact .inr (by omega)

/-- append of one element, as one step of a region that draws. -/
theorem step_append_K {P : Program} {w : World} {ops : Array Oper} {op : Oper} {a : Act} {Kq : Act → World → Prop} {Q : Exit → Act → World → Prop} {E : Prop} {T : TypeId} {s : Nat} (hgd : op.guard = none) (x y : Operand) (t : TypeId)
    (ho : op.op = .call { callee := .builtin .append, args := #[x, y], argTypes := #[t, t] }) (K : Nat → Prop) (z : Value) (by_ : Nat)
    (hinfo : (P.info? T).map (fun i => (i.zero, i.size, i.bytes)) = some (some z, s, by_)) (ht : P.underlying t = some (.slice T)) (hzs : z.cells.size = s) (hs0 : 0 < s) (hb48 : by_ ≤ 281474976710656)
    (A : Option Addr) (n c : Nat) (xs : List Value) (hs : a.eval x = .slice A n c) (hown : OwnK T s w K A n c xs)
    (ad : Addr) (c2 : Nat) (ys : List Value) (hx : a.eval y = .slice (some ad) 1 c2) (hys : ys.length = s) (hy1 : ∀ u ∈ ys, u.oneCell' = true) (hy : ∀ j, j < s → w.cell? (ad.add j) = ys[j]?)
    (h63 : (n + 1) * by_ ≤ 140737488355328) (hn63 : n ≤ 8000000000000) (hK : ∀ k, K k → k < w.heap.size)
    (h : ∀ A' c' w1, OwnK T s w1 K A' (n + 1) c' (xs ++ ys) → w.grownBy w1 (Value.slice A n c).ownBlock → (∀ k, (Value.slice A' (n + 1) c').ownBlock = some k → (Value.slice A n c).ownBlock = some k ∨ w.heap.size ≤ k) → Kq (a.put op.dst (.slice A' (n + 1) c')) w1) :
    if Region.wanted op (yielded ops a.tmps) = true then Oper.wp P op a w Kq Q else E := by
  rw [if_pos (by simp [Region.wanted, hgd])]
  obtain ⟨A', c', w1, hr, h1, h2, h3, _⟩ := run_append_K (P := P) z by_ w K t op.type ht hinfo hzs hs0 hb48 A n c xs hown ad c2 ys hys hy1 hy h63 hn63 hK
  unfold Oper.wp execOp
  simp only [ho, resolve, invoke, builtin, Sem.run_bind, Sem.run_pure, Result.andThen_ok, List.map_toArray, List.map_cons, List.map_nil, hs, hx, hr]
  exact h A' c' w1 h1 h2 h3
/-- append of one element, at the operation. -/
theorem wpList_append_K {P : Program} {w : World} {ops : Array Oper} {rest : List Oper} {op : Oper} {a : Act} {Q : Exit → Act → World → Prop} {T : TypeId} {s : Nat} (hgd : op.guard = none) (x y : Operand) (t : TypeId)
    (ho : op.op = .call { callee := .builtin .append, args := #[x, y], argTypes := #[t, t] }) (K : Nat → Prop) (z : Value) (by_ : Nat)
    (hinfo : (P.info? T).map (fun i => (i.zero, i.size, i.bytes)) = some (some z, s, by_)) (ht : P.underlying t = some (.slice T)) (hzs : z.cells.size = s) (hs0 : 0 < s) (hb48 : by_ ≤ 281474976710656)
    (A : Option Addr) (n c : Nat) (xs : List Value) (hs : a.eval x = .slice A n c) (hown : OwnK T s w K A n c xs)
    (ad : Addr) (c2 : Nat) (ys : List Value) (hx : a.eval y = .slice (some ad) 1 c2) (hys : ys.length = s) (hy1 : ∀ u ∈ ys, u.oneCell' = true) (hy : ∀ j, j < s → w.cell? (ad.add j) = ys[j]?)
    (h63 : (n + 1) * by_ ≤ 140737488355328) (hn63 : n ≤ 8000000000000) (hK : ∀ k, K k → k < w.heap.size)
    (h : ∀ A' c' w1, OwnK T s w1 K A' (n + 1) c' (xs ++ ys) → w.grownBy w1 (Value.slice A n c).ownBlock → (∀ k, (Value.slice A' (n + 1) c').ownBlock = some k → (Value.slice A n c).ownBlock = some k ∨ w.heap.size ≤ k) → wpList P ops Q rest (a.put op.dst (.slice A' (n + 1) c')) w1) :
    wpList P ops Q (op :: rest) a w := by
  refine wpList_plain hgd fun K1 hK1 => ?_
  obtain ⟨A', c', w1, hr, h1, h2, h3, _⟩ := run_append_K (P := P) z by_ w K t op.type ht hinfo hzs hs0 hb48 A n c xs hown ad c2 ys hys hy1 hy h63 hn63 hK
  unfold Oper.wp execOp
  simp only [ho, resolve, invoke, builtin, Sem.run_bind, Sem.run_pure, Result.andThen_ok, List.map_toArray, List.map_cons, List.map_nil, hs, hx, hr]
  exact hK1 _ _ (h A' c' w1 h1 h2 h3)
end Go.Proofs.YtaogegpfapfchaaGreatDoor

/- How a house lies in memory: each block has an owner; a page is an editor and a leaf. -/
namespace Go.Proofs.YtaogegpfapfchaaGreatDoor
open Go.RowKit
set_option linter.unusedVariables false

/-- Only blocks of owners in S turn, and the owners stay. -/
structure Goes (own own' : Nat → Nat) (S : Nat → Prop) (w w' : World) : Prop where
  os : w'.os = w.os
  tape : w'.tape = w.tape
  output : w'.output = w.output
  size : w.heap.size ≤ w'.heap.size
  block : ∀ k, k < w.heap.size → ¬ S (own k) → w'.heap[k]? = w.heap[k]?
  same : ∀ k, k < w.heap.size → own' k = own k
section
variable {own own' own'' : Nat → Nat} {S S' : Nat → Prop} {w w' w'' : World}
theorem Goes.refl (own : Nat → Nat) (S : Nat → Prop) (w : World) : Goes own own S w w := ⟨rfl, rfl, rfl, Nat.le_refl _, fun _ _ _ => rfl, fun _ _ => rfl⟩
theorem Goes.trans (h : Goes own own' S w w') (k : Goes own' own'' S w' w'') : Goes own own'' S w w'' :=
  ⟨k.os.trans h.os, k.tape.trans h.tape, k.output.trans h.output, Nat.le_trans h.size k.size, fun j hj hs => (k.block j (Nat.lt_of_lt_of_le hj h.size) (by rw [h.same j hj]; exact hs)).trans (h.block j hj hs),
    fun j hj => (k.same j (Nat.lt_of_lt_of_le hj h.size)).trans (h.same j hj)⟩
theorem Goes.wide (h : Goes own own' S w w') (hs : ∀ k, S k → S' k) : Goes own own' S' w w' := ⟨h.os, h.tape, h.output, h.size, fun k hk hn => h.block k hk fun hq => hn (hs _ hq), h.same⟩
theorem Goes.of_below (h : Below w.heap.size w w') : Goes own own S w w' := ⟨h.os, h.tape, h.output, h.size, fun k hk _ => h.block k hk, fun _ _ => rfl⟩
/-- What is new belongs to x. -/
def updO (own : Nat → Nat) (n x : Nat) : Nat → Nat := fun k => if n ≤ k then x else own k
theorem updO_lt (own : Nat → Nat) {n x k : Nat} (h : k < n) : updO own n x k = own k := by unfold updO; rw [if_neg (by omega)]
theorem updO_ge (own : Nat → Nat) {n x k : Nat} (h : n ≤ k) : updO own n x k = x := by unfold updO; rw [if_pos h]
theorem Goes.of_belowU (h : Below w.heap.size w w') (x : Nat) : Goes own (updO own w.heap.size x) S w w' := ⟨h.os, h.tape, h.output, h.size, fun k hk _ => h.block k hk, fun k hk => updO_lt own hk⟩
/-- The editor's own blocks. -/
def EdIn (own : Nat → Nat) (w : World) (ge : Nat) (t : ByteArray) (B O : List ByteArray) : Prop := EdAt w (fun k => k < w.heap.size ∧ own k ≠ ge) ge t B O
theorem EdIn.own_ {ge : Nat} {t : ByteArray} {B O : List ByteArray} (h : EdIn own w ge t B O) : own ge = ge := by
  have := h.off
  have := h.lt
  by_cases e : own ge = ge
  · exact e
  · exact absurd ⟨this, e⟩ h.off
theorem EdIn.apart {ge : Nat} {t : ByteArray} {B O : List ByteArray} (h : EdIn own w ge t B O) (hg : Goes own own' S w w') (hS : ¬ S ge) : EdIn own' w' ge t B O := by
  have how := h.own_
  have hlt := h.lt
  obtain ⟨⟨Ab, nb, cb, Ao, no, co, h1, h2, h3, h4⟩, h5⟩ := h
  have key : ∀ k, ¬ (k < w.heap.size ∧ own k ≠ ge) → k < w.heap.size → own k = ge := fun k hk hl => by
    by_cases e : own k = ge
    · exact e
    · exact absurd ⟨hl, e⟩ hk
  have hb : ∀ k, k < w.heap.size → own k = ge → w'.heap[k]? = w.heap[k]? := fun k hk e => hg.block k hk (by rw [e]; exact hS)
  refine ⟨⟨Ab, nb, cb, Ao, no, co, ?_, (h2.keep fun k hk _ hl => hb k hl (key k hk hl)).weak fun k hk => ?_, (h3.keep fun k hk _ hl => hb k hl (key k hk hl)).weak fun k hk => ?_, h4⟩, fun hq => ?_⟩
  · unfold Blk; rw [hb ge hlt how]; exact h1
  · have := h2.lt k hk
    rintro ⟨_, hq⟩
    exact hq (by rw [hg.same k this.2]; exact key k this.1 this.2)
  · have := h3.lt k hk
    rintro ⟨_, hq⟩
    exact hq (by rw [hg.same k this.2]; exact key k this.1 this.2)
  · exact hq.2 (by rw [hg.same ge hlt]; exact how)
theorem EdIn.kept {ge : Nat} {t : ByteArray} {B O : List ByteArray} (h : EdAt w' (fun k => k < w.heap.size ∧ own k ≠ ge) ge t B O) (hk : Kept (fun k => k < w.heap.size ∧ own k ≠ ge) w w') :
    EdIn (updO own w.heap.size ge) w' ge t B O ∧ Goes own (updO own w.heap.size ge) (· = ge) w w' := by
  refine ⟨EdAt.weak h fun k ⟨h1, h2⟩ => ?_, ⟨hk.os, hk.tape, hk.output, hk.size, fun k h1 h2 => hk.block k ⟨h1, h2⟩, fun k hk => updO_lt own hk⟩⟩
  by_cases hl : k < w.heap.size
  · exact .inl ⟨hl, by rwa [updO_lt own hl] at h2⟩
  · exact absurd (updO_ge own (Nat.le_of_not_lt hl)) h2
/-- Where a page's parts lie. -/
structure Pl where
  ge : Nat
  gl : Nat
  g : Nat
structure LeafIn (own : Nat → Nat) (w : World) (gl g : Nat) (t : ByteArray) (H : LH) (j : Nat) : Prop where
  at_ : LeafAt w gl g t H j
  ol : own gl = gl
  og : own g = gl
theorem LeafIn.apart {gl g j : Nat} {t : ByteArray} {H : LH} (h : LeafIn own w gl g t H j) (hg : Goes own own' S w w') (hS : ¬ S gl) : LeafIn own' w' gl g t H j :=
  ⟨h.at_.keep (hg.block gl h.at_.lt.1 (by rw [h.ol]; exact hS)) (hg.block g h.at_.lt.2 (by rw [h.og]; exact hS)), (hg.same gl h.at_.lt.1).trans h.ol, (hg.same g h.at_.lt.2).trans h.og⟩
theorem LeafIn.goes {gl g j j' : Nat} {t t' : ByteArray} {H H' : LH} (h : LeafIn own w gl g t H j) (h' : LeafAt w' gl g t' H' j') (ho : Only2 gl g w w') : LeafIn own w' gl g t' H' j' ∧ Goes own own (· = gl) w w' :=
  ⟨⟨h', h.ol, h.og⟩, ho.os, ho.tape, ho.output, ho.size, fun k hk hn => ho.block k hk (fun e => hn (by rw [e]; exact h.ol)) (fun e => hn (by rw [e]; exact h.og)), fun _ _ => rfl⟩
theorem LeafIn.goesU {gl g g' j j' : Nat} {t t' : ByteArray} {H H' : LH} (h : LeafIn own w gl g t H j) (h' : LeafAt w' gl g' t' H' j') (hg' : w.heap.size ≤ g') (ho : Only2 gl gl w w') : LeafIn (updO own w.heap.size gl) w' gl g' t' H' j' ∧ Goes own (updO own w.heap.size gl) (· = gl) w w' :=
  ⟨⟨h', by rw [updO_lt own h.at_.lt.1]; exact h.ol, updO_ge own hg'⟩, ho.os, ho.tape, ho.output, ho.size, fun k hk hn => ho.block k hk (fun e => hn (by rw [e]; exact h.ol)) (fun e => hn (by rw [e]; exact h.ol)), fun k hk => updO_lt own hk⟩
/-- A page's parts lie there. -/
structure PageAt (own : Nat → Nat) (w : World) (x : Pl) (p : Pg) : Prop where
  ed : EdIn own w x.ge p.t p.B p.O
  leaf : LeafIn own w x.gl x.g p.t p.H p.j
  ne : x.ge ≠ x.gl
  ok : p.Ok
theorem PageAt.apart {x : Pl} {p : Pg} (h : PageAt own w x p) (hg : Goes own own' S w w') (h1 : ¬ S x.ge) (h2 : ¬ S x.gl) : PageAt own' w' x p := ⟨h.ed.apart hg h1, h.leaf.apart hg h2, h.ne, h.ok⟩
/-- The cells of a page in the row. -/
def cPage (y : Pl × Pg) : List Value := [.string y.2.name, .pointer (some ⟨y.1.ge, 0, none⟩), .pointer (some ⟨y.1.gl, 0, none⟩)]
theorem cPage_len (y : Pl × Pg) : (cPage y).length = 3 := rfl
def idsH (gh : Nat) (Q : List (Pl × Pg)) : List Nat := gh :: Q.flatMap fun y => [y.1.ge, y.1.gl]
structure HouseAt (own : Nat → Nat) (w : World) (gh : Nat) (Q : List (Pl × Pg)) : Prop where
  ex : ∃ A n c, Blk w gh 42 #[.slice A n c] ∧ OwnK 66 3 w (fun k => k < w.heap.size ∧ own k ≠ gh) A n c (Q.flatMap cPage) ∧ Q.length = n ∧ (Value.slice A n c).ownBlock ≠ some gh
  own_ : own gh = gh
  page : ∀ y ∈ Q, PageAt own w y.1 y.2
  ids : (idsH gh Q).Nodup
theorem HouseAt.apart {gh : Nat} {Q : List (Pl × Pg)} (h : HouseAt own w gh Q) (hg : Goes own own' S w w') (hS : ∀ k ∈ idsH gh Q, ¬ S k) : HouseAt own' w' gh Q := by
  obtain ⟨⟨A, n, c, h1, h2, h3, h3a⟩, h4, h5, h6⟩ := h
  have hgh := hS gh (List.mem_cons_self ..)
  have key : ∀ k, ¬ (k < w.heap.size ∧ own k ≠ gh) → k < w.heap.size → own k = gh := fun k hk hl => by
    by_cases e : own k = gh
    · exact e
    · exact absurd ⟨hl, e⟩ hk
  have hb : ∀ k, k < w.heap.size → own k = gh → w'.heap[k]? = w.heap[k]? := fun k hk e => hg.block k hk (by rw [e]; exact hgh)
  refine ⟨⟨A, n, c, ?_, (h2.keep fun k hk _ hl => hb k hl (key k hk hl)).weak fun k hk => ?_, h3, h3a⟩, (hg.same gh h1.lt).trans h4, fun y hy => (h5 y hy).apart hg (hS _ ?_) (hS _ ?_), h6⟩
  · unfold Blk; rw [hb gh h1.lt h4]; exact h1
  · have := h2.lt k hk
    rintro ⟨_, hq⟩
    exact hq (by rw [hg.same k this.2]; exact key k this.1 this.2)
  · exact List.mem_cons_of_mem _ (List.mem_flatMap.2 ⟨y, hy, by simp⟩)
  · exact List.mem_cons_of_mem _ (List.mem_flatMap.2 ⟨y, hy, by simp⟩)
end
end Go.Proofs.YtaogegpfapfchaaGreatDoor

/- The walk of a leaf's Set; edits stay beside a leaf. -/
namespace Go.Proofs.YtaogegpfapfchaaGreatDoor
open Go.RowKit
set_option linter.unusedVariables false

theorem leafSet_any (gl g j : Nat) (t : ByteArray) (H : LH) (s : ByteArray) (hs : s.size ≤ 200) (w : World) (h : LeafAt w gl g t H j) : Calls Tryz.prog 99 #[.pointer (some ⟨gl, 0, none⟩), .string s] w fun e w' =>
    Only2 gl g w w' ∧ ((fits H s ∧ e = .returned (.int .i64 0) ∧ LeafAt w' gl g s (H ++ [(98 :: s.data.toList, s)]) j) ∨ (¬ fits H s ∧ e = .returned (.int .i64 11) ∧ LeafAt w' gl g t H j)) := by
  have q : decide ((200 : Int) < (s.size : Int)) = false := decide_eq_false (by omega)
  have q' : decide (200 < s.size) = false := decide_eq_false (by omega)
  have hbs : ((⟨#[98]⟩ : ByteArray) ++ s).size = s.size + 1 := by rw [ByteArray.size_append]; show 1 + s.size = _; omega
  have hca : ∀ w, (Op.stringOp .add ⟨#[98]⟩ s).run Tryz.prog w = .ok (.string ((⟨#[98]⟩ : ByteArray) ++ s)) w := fun w => run_string_add_sum w _ _ (by show 1 + s.size ≤ _; omega)
  have c1 := h.c1
  have hd := h.disk
  by_cases hf : fits H s
  case neg =>
    have hf2 : 4000 < (framesL (recs H)).length + (s.size + 7) := by unfold fits at hf; omega
    have Ap := Lib.hid (append_full g _ (lb (framesL (recs H))) ((⟨#[98]⟩ : ByteArray) ++ s) (by omega) (by rw [lb_dsize]; omega) (by rw [lb_dsize]; omega) w h.log)
    clear hbs
    go_enter Tryz.func99, Tryz.ntmps99
    go_wp2_with fail
    refine Ap.out.mono ?_
    rintro e w3 ⟨rfl, hl3, ho3⟩
    go_wp2
    go_ret
    exact ⟨Only2.of_only ho3, .inr ⟨hf, rfl, (ho3.block gl h.lt.1 (fun e => h.ne (by injection e))).trans h.blk, hl3, h.hist, h.text, h.jle, h.disk⟩⟩
  have hf2 : (framesL (recs H)).length + (s.size + 7) ≤ 4000 := hf
  have Ap := Lib.hid (append_ok g _ (lb (framesL (recs H))) ((⟨#[98]⟩ : ByteArray) ++ s) (by omega) (by rw [lb_dsize]; omega) w h.log)
  have hbl := app98 98 s
  have hrec : recs (H ++ [(98 :: s.data.toList, s)]) = recs H ++ [98 :: s.data.toList] := by rw [recs_app]; rfl
  have hdisk : lb (framesL (recs H)) ++ lb (frameL ((⟨#[98]⟩ : ByteArray) ++ s).data.toList) = lb (framesL (recs (H ++ [(98 :: s.data.toList, s)]))) := ba_ext (by
    rw [list_app, lb_list, lb_list, lb_list, hbl, hrec, frames_snoc])
  rw [hdisk] at Ap
  have hd2 : (framesL (recs (H ++ [(98 :: s.data.toList, s)]))).length ≤ 4000 := by rw [base_more]; omega
  have hlt : (recs (H ++ [(98 :: s.data.toList, s)])).take j = (recs H).take j := by rw [hrec, List.take_append_of_le_length (by rw [recs_len]; exact h.jle)]
  have Hlt := Lib.hid hlt
  have Hd2 := Lib.hid hd2
  clear hbs hbl hrec hdisk hd2 hlt hf2
  go_enter Tryz.func99, Tryz.ntmps99
  go_wp2_with fail
  refine Ap.out.mono ?_
  rintro e w3 ⟨rfl, hl3, ho3⟩
  have hb3 : Blk w3 gl 140 #[.string t, .pointer (some ⟨g, 0, none⟩)] := (ho3.block gl h.lt.1 (fun e => h.ne (by injection e))).trans h.blk
  have f0 := Blk.frozen hb3 0
  have d0 : w3.cell? ⟨gl, 0, none⟩ = some (.string t) := Blk.cell hb3 0
  clear Ap hca
  go_wp2
  go_ret
  refine ⟨(Only2.of_only ho3).trans (Only2.set 0 (.string s)), .inl ⟨hf, rfl, ?_, ?_, ?_, ?_, Nat.le_trans h.jle (by rw [List.length_append]; omega), Hd2.out⟩⟩
  · exact Blk.set_ hb3 0 (.string s)
  · rw [Hlt.out]; exact Blk.far hl3 (fun e => h.ne e.symm) _
  · exact hist_snoc h.hist (LStep.base s hs)
  · rw [endT_snoc]
/-- Edits that lie there still lie there behind what turns a leaf alone. -/
theorem edits_beside {w w' : World} {gl g j n c : Nat} {t : ByteArray} {H : LH} {A : Option Addr} {l : List Ed} (h : LeafAt w gl g t H j) (hl : EdsAt w A n c l) (ho : Only2 gl g w w') : EdsAt w' A n c l := by
  refine ⟨hl.len, hl.small, hl.ok, hl.at_.1, fun hn => ?_⟩
  obtain ⟨b, o, rfl, hb, hc⟩ := hl.at_.2 hn
  have hl0 : 0 < l.length := by rw [hl.len]; exact hn
  have hlen : (l.flatMap cEdit).length = l.length * 3 := flat_length cEdit 3 cEdit_len l
  obtain ⟨x, r, rfl⟩ : ∃ x r, l = x :: r := by
    cases l with
    | nil => exact absurd hl0 (Nat.lt_irrefl _)
    | cons x r => exact ⟨x, r, rfl⟩
  have c0 := hc 0 (by rw [hlen]; omega)
  have c1 := hc 1 (by rw [hlen]; omega)
  have c2 := hc 2 (by rw [hlen]; omega)
  have e0 : ((x :: r).flatMap cEdit).getD 0 undef = .int .i64 x.1 := rfl
  have e1 : ((x :: r).flatMap cEdit).getD 1 undef = .int .i64 x.2.1 := rfl
  have e2 : ((x :: r).flatMap cEdit).getD 2 undef = .string x.2.2 := rfl
  rw [e0] at c0
  rw [e1] at c1
  rw [e2] at c2
  have n1 : b ≠ gl := by
    rintro rfl
    rw [Blk.cell h.blk] at c0
    match o, c0 with
    | 0, c0 => cases c0
    | 1, c0 => cases c0
    | o + 2, c0 => cases c0
  have n2 : b ≠ g := by
    rintro rfl
    have hB : Blk w b 162 _ := h.log
    rw [hB.cell] at c0 c1
    match o, c0, c1 with
    | 0, c0, _ => cases c0
    | 1, _, c1 => cases c1
    | o + 2, c0, _ => cases c0
  have hbk := ho.block b hb n1 n2
  refine ⟨b, o, rfl, Nat.lt_of_lt_of_le hb ho.size, fun j hj => ?_⟩
  rw [← hc j hj]
  simp only [World.cell?, hbk]
end Go.Proofs.YtaogegpfapfchaaGreatDoor

/- The walk of a page's edit. -/
namespace Go.Proofs.YtaogegpfapfchaaGreatDoor
open Go.RowKit
set_option linter.unusedVariables false

theorem okOf {w : World} {gl g : Nat} {p : Pg} (h : LeafAt w gl g p.t p.H p.j) (h1 : p.B.length + p.O.length ≤ 30) (h2 : ∀ t ∈ p.B, t.size ≤ 200) (h3 : ∀ t ∈ p.O, t.size ≤ 200) : p.Ok := ⟨h1, h2, h3, h.tsize, h.hist, h.text, h.jle, h.disk⟩
/-- The cells of a page, in a row of another owner. -/
structure RowAt (own : Nat → Nat) (w : World) (gp o : Nat) (x : Pl) (name : ByteArray) : Prop where
  lt : gp < w.heap.size
  c0 : w.cell? ⟨gp, o, none⟩ = some (.string name)
  c1 : w.cell? ⟨gp, o + 1, none⟩ = some (.pointer (some ⟨x.ge, 0, none⟩))
  c2 : w.cell? ⟨gp, o + 2, none⟩ = some (.pointer (some ⟨x.gl, 0, none⟩))
  f1 : w.frozen? ⟨gp, o + 1, none⟩ = false
  ne1 : own gp ≠ x.ge
  ne2 : own gp ≠ x.gl
theorem RowAt.apart {own own' : Nat → Nat} {S : Nat → Prop} {w w' : World} {gp o : Nat} {x : Pl} {name : ByteArray} (h : RowAt own w gp o x name) (hg : Goes own own' S w w') (hS : ¬ S (own gp)) : RowAt own' w' gp o x name := by
  have hb := hg.block gp h.lt hS
  refine ⟨Nat.lt_of_lt_of_le h.lt hg.size, ?_, ?_, ?_, ?_, by rw [hg.same gp h.lt]; exact h.ne1, by rw [hg.same gp h.lt]; exact h.ne2⟩
  · rw [← h.c0]; simp only [World.cell?, hb]
  · rw [← h.c1]; simp only [World.cell?, hb]
  · rw [← h.c2]; simp only [World.cell?, hb]
  · rw [← h.f1]; simp only [World.frozen?, hb]
/-- The owners of a page. -/
def ofPl (x : Pl) (k : Nat) : Prop := k = x.ge ∨ k = x.gl

set_option maxHeartbeats 1000000 in
theorem pageEdit (own : Nat → Nat) (w : World) (x : Pl) (p : Pg) (gp o : Nat) (hr : RowAt own w gp o x p.name) (h : PageAt own w x p) (ht : Tab w) (A : Option Addr) (n c : Nat) (l : List Ed) (hl : EdsAt w A n c l) :
    Calls Tryz.prog 55 #[.pointer (some ⟨gp, o, none⟩), .slice A n c] w fun e w' => ∃ own', e = .returned (.int .i64 (editP p l).1) ∧ PageAt own' w' x (editP p l).2 ∧ Goes own own' (ofPl x) w w' := by
  have hln := hl.len
  by_cases h0 : n = 0
  · subst h0
    have hnil : l = [] := List.eq_nil_of_length_eq_zero hln
    have e1 : editP p l = (5, p) := by unfold editP; rw [if_pos hnil]
    rw [e1]
    clear e1
    go_enter Tryz.func55, Tryz.ntmps55
    go_wp2
    go_ret
    exact ⟨own, rfl, h, Goes.refl _ _ _⟩
  have hpos : 0 < n := by omega
  have hne : l ≠ [] := fun e => by rw [e] at hln; exact h0 hln.symm
  have L := Lib.hid (leafEdit x.gl x.g p.j p.t p.H A n c l w ht h.leaf.at_ hl)
  have c1 := hr.c1
  have c2 := hr.c2
  have q0 : ((n : Int) == 0) = false := by rw [beq_eq_false_iff_ne]; omega
  by_cases hE : leafE p.t p.H l = 0
  case neg =>
    have e1 : editP p l = (leafE p.t p.H l, p) := by unfold editP; rw [if_neg hne, if_pos hE]
    have e2 : leafT p.t p.H l = p.t := by unfold leafT; rw [if_neg hE]
    have e3 : leafH p.t p.H l = p.H := by unfold leafH; rw [if_neg hE]
    rw [e1]
    rw [e2, e3] at L
    generalize leafE p.t p.H l = E at *
    have q1 : (E != 0) = true := by simpa using hE
    clear e1 e2 e3
    go_enter Tryz.func55, Tryz.ntmps55
    go_wp2_with fail
    refine L.out.mono ?_
    rintro e w1 ⟨rfl, hl1, ho⟩
    obtain ⟨hlf, hg⟩ := h.leaf.goes hl1 ho
    go_wp2
    go_ret
    exact ⟨own, rfl, ⟨h.ed.apart hg h.ne, hlf, h.ne, h.ok⟩, hg.wide fun k hk => .inr hk⟩
  have hck := (leafE_zero hE).1
  have e1 : editP p l = (0, { p with t := leafT p.t p.H l, B := (p.B ++ [p.t]).drop (p.B.length + 1 - 30), O := [], H := leafH p.t p.H l }) := by unfold editP; rw [if_neg hne, if_neg (by simpa using hE)]
  have e2 : leafT p.t p.H l = ⟨(app p.t.data.toList 0 l).toArray⟩ := by unfold leafT; rw [if_pos hE]
  rw [e1]
  rw [hE] at L
  have E2 := Lib.hid e2
  clear e1 hE e2
  go_enter Tryz.func55, Tryz.ntmps55
  go_wp2_with fail
  refine L.out.mono ?_
  rintro e w1 ⟨rfl, hl1, ho⟩
  obtain ⟨hlf, hg⟩ := h.leaf.goes hl1 ho
  have hed := h.ed.apart hg h.ne
  have hr1 := hr.apart hg hr.ne2
  have hls := edits_beside h.leaf.at_ hl ho
  have D := Lib.hid (do_yes x.ge p.t p.B p.O _ w1 (fun k hk => hk.1) (by have := h.ok.few; omega) hed A n c w1.heap.size l hln hck hpos hls.at_ (Nat.le_refl _))
  have d1 := hr1.c1
  clear L c1 c2
  go_wp2_with fail
  refine D.out.mono ?_
  rintro e w2 ⟨rfl, hed2, hk⟩
  obtain ⟨hed3, hg2⟩ := EdIn.kept hed2 hk
  rw [← E2.out] at hed3
  have hlf2 := hlf.apart hg2 (fun e => h.ne e.symm)
  go_wp2
  go_ret
  refine ⟨_, rfl, ⟨hed3, hlf2, h.ne, okOf hlf2.at_ ?_ ?_ ?_⟩, (hg.wide fun k hk => .inr hk).trans (hg2.wide fun k hk => .inl hk)⟩
  · have := h.ok.few
    show ((p.B ++ [p.t]).drop (p.B.length + 1 - 30)).length + 0 ≤ 30
    rw [List.length_drop, List.length_append, List.length_singleton]
    omega
  · intro t ht
    rcases List.mem_append.1 (List.mem_of_mem_drop ht) with h1 | h1
    · exact h.ok.back t h1
    · rw [List.mem_singleton.1 h1]; exact h.ok.text
  · intro t ht
    cases ht
end Go.Proofs.YtaogegpfapfchaaGreatDoor

