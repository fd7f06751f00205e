/- append of one element to a row of one's own that may be as long as an argument. -/
import Derived.Test.YtafpcekemlgclaaGreatDoorOwnK
namespace Go.Proofs.YtafpcekemlgclaaGreatDoor
open Go.RowKit
set_option linter.unusedVariables false

/-- append of one element. -/
theorem run_append_W {P : Program} {T : TypeId} {s : Nat} (z : Value) (by_ : Nat) (w : World) (K : Nat → Prop) (t ty : TypeId) (ht : P.underlying t = some (.slice T)) (hinfo : (P.info? T).map (fun i => (i.zero, i.size, i.bytes)) = some (some z, s, by_)) (hzs : z.cells.size = s) (hs0 : 0 < s) (hb48 : by_ ≤ 281474976710656)
    (A : Option Addr) (n c : Nat) (xs : List Value) (hown : OwnK T s w K A n c xs) (a : Addr) (c2 : Nat) (ys : List Value) (hys : ys.length = s) (hy1 : ∀ u ∈ ys, u.oneCell' = true) (hx : ∀ j, j < s → w.cell? (a.add j) = ys[j]?)
    (h63 : (n + 1) * by_ ≤ 140737488355328) (hn63 : n ≤ 8800000000000) (hK : ∀ k, K k → k < w.heap.size) :
    ∃ A' c' w', (Builtin.append_ #[t, t] ty #[.slice A n c, .slice (some a) 1 c2]).run P w = .ok (.slice A' (n + 1) c') w' ∧ OwnK T s w' K A' (n + 1) c' (xs ++ ys) ∧ w.grownBy w' (Value.slice A n c).ownBlock ∧
      (∀ k, (Value.slice A' (n + 1) c').ownBlock = some k → (Value.slice A n c).ownBlock = some k ∨ w.heap.size ≤ k) ∧ 0 < w'.heap.size := by
  obtain ⟨i, hi, hz, hs1, hby⟩ := info_parts hinfo
  have hnews : ∀ j u, ys[j]? = some u → w.cell? (a.add j) = some u := fun j u hj => by
    rw [hx j (by rw [← hys]; exact (List.getElem?_eq_some_iff.1 hj).1)]; exact hj
  have hll : (xs ++ ys).length = (n + 1) * s := by rw [List.length_append, hown.1, hys, Nat.add_mul, Nat.one_mul]
  rcases hown.2 with ⟨rfl, rfl, rfl⟩ | ⟨g, o, cur, rfl, hb, hg, hnc, hcm, hcs, htake⟩
  · have hl : xs = [] := List.eq_nil_of_length_eq_zero (by simpa using hown.1)
    subst hl
    have hr := run_append_nil (P := P) w t ty T i _ ht hi hz a 1 c2 ys (by rw [hs1, hys, Nat.one_mul]) hnews (by omega) (by omega) (by rw [hby]; omega)
    have hge := grownCap_ge w 1 0 T
    refine ⟨_, _, _, hr, ⟨hll, .inr ⟨w.heap.size, 0, _, rfl, fun hk => Nat.lt_irrefl _ (hK _ hk), Blk.new w.drew _ _, hge, grownCap_le_maxLen w 1 0 _ (by unfold maxLen; omega), ?_, ?_⟩⟩, ⟨rfl, rfl, rfl, by simp, fun k hk _ => Below.heap_alloc w.drew _ k hk⟩, fun k hk => ?_, by simp⟩
    · simp only [Array.size_append, List.size_toArray, size_zeroCells, hys, hzs]
      rw [Nat.sub_mul, Nat.one_mul, Nat.zero_add]
      have : 1 * s ≤ grownCap w 1 0 T * s := Nat.mul_le_mul_right _ hge
      omega
    · rw [List.drop_zero, Array.toList_append, List.take_append_of_le_length (by simp [hys]), List.take_of_length_le (by simp [hys])]
      rfl
    · have hk : w.heap.size = k := by injection hk
      exact .inr (by omega)
  · by_cases hroom : n + 1 ≤ c
    · have hle : (n + 1) * s ≤ c * s := Nat.mul_le_mul_right _ hroom
      have hns : (n + 1) * s = n * s + s := by rw [Nat.add_mul, Nat.one_mul]
      have hf := run_firstCells_some (P := P) w i.size 1 a 1 c2 ys (by rw [hs1, hys, Nat.one_mul]) hnews
      have hst := run_storeCells_T P g (o + n * s) T (0, 0) ys 0 cur w hg (fun i _ hh => by omega) (by rw [hys]; omega) hy1
      simp only [Nat.add_zero] at hst
      have hr : (Builtin.append_ #[t, t] ty #[.slice (some ⟨g, o, none⟩) n c, .slice (some a) 1 c2]).run P w =
          .ok (.slice (some ⟨g, o, none⟩) (n + 1) c) (w.setRow g (cur.toList.take (o + n * s) ++ ys ++ cur.toList.drop (o + n * s + ys.length)).toArray) := by
        rw [hs1] at hf
        simp [Builtin.append_, run_underlying ht, sizeOf, typeInfo, hi, Builtin.lenOf, hroom, hf, add_at, hs1, hst]
      refine ⟨_, _, _, hr, ⟨hll, .inr ⟨g, o, _, rfl, hb, setRow_heap w g cur _ _ _ hg, hroom, hcm, ?_, ?_⟩⟩, ⟨rfl, rfl, rfl, by simp, fun k _ hk => setRow_other w g k _ (fun e => hk (by simp [Value.ownBlock, e]))⟩, fun k hk => .inl hk, ?_⟩
      · simp only [List.size_toArray, List.length_append, List.length_take, List.length_drop, Array.length_toList, hys]; omega
      · rw [← htake]
        have hlen : (cur.toList.take (o + n * s)).length = o + n * s := by rw [List.length_take, Array.length_toList]; omega
        rw [List.append_assoc, List.drop_append_of_le_length (by omega), List.drop_take, show o + n * s - o = n * s from by omega]
        have hl2 : ((cur.toList.drop o).take (n * s)).length = n * s := by rw [List.length_take, List.length_drop, Array.length_toList]; omega
        rw [List.take_append, List.take_of_length_le (by omega), hl2, show (n + 1) * s - n * s = s from by omega, List.take_append_of_le_length (by omega), List.take_of_length_le (l := ys) (by omega)]
      · have := hg.lt
        simp only [World.setRow]
        simp
        omega
    · have hge := grownCap_ge w (n + 1) c T
      have holds : ∀ j u, xs[j]? = some u → w.cell? ((⟨g, o, none⟩ : Addr).add j) = some u := fun j u hj => by
        have hj' : j < n * s := by have := (List.getElem?_eq_some_iff.1 hj).1; rw [hown.1] at this; exact this
        rw [add_at, hg.cell, ← Array.getElem?_toList, ← hj, ← htake, List.getElem?_take, if_pos hj', List.getElem?_drop]
      have hr := run_append_grow (P := P) w t ty T i _ ht hi hz ⟨g, o, none⟩ n c xs (by rw [hown.1, hs1]) holds a 1 c2 ys (by rw [hs1, hys, Nat.one_mul]) hnews (by omega) (by omega) (growslice_fits (by omega) (by rw [hby]; omega))
      refine ⟨_, _, _, hr, ⟨hll, .inr ⟨w.heap.size, 0, _, rfl, fun hk => Nat.lt_irrefl _ (hK _ hk), Blk.new w.drew _ _, hge, grownCap_le_maxLen w (n + 1) c _ (by unfold maxLen; omega), ?_, ?_⟩⟩, ⟨rfl, rfl, rfl, by simp, fun k hk _ => Below.heap_alloc w.drew _ k hk⟩, fun k hk => ?_, by simp⟩
      · have hle2 : (n + 1) * s ≤ grownCap w (n + 1) c T * s := Nat.mul_le_mul_right _ hge
        simp only [Array.size_append, List.size_toArray, size_zeroCells, hys, hzs, hown.1]
        rw [Nat.sub_mul]
        have hns : (n + 1) * s = n * s + s := by rw [Nat.add_mul, Nat.one_mul]
        omega
      · rw [List.drop_zero, Array.toList_append, Array.toList_append, List.take_append_of_le_length (by rw [← hll]; simp), List.take_of_length_le (by rw [← hll]; simp)]
      · have hk : w.heap.size = k := by injection hk
        exact .inr (by omega)

/-- append of one element, at the operation. -/
theorem wpList_append_W {P : Program} {w : World} {ops : Array Oper} {rest : List Oper} {op : Oper} {a : Act} {Q : Exit → Act → World → Prop} {T : TypeId} {s : Nat} (hgd : op.guard = none) (x y : Operand) (t : TypeId)
    (ho : op.op = .call { callee := .builtin .append, args := #[x, y], argTypes := #[t, t] }) (K : Nat → Prop) (z : Value) (by_ : Nat)
    (hinfo : (P.info? T).map (fun i => (i.zero, i.size, i.bytes)) = some (some z, s, by_)) (ht : P.underlying t = some (.slice T)) (hzs : z.cells.size = s) (hs0 : 0 < s) (hb48 : by_ ≤ 281474976710656)
    (A : Option Addr) (n c : Nat) (xs : List Value) (hs : a.eval x = .slice A n c) (hown : OwnK T s w K A n c xs)
    (ad : Addr) (c2 : Nat) (ys : List Value) (hx : a.eval y = .slice (some ad) 1 c2) (hys : ys.length = s) (hy1 : ∀ u ∈ ys, u.oneCell' = true) (hy : ∀ j, j < s → w.cell? (ad.add j) = ys[j]?)
    (h63 : (n + 1) * by_ ≤ 140737488355328) (hn63 : n ≤ 8800000000000) (hK : ∀ k, K k → k < w.heap.size)
    (h : ∀ A' c' w1, OwnK T s w1 K A' (n + 1) c' (xs ++ ys) → w.grownBy w1 (Value.slice A n c).ownBlock → (∀ k, (Value.slice A' (n + 1) c').ownBlock = some k → (Value.slice A n c).ownBlock = some k ∨ w.heap.size ≤ k) → wpList P ops Q rest (a.put op.dst (.slice A' (n + 1) c')) w1) :
    wpList P ops Q (op :: rest) a w := by
  refine wpList_plain hgd fun K1 hK1 => ?_
  obtain ⟨A', c', w1, hr, h1, h2, h3, _⟩ := run_append_W (P := P) z by_ w K t op.type ht hinfo hzs hs0 hb48 A n c xs hown ad c2 ys hys hy1 hy h63 hn63 hK
  unfold Oper.wp execOp
  simp only [ho, resolve, invoke, builtin, Sem.run_bind, Sem.run_pure, Result.andThen_ok, List.map_toArray, List.map_cons, List.map_nil, hs, hx, hr]
  exact hK1 _ _ (h A' c' w1 h1 h2 h3)
end Go.Proofs.YtafpcekemlgclaaGreatDoor
