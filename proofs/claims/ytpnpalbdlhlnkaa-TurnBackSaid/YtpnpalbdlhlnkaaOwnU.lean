/- A row of bytes of one's own beside another one: append, string. -/
import Derived.Test.YtpnpalbdlhlnkaaOwnS
import Derived.Test.YtpnpalbdlhlnkaaPlain
namespace Go.Proofs.Ytpnpalbdlhlnkaa
open Go.RowKit
set_option linter.unusedVariables false

/-- A slice of bytes that lies anywhere in a row of one's own. -/
def OwnU (w : World) (K : Nat → Prop) (A : Option Addr) (n c : Nat) (l : List UInt8) : Prop :=
  l.length = n ∧ ((A = none ∧ n = 0 ∧ c = 0) ∨
    ∃ g o cur, A = some ⟨g, o, none⟩ ∧ ¬ K g ∧ Blk w g 5 cur ∧ n ≤ c ∧ c ≤ maxLen ∧ cur.size = o + c ∧ (cur.toList.drop o).take n = l.map b8)
section
variable {w w' : World} {K : Nat → Prop} {A : Option Addr} {n c g o : Nat} {l : List UInt8}
theorem OwnU.nil (w : World) (K : Nat → Prop) : OwnU w K none 0 0 [] := ⟨rfl, .inl ⟨rfl, rfl, rfl⟩⟩
theorem OwnU.cap (h : OwnU w K A n c l) : n ≤ c ∧ c ≤ maxLen := by
  rcases h.2 with ⟨_, h1, h2⟩ | ⟨g, o, cur, _, _, _, h1, h2, _⟩
  · omega
  · exact ⟨h1, h2⟩
theorem OwnU.keep (h : OwnU w K A n c l) (hk : ∀ k, ¬ K k → (Value.slice A n c).ownBlock = some k → k < w.heap.size → w'.heap[k]? = w.heap[k]?) : OwnU w' K A n c l := by
  refine ⟨h.1, ?_⟩
  rcases h.2 with h0 | ⟨g, o, cur, hv, hb, hg, rest⟩
  · exact .inl h0
  · exact .inr ⟨g, o, cur, hv, hb, by unfold Blk; rw [hk g hb (by rw [hv]; rfl) hg.lt]; exact hg, rest⟩
theorem OwnU.after (h : OwnU w K A n c l) (hb : Below w.heap.size w w') : OwnU w' K A n c l := h.keep fun k _ _ hk => hb.block k hk
theorem OwnU.alloc (h : OwnU w K A n c l) (o : Obj) : OwnU (w.alloc o) K A n c l := h.keep fun k _ _ hk => Below.heap_alloc w o k hk
theorem OwnU.far (h : OwnU w K A n c l) (hp : (Value.slice A n c).ownBlock ≠ some g) (i : Nat) (u : Value) : OwnU (w.setCell ⟨g, i, none⟩ u) K A n c l :=
  h.keep fun k _ hq _ => Below.heap_setCell w ⟨g, i, none⟩ u k (by rintro rfl; exact hp hq)
theorem OwnU.grown {row : Option Nat} (h : OwnU w K A n c l) (hg : w.grownBy w' row) (hp : ∀ k, row = some k → (Value.slice A n c).ownBlock ≠ some k) : OwnU w' K A n c l :=
  h.keep fun k _ hq hk => hg.block k hk (fun e => hp k e.symm hq)
theorem OwnU.lt (h : OwnU w K A n c l) : ∀ k, (Value.slice A n c).ownBlock = some k → ¬ K k ∧ k < w.heap.size := fun k hk => by
  rcases h.2 with ⟨rfl, _⟩ | ⟨g, o, cur, rfl, hb, hg, _⟩
  · cases hk
  · injection hk with hk
    subst hk
    exact ⟨hb, hg.lt⟩
theorem OwnU.weak {K' : Nat → Prop} (h : OwnU w K A n c l) (hK : ∀ k, (Value.slice A n c).ownBlock = some k → ¬ K' k) : OwnU w K' A n c l := by
  refine ⟨h.1, ?_⟩
  rcases h.2 with h0 | ⟨g, o, cur, hv, hb, rest⟩
  · exact .inl h0
  · exact .inr ⟨g, o, cur, hv, hK g (by rw [hv]; rfl), rest⟩
theorem OwnU.ne_blk {t : TypeId} {cs : Array Value} (h : OwnU w K A n c l) (hg : Blk w g t cs) (ht : 5 ≠ t) : (Value.slice A n c).ownBlock ≠ some g := fun hq => by
  rcases h.2 with ⟨rfl, _⟩ | ⟨g', o, cur, rfl, hb, hg', _⟩
  · cases hq
  · injection hq with hq
    subst hq
    have := hg'.symm.trans hg
    injection this with this
    injection this with _ this _
    exact ht this
theorem OwnU.shape (h : OwnU w K A n c l) (hn : 0 < n) : ∃ g o, A = some ⟨g, o, none⟩ ∧ g < w.heap.size := by
  rcases h.2 with ⟨_, h0, _⟩ | ⟨g, o, _, hv, _, hg, _⟩
  · omega
  · exact ⟨g, o, hv, hg.lt⟩
theorem OwnU.cell (h : OwnU w K (some ⟨g, o, none⟩) n c l) (j : Nat) (hj : j < n) : w.cell? ⟨g, o + j, none⟩ = some (b8 (l.getD j 0)) := by
  rcases h.2 with ⟨h0, _⟩ | ⟨g', o', cur, hv, hb, hg, h1, h2, h3, h4⟩
  · cases h0
  · injection hv with hv
    injection hv with hv hv2
    subst hv hv2
    rw [hg.cell, ← Array.getElem?_toList]
    have : ((cur.toList.drop o).take n)[j]? = cur.toList[o + j]? := by rw [List.getElem?_take, if_pos hj, List.getElem?_drop]
    rw [← this, h4, List.getElem?_map, List.getElem?_eq_getElem (by rw [h.1]; exact hj), List.getD_eq_getElem?_getD, List.getElem?_eq_getElem (by rw [h.1]; exact hj)]
    rfl
/-- The first of them. -/
theorem OwnU.short (h : OwnU w K A n c l) (m : Nat) (hm : m ≤ n) : OwnU w K A m c (l.take m) := by
  refine ⟨by rw [List.length_take, h.1]; omega, ?_⟩
  rcases h.2 with ⟨h0, h1, h2⟩ | ⟨g, o, cur, hv, hb, hg, h1, h2, h3, h4⟩
  · exact .inl ⟨h0, by omega, h2⟩
  · refine .inr ⟨g, o, cur, hv, hb, hg, by omega, h2, h3, ?_⟩
    rw [List.map_take, ← h4, List.take_take, Nat.min_eq_left hm]
/-- All but the first of them. -/
theorem OwnU.tail (h : OwnU w K (some ⟨g, o, none⟩) (n + 1) c l) : OwnU w K (some ⟨g, o + 1, none⟩) n (c - 1) (l.drop 1) := by
  refine ⟨by rw [List.length_drop, h.1]; omega, ?_⟩
  rcases h.2 with ⟨h0, _⟩ | ⟨g', o', cur, hv, hb, hg, h1, h2, h3, h4⟩
  · cases h0
  · injection hv with hv
    injection hv with hv hv2
    subst hv hv2
    refine .inr ⟨g, o + 1, cur, rfl, hb, hg, by omega, by omega, by omega, ?_⟩
    rw [List.map_drop, ← h4, List.drop_take, List.drop_drop]
    congr 1
end

/-- append of one byte. -/
theorem run_append_U {P : Program} (w : World) (K : Nat → Prop) (t ty : TypeId) (ht : P.underlying t = some (.slice 5)) (hinfo : (P.info? 5).map (fun i => (i.zero, i.size, i.bytes)) = some (some (.int .u8 0), 1, 1))
    (A : Option Addr) (n c : Nat) (l : List UInt8) (hown : OwnU w K A n c l) (a : Addr) (c2 : Nat) (x : UInt8) (hx : w.cell? a = some (b8 x)) (ha : a.spot = none)
    (h63 : n ≤ 8000000000000) (hK : ∀ k, K k → k < w.heap.size) :
    ∃ A' c' w', (Builtin.append_ #[t, t] ty #[.slice A n c, .slice (some a) 1 c2]).run P w = .ok (.slice A' (n + 1) c') w' ∧ OwnU w' K A' (n + 1) c' (l ++ [x]) ∧ w.grownBy w' (Value.slice A n c).ownBlock ∧
      (∀ k, (Value.slice A' (n + 1) c').ownBlock = some k → (Value.slice A n c).ownBlock = some k ∨ w.heap.size ≤ k) := by
  obtain ⟨i, hi, hz, hs1, hby⟩ := info_parts hinfo
  have hnews : ∀ j u, ([b8 x] : List Value)[j]? = some u → w.cell? (a.add j) = some u := fun j u hj => by
    cases j with
    | zero => injection hj with hj; subst hj; obtain ⟨b, o, s⟩ := a; simp only at ha; subst ha; rw [add_at, Nat.add_zero]; exact hx
    | succ j => simp at hj
  have h1 : ∀ u ∈ ([b8 x] : List Value), u.oneCell' = true := b8_one [x]
  have hll : (l ++ [x]).length = n + 1 := by rw [List.length_append, hown.1]; rfl
  rcases hown.2 with ⟨rfl, rfl, rfl⟩ | ⟨g, o, cur, rfl, hb, hg, hnc, hcm, hcs, htake⟩
  · have hl : l = [] := List.eq_nil_of_length_eq_zero hown.1
    subst hl
    have hr := run_append_nil (P := P) w t ty 5 i _ ht hi hz a 1 c2 [b8 x] (by rw [hs1]; rfl) hnews (by omega) (by omega) (by rw [hby]; decide)
    refine ⟨_, _, _, hr, ⟨hll, .inr ⟨w.heap.size, 0, _, rfl, fun hk => Nat.lt_irrefl _ (hK _ hk), Blk.new w.drew _ _, grownCap_ge w 1 0 _, grownCap_le_maxLen w 1 0 _ (by unfold maxLen; omega), ?_, ?_⟩⟩, ⟨rfl, rfl, rfl, by simp, fun k hk _ => Below.heap_alloc w.drew _ k hk⟩, fun k hk => ?_⟩
    · have := grownCap_ge w 1 0 5
      simp only [Array.size_append, List.size_toArray, size_zeroCells, List.length_singleton]
      show 1 + (_ - 1) * 1 = _
      omega
    · simp
    · have hk : w.heap.size = k := by injection hk
      exact .inr (by omega)
  · by_cases hroom : n + 1 ≤ c
    · have hf := run_firstCells_some (P := P) w i.size 1 a 1 c2 [b8 x] (by rw [hs1]; rfl) hnews
      have hst := run_storeCells_T P g (o + n) 5 (0, 0) [b8 x] 0 cur w hg (fun i _ hh => by omega) (by simp; omega) h1
      simp only [Nat.add_zero] at hst
      have hr : (Builtin.append_ #[t, t] ty #[.slice (some ⟨g, o, none⟩) n c, .slice (some a) 1 c2]).run P w =
          .ok (.slice (some ⟨g, o, none⟩) (n + 1) c) (w.setRow g (cur.toList.take (o + n) ++ [b8 x] ++ cur.toList.drop (o + n + [b8 x].length)).toArray) := by
        rw [hs1] at hf
        simp [Builtin.append_, run_underlying ht, sizeOf, typeInfo, hi, Builtin.lenOf, hroom, hf, add_at, hs1, hst]
      refine ⟨_, _, _, hr, ⟨hll, .inr ⟨g, o, _, rfl, hb, setRow_heap w g cur _ _ _ hg, hroom, hcm, ?_, ?_⟩⟩, ⟨rfl, rfl, rfl, by simp, fun k _ hk => setRow_other w g k _ (fun e => hk (by simp [Value.ownBlock, e]))⟩, fun k hk => .inl hk⟩
      · simp only [List.size_toArray, List.length_append, List.length_take, List.length_drop, Array.length_toList, List.length_singleton]; omega
      · rw [List.map_append, ← htake]
        have hlen : (cur.toList.take (o + n)).length = o + n := by rw [List.length_take, Array.length_toList]; omega
        rw [List.append_assoc, List.drop_append_of_le_length (by omega), List.drop_take, show o + n - o = n from by omega]
        have hl2 : ((cur.toList.drop o).take n).length = n := by rw [List.length_take, List.length_drop, Array.length_toList]; omega
        rw [List.take_append, List.take_of_length_le (by omega), hl2, show n + 1 - n = 1 from by omega]
        rfl
    · have holds : ∀ j u, (l.map b8)[j]? = some u → w.cell? ((⟨g, o, none⟩ : Addr).add j) = some u := fun j u hj => by
        have hj' : j < n := by have := (List.getElem?_eq_some_iff.1 hj).1; rw [List.length_map, hown.1] at this; exact this
        rw [add_at, hg.cell, ← Array.getElem?_toList, ← hj, ← htake, List.getElem?_take, if_pos hj', List.getElem?_drop]
      have hr := run_append_grow (P := P) w t ty 5 i _ ht hi hz ⟨g, o, none⟩ n c (l.map b8) (by rw [List.length_map, hown.1, hs1]; omega) holds a 1 c2 [b8 x] (by rw [hs1]; rfl) hnews (by omega) (by omega) (growslice_fits (by omega) (by rw [hby]; omega))
      refine ⟨_, _, _, hr, ⟨hll, .inr ⟨w.heap.size, 0, _, rfl, fun hk => Nat.lt_irrefl _ (hK _ hk), Blk.new w.drew _ _, grownCap_ge w (n + 1) c _, grownCap_le_maxLen w (n + 1) c _ (by unfold maxLen; omega), ?_, ?_⟩⟩, ⟨rfl, rfl, rfl, by simp, fun k hk _ => Below.heap_alloc w.drew _ k hk⟩, fun k hk => ?_⟩
      · have := grownCap_ge w (n + 1) c 5
        simp only [Array.size_append, List.size_toArray, size_zeroCells, List.length_singleton, List.length_map, hown.1]
        show n + 1 + (_ - (n + 1)) * 1 = _
        omega
      · rw [List.drop_zero, Array.toList_append, Array.toList_append, List.take_append_of_le_length (by simp [hown.1]), List.take_of_length_le (by simp [hown.1])]
        simp
      · have hk : w.heap.size = k := by injection hk
        exact .inr (by omega)

/-- append of one byte, as one step of a region that draws. -/
theorem step_append_U {P : Program} {w : World} {ops : Array Oper} {o : Oper} {a : Act} {Kq : Act → World → Prop} {Q : Exit → Act → World → Prop} {E : Prop} (hgd : o.guard = none) (s x : Operand) (t : TypeId)
    (ho : o.op = .call { callee := .builtin .append, args := #[s, x], argTypes := #[t, t] }) (K : Nat → Prop)
    (hinfo : (P.info? 5).map (fun i => (i.zero, i.size, i.bytes)) = some (some (.int .u8 0), 1, 1)) (ht : P.underlying t = some (.slice 5))
    (A : Option Addr) (n c : Nat) (l : List UInt8) (hs : a.eval s = .slice A n c) (hown : OwnU w K A n c l)
    (ad : Addr) (c2 : Nat) (y : UInt8) (hx : a.eval x = .slice (some ad) 1 c2) (hy : w.cell? ad = some (b8 y)) (had : ad.spot = none)
    (h63 : n ≤ 8000000000000) (hK : ∀ k, K k → k < w.heap.size)
    (h : ∀ A' c' w1, OwnU w1 K A' (n + 1) c' (l ++ [y]) → w.grownBy w1 (Value.slice A n c).ownBlock → (∀ k, (Value.slice A' (n + 1) c').ownBlock = some k → (Value.slice A n c).ownBlock = some k ∨ w.heap.size ≤ k) → Kq (a.put o.dst (.slice A' (n + 1) c')) w1) :
    if Region.wanted o (yielded ops a.tmps) = true then Oper.wp P o a w Kq Q else E := by
  rw [if_pos (by simp [Region.wanted, hgd])]
  obtain ⟨A', c', w1, hr, h1, h2, h3⟩ := run_append_U (P := P) w K t o.type ht hinfo A n c l hown ad c2 y hy had h63 hK
  unfold Oper.wp execOp
  simp only [ho, resolve, invoke, builtin, Sem.run_bind, Sem.run_pure, Result.andThen_ok, List.map_toArray, List.map_cons, List.map_nil, hs, hx, hr]
  exact h A' c' w1 h1 h2 h3

theorem infoU8 : (Try.prog.info? 5).map (fun i => (i.zero, i.size, i.bytes)) = some (some (.int .u8 0), 1, 1) := by kernel_rfl
theorem run_string_U {P : Program} {w : World} {K : Nat → Prop} {A : Option Addr} {n c : Nat} {l : List UInt8} (src dst : TypeId) (h : OwnU w K A n c l) (hs : P.underlying src = some (.slice 5)) (he : P.underlying 5 = some (.int .u8)) (hd : P.underlying dst = some .string) :
    (convert src dst (.slice A n c)).run P w = .ok (.string ⟨l.toArray⟩) w := by
  rcases h.2 with ⟨rfl, rfl, rfl⟩ | ⟨g, o, cur, rfl, hb, hg, h1, h2, h3, h4⟩
  · have hl : l = [] := List.eq_nil_of_length_eq_zero h.1
    subst hl
    rw [run_convert_bytes_string w src dst 5 none 0 0 hs he hd]
    simp [Conv.bytesToString]
    rfl
  · refine run_string_of w src dst 5 ⟨g, o, none⟩ n c l h.1 hs he hd fun j hj => ?_
    have := h.cell j (by rw [← h.1]; exact hj)
    rw [add_at, this, getD_some _ _ _ hj]
    rfl
end Go.Proofs.Ytpnpalbdlhlnkaa
