/- A row of bytes of the call's own of which no cell is frozen: what '[]byte(s)' gives, what append makes of it, what is stored into it, what 'string(b[:m])' reads. -/
import Derived.Test.YtpnpalbdlhlnkaaLib
import Derived.Laws.IdiomStrings
import Derived.Lib.FrozenHead
namespace Go.Proofs.Ytpnpalbdlhlnkaa
open Go.RowKit
set_option linter.unusedVariables false

/-- One byte's cell. -/
def b8 (x : UInt8) : Value := .int .u8 (x.toNat : Int)
theorem b8_one (l : List UInt8) : ∀ u ∈ l.map b8, u.oneCell' = true := fun u hu => by obtain ⟨x, _, rfl⟩ := List.mem_map.1 hu; rfl

/-- The slice lies in a row of the call's own, and no cell of the row is frozen. -/
def OwnB (w : World) (base : Nat) (e : TypeId) (A : Option Addr) (n c : Nat) (l : List UInt8) : Prop :=
  l.length = n ∧ ((A = none ∧ n = 0 ∧ c = 0) ∨
    ∃ g cur fz, A = some ⟨g, 0, none⟩ ∧ base ≤ g ∧ w.heap[g]? = some (.cells cur e fz) ∧ (∀ i, i < cur.size → ¬ (fz.1 ≤ i ∧ i < fz.2)) ∧ n ≤ c ∧ c ≤ maxLen ∧ cur.size = c ∧ cur.toList.take n = l.map b8)

section
variable {w w' : World} {base g n c : Nat} {e : TypeId} {A : Option Addr} {l : List UInt8}
theorem OwnB.nil (w : World) (base : Nat) (e : TypeId) : OwnB w base e none 0 0 [] := ⟨rfl, .inl ⟨rfl, rfl, rfl⟩⟩
theorem OwnB.len (h : OwnB w base e A n c l) : l.length = n := h.1
theorem OwnB.cap (h : OwnB w base e A n c l) : n ≤ c ∧ c ≤ maxLen := by
  rcases h.2 with ⟨_, h1, h2⟩ | ⟨g, cur, fz, _, _, _, _, h1, h2, _⟩
  · omega
  · exact ⟨h1, h2⟩
theorem OwnB.of_own (h : w.ownsRow base e 1 (.slice A n c) n (l.map b8)) : OwnB w base e A n c l := by
  refine ⟨by have := h.1; rw [List.length_map] at this; omega, ?_⟩
  rcases h.2 with ⟨hv, h0⟩ | ⟨g, cap, cur, hv, hb, hg, h1, h2, h3, h4⟩
  · injection hv with e1 e2 e3
    exact .inl ⟨e1, h0, e3⟩
  · injection hv with e1 e2 e3
    subst e3
    exact .inr ⟨g, cur, (0, 0), e1, hb, hg, fun i _ hh => by omega, h1, h2, by omega, by rw [Nat.mul_one] at h4; exact h4⟩
theorem OwnB.drewN (h : OwnB w base e A n c l) (k : Nat) : OwnB (w.drewN k) base e A n c l := h
theorem OwnB.drew (h : OwnB w base e A n c l) : OwnB w.drew base e A n c l := h
theorem OwnB.lt (h : OwnB w base e (some ⟨g, 0, none⟩) n c l) : base ≤ g ∧ g < w.heap.size := by
  rcases h.2 with ⟨h0, _⟩ | ⟨g', cur, fz, hv, hb, hg, _⟩
  · cases h0
  · injection hv with hv
    injection hv with hv _
    subst hv
    exact ⟨hb, (Array.getElem?_eq_some_iff.1 hg).1⟩
theorem OwnB.keep (h : OwnB w base e A n c l) (hk : ∀ k, base ≤ k → k < w.heap.size → w'.heap[k]? = w.heap[k]?) : OwnB w' base e A n c l := by
  refine ⟨h.1, ?_⟩
  rcases h.2 with h0 | ⟨g, cur, fz, hv, hb, hg, rest⟩
  · exact .inl h0
  · exact .inr ⟨g, cur, fz, hv, hb, by rw [hk g hb (Array.getElem?_eq_some_iff.1 hg).1]; exact hg, rest⟩
theorem OwnB.below (h : OwnB w base e A n c l) (hb : Below w.heap.size w w') : OwnB w' base e A n c l := h.keep fun k _ hk => hb.block k hk
theorem OwnB.alloc (h : OwnB w base e A n c l) (o : Obj) : OwnB (w.alloc o) base e A n c l := h.keep fun k _ hk => Below.heap_alloc w o k hk
theorem OwnB.shape (h : OwnB w base e A n c l) (hn : 0 < n) : ∃ g, A = some ⟨g, 0, none⟩ := by
  rcases h.2 with ⟨_, h0, _⟩ | ⟨g, _, _, hv, _⟩
  · omega
  · exact ⟨g, hv⟩
theorem OwnB.cell (h : OwnB w base e (some ⟨g, 0, none⟩) n c l) (j : Nat) (hj : j < n) : w.cell? ⟨g, j, none⟩ = some (.int .u8 ((l.getD j 0).toNat : Int)) := by
  rcases h.2 with ⟨h0, _⟩ | ⟨g', cur, fz, hv, hb, hg, hz, h1, h2, h3, h4⟩
  · cases h0
  · injection hv with hv
    injection hv with hv _
    subst hv
    rw [cell_of_row w g j cur e fz hg, ← Array.getElem?_toList]
    have : (cur.toList.take n)[j]? = cur.toList[j]? := by rw [List.getElem?_take, if_pos hj]
    rw [← this, h4, List.getElem?_map, List.getElem?_eq_getElem (by rw [h.1]; exact hj), List.getD_eq_getElem?_getD, List.getElem?_eq_getElem (by rw [h.1]; exact hj)]
    rfl
theorem OwnB.frozen (h : OwnB w base e (some ⟨g, 0, none⟩) n c l) (j : Nat) (hj : j < n) : w.frozen? ⟨g, j, none⟩ = false := by
  rcases h.2 with ⟨h0, _⟩ | ⟨g', cur, fz, hv, hb, hg, hz, h1, h2, h3, h4⟩
  · cases h0
  · injection hv with hv
    injection hv with hv _
    subst hv
    obtain ⟨lo, hi⟩ := fz
    have := hz j (by omega)
    simp only [World.frozen?, hg, Bool.and_eq_false_iff, decide_eq_false_iff_not]
    simp only at this
    omega
/-- Fewer of them. -/
theorem OwnB.short (h : OwnB w base e A n c l) (m : Nat) (hm : m ≤ n) : OwnB w base e A m c (l.take m) := by
  refine ⟨by rw [List.length_take, h.1]; omega, ?_⟩
  rcases h.2 with ⟨h0, h1, h2⟩ | ⟨g, cur, fz, hv, hb, hg, hz, h1, h2, h3, h4⟩
  · exact .inl ⟨h0, by omega, h2⟩
  · refine .inr ⟨g, cur, fz, hv, hb, hg, hz, by omega, h2, h3, ?_⟩
    rw [List.map_take, ← h4, List.take_take, Nat.min_eq_left hm]
/-- A byte stored. -/
theorem OwnB.set (h : OwnB w base e (some ⟨g, 0, none⟩) n c l) (k : Nat) (hk : k < n) (x : UInt8) : OwnB (w.setCell ⟨g, k, none⟩ (.int .u8 (x.toNat : Int))) base e (some ⟨g, 0, none⟩) n c (l.set k x) := by
  refine ⟨by rw [List.length_set]; exact h.1, ?_⟩
  rcases h.2 with ⟨h0, _⟩ | ⟨g', cur, fz, hv, hb, hg, hz, h1, h2, h3, h4⟩
  · cases h0
  · injection hv with hv
    injection hv with hv _
    subst hv
    refine .inr ⟨g, cur.setIfInBounds k (.int .u8 (x.toNat : Int)), fz, rfl, hb, ?_, by simpa using hz, h1, h2, by simpa using h3, ?_⟩
    · rw [setCell_eq_setRow w g k cur e fz _ hg]
      exact setRow_heap w g cur _ e _ hg
    · rw [Array.toList_setIfInBounds, List.map_set, ← h4, List.take_set]
      rfl
/-- What '[]byte(s)' gives. -/
theorem OwnB.made (s : ByteArray) (c : Nat) (hc : s.size ≤ c) (hm : c ≤ maxLen) (e : TypeId) (w W : World)
    (hW : (w.alloc (.cells (bytesRow s c) e ((bytesRow s c).size, (bytesRow s c).size + 1))).drew = W) (hb : base ≤ w.heap.size) : OwnB W base e (some ⟨w.heap.size, 0, none⟩) s.size c s.data.toList := by
  subst hW
  have hs : (bytesRow s c).size = c := by unfold bytesRow; simp; omega
  refine ⟨rfl, .inr ⟨w.heap.size, bytesRow s c, _, rfl, hb, heap_alloc_new w _, fun i hi hh => by simp only at hh; omega, hc, hm, hs, ?_⟩⟩
  unfold bytesRow
  rw [Array.toList_append, List.take_append_of_le_length (by simp), List.take_of_length_le (by simp), Array.toList_map]
  rfl
end

theorem run_storeCells_T (P : Program) (g o : Nat) (t : TypeId) (fz : Nat × Nat) : ∀ (vs : List Value) (i : Nat) (cur : Array Value) (w : World), w.heap[g]? = some (.cells cur t fz) → (∀ i, i < cur.size → ¬ (fz.1 ≤ i ∧ i < fz.2)) → o + i + vs.length ≤ cur.size → (∀ v ∈ vs, v.oneCell' = true) →
    (storeCells ⟨g, o, none⟩ vs i).run P w = .ok () (w.setRow g (cur.toList.take (o + i) ++ vs ++ cur.toList.drop (o + i + vs.length)).toArray)
  | [], i, cur, w, hg, _, _, _ => by
    simp only [storeCells, List.append_nil, List.length_nil, Nat.add_zero, List.take_append_drop, Array.toArray_toList]
    rw [setRow_self w g cur t fz hg]
    rfl
  | v :: rest, i, cur, w, hg, hfz, hl, h1 => by
    have hi : o + i < cur.size := by simp at hl; omega
    have hadd : (⟨g, o, none⟩ : Addr).add i = ⟨g, o + i, none⟩ := by unfold Addr.add; split <;> simp_all
    have hcell : w.cell? ⟨g, o + i, none⟩ = some cur[o + i] := by simp [World.cell?, hg, hi]
    have hfro : w.frozen? ⟨g, o + i, none⟩ = false := by
      obtain ⟨lo, hi'⟩ := fz
      have := hfz (o + i) hi
      simp only [World.frozen?, hg, Bool.and_eq_false_iff, decide_eq_false_iff_not]
      simp only at this
      omega
    have hst : (store ((⟨g, o, none⟩ : Addr).add i) v).run P w = .ok () (w.setRow g (cur.setIfInBounds (o + i) v)) := by
      rw [hadd, run_store P w _ v _ (h1 v (by simp)), hcell]
      simp [hfro, setCell_eq_setRow w g (o + i) cur t fz v hg]
    have ih := run_storeCells_T P g o t fz rest (i + 1) (cur.setIfInBounds (o + i) v) (w.setRow g (cur.setIfInBounds (o + i) v)) (setRow_heap w g cur _ t _ hg) (by simpa using hfz) (by simp at hl ⊢; omega) (fun x hx => h1 x (by simp [hx]))
    simp only [storeCells, Sem.run_bind, hst, Result.andThen_ok, ih, setRow_setRow]
    congr 3
    have e := list_seg_step cur.toList (o + i) v rest (by simp at hl ⊢; omega)
    simpa [Array.toList_setIfInBounds, Nat.add_assoc] using e

/-- append of bytes that lie in another block. -/
theorem run_append_B {P : Program} (w : World) (base : Nat) (t ty e : TypeId) (ht : P.underlying t = some (.slice e)) (hinfo : (P.info? e).map (fun i => (i.zero, i.size, i.bytes)) = some (some (.int .u8 0), 1, 1))
    (A : Option Addr) (n c : Nat) (l : List UInt8) (hown : OwnB w base e A n c l) (a : Addr) (m c2 : Nat) (news : List UInt8) (hl : news.length = m) (hnews : ∀ j u, (news.map b8)[j]? = some u → w.cell? (a.add j) = some u)
    (h63 : n + m ≤ 140737488355328) (hm : 0 < m) (hbase : base ≤ w.heap.size) :
    ∃ A' c' w', (Builtin.append_ #[t, t] ty #[.slice A n c, .slice (some a) m c2]).run P w = .ok (.slice A' (n + m) c') w' ∧ OwnB w' base e A' (n + m) c' (l ++ news) ∧ Below base w w' := by
  obtain ⟨i, hi, hz, hs1, hby⟩ := info_parts hinfo
  have h63' : n + m ≤ maxLen := by unfold maxLen; omega
  have hone := b8_one news
  rcases hown.2 with ⟨rfl, rfl, rfl⟩ | ⟨g, cur, fz, rfl, hbg, hg, hfz, hnc, hcm, hcs, htake⟩
  · have hx : l = [] := List.eq_nil_of_length_eq_zero hown.1
    subst hx
    obtain ⟨v', w', h1, h2, h3, _⟩ := run_append_own (P := P) w base t ty e i (.int .u8 0) 1 1 ht hi hz hs1 hby rfl (by omega) (.slice none 0 0) 0 [] (World.ownsRow_nil _ _ _ _) a m c2 (news.map b8) (by rw [List.length_map, hl, Nat.mul_one]) hnews hone h63' (by omega) hbase
    obtain ⟨A', c', rfl, _⟩ := own_shape h2
    refine ⟨A', c', w', h1, OwnB.of_own (by rw [List.map_append]; exact h2), (Below.refl base w).grown h3 hbase (fun k hk => by simp [Value.ownBlock] at hk)⟩
  · by_cases hroom : n + m ≤ c
    · have hf := run_firstCells_some (P := P) w 1 m a m c2 (news.map b8) (by rw [List.length_map, hl, Nat.mul_one]) hnews
      have hst := run_storeCells_T P g n e fz (news.map b8) 0 cur w hg hfz (by rw [List.length_map]; omega) hone
      simp only [Nat.add_zero, List.length_map] at hst
      have hr : (Builtin.append_ #[t, t] ty #[.slice (some ⟨g, 0, none⟩) n c, .slice (some a) m c2]).run P w = .ok (.slice (some ⟨g, 0, none⟩) (n + m) c) (w.setRow g (cur.toList.take n ++ news.map b8 ++ cur.toList.drop (n + news.length)).toArray) := by
        simp [Builtin.append_, run_underlying ht, sizeOf, typeInfo, hi, hs1, Builtin.lenOf, hroom, hf, Addr.add_lit, hst]
      refine ⟨_, _, _, hr, ⟨by rw [List.length_append, hown.1, hl], .inr ⟨g, _, fz, rfl, hbg, setRow_heap w g cur _ e _ hg, ?_, hroom, hcm, ?_, ?_⟩⟩, ?_⟩
      · intro i hi2
        refine hfz i ?_
        simp only [List.size_toArray, List.length_append, List.length_take, List.length_drop, Array.length_toList, List.length_map] at hi2
        omega
      · simp only [List.size_toArray, List.length_append, List.length_take, List.length_drop, Array.length_toList, List.length_map]
        omega
      · rw [htake, List.map_append]
        have : (l.map b8 ++ news.map b8).length = n + m := by rw [List.length_append, List.length_map, List.length_map, hown.1, hl]
        rw [← this]
        exact List.take_left
      · exact (Below.refl base w).grown (row := some g) ⟨rfl, rfl, rfl, by simp, fun k _ hk => setRow_other w g k _ (fun e => hk (by rw [e]))⟩ hbase (fun k hk => by injection hk with hk; omega)
    · have holds : ∀ j u, (l.map b8)[j]? = some u → w.cell? ((⟨g, 0, none⟩ : Addr).add j) = some u := fun j u hj => by
        have hj' : j < n := by
          have := (List.getElem?_eq_some_iff.1 hj).1
          rw [List.length_map, hown.1] at this; exact this
        have := hown.cell j hj'
        rw [add_zero, this, ← hj, List.getElem?_map, List.getElem?_eq_getElem (by rw [hown.1]; exact hj'), List.getD_eq_getElem?_getD, List.getElem?_eq_getElem (by rw [hown.1]; exact hj')]
        rfl
      have hr := run_append_grow (P := P) w t ty e i (.int .u8 0) ht hi hz ⟨g, 0, none⟩ n c (l.map b8) (by rw [List.length_map, hown.1, hs1, Nat.mul_one]) holds a m c2 (news.map b8) (by rw [List.length_map, hl, hs1, Nat.mul_one]) hnews (by omega) (by omega) (growslice_fits (by omega) (by rw [hby]; omega))
      have hge := grownCap_ge w (n + m) c e
      have hcm2 := grownCap_le_maxLen w (n + m) c e h63'
      refine ⟨_, _, _, hr, OwnB.of_own ⟨by rw [List.length_map, List.length_append, hown.1, hl, Nat.mul_one], .inr ⟨w.heap.size, _, _, rfl, hbase, heap_alloc_new w.drew _, hge, hcm2, ?_, ?_⟩⟩, ?_⟩
      · have hz1 : (Value.int IntKind.u8 0).cells.size = 1 := rfl
        simp only [Array.size_append, List.size_toArray, size_zeroCells, hz1, List.length_map, hown.1, hl]
        omega
      · have : (l.map b8 ++ news.map b8).length = (n + m) * 1 := by rw [List.length_append, List.length_map, List.length_map, hown.1, hl, Nat.mul_one]
        simp only [Array.toList_append, List.map_append, List.append_assoc]
        rw [← List.append_assoc, ← this]
        exact List.take_left
      · exact ((Below.refl base w).drew).alloc hbase _

/-- append(b, x): the byte has just been laid into a block of its own. -/
theorem wpList_append_B {P : Program} (wr : World) {ops : Array Oper} {rest : List Oper} {o : Oper} {a : Act} {Q : Exit → Act → World → Prop} (t : TypeId) (s x : Operand) (hgd : o.guard = none)
    (ho : o.op = .call { callee := .builtin .append, args := #[s, x], argTypes := #[t, t] }) (base : Nat) (e : TypeId)
    (hinfo : (P.info? e).map (fun i => (i.zero, i.size, i.bytes)) = some (some (.int .u8 0), 1, 1)) (ht : P.underlying t = some (.slice e))
    (A : Option Addr) (n c : Nat) (l : List UInt8) (hs : a.eval s = .slice A n c) (hown : OwnB wr base e A n c l)
    (y : UInt8) (hx : a.eval x = .slice (some ⟨wr.heap.size, 0, none⟩) 1 1) (h63 : n + 1 ≤ 140737488355328) (hbase : base ≤ wr.heap.size)
    (h : ∀ A' c' w1, OwnB w1 base e A' (n + 1) c' (l ++ [y]) → Below base wr w1 → wpList P ops Q rest (a.put o.dst (.slice A' (n + 1) c')) w1) :
    wpList P ops Q (o :: rest) a (wr.alloc (.cells #[.int .u8 (y.toNat : Int)] e)) := by
  refine wpList_plain hgd fun K hK => ?_
  have hnw : ∀ j u, ([y].map b8)[j]? = some u → (wr.alloc (.cells #[.int .u8 (y.toNat : Int)] e)).cell? ((⟨wr.heap.size, 0, none⟩ : Addr).add j) = some u := fun j u hj => by
    rw [add_zero, World.cell?_alloc_mark, ← Array.getElem?_toList]
    exact hj
  obtain ⟨A', c', w', hr, h2, h3⟩ := run_append_B (P := P) (wr.alloc (.cells #[.int .u8 (y.toNat : Int)] e)) base t o.type e ht hinfo A n c l (hown.alloc _) ⟨wr.heap.size, 0, none⟩ 1 1 [y] rfl hnw h63 (by omega) (by simp; omega)
  unfold Oper.wp execOp
  simp only [ho, resolve, invoke, builtin, Sem.run_bind, Sem.run_pure, Result.andThen_ok, List.map_toArray, List.map_cons, List.map_nil, hs, hx, hr]
  exact hK _ _ (h A' c' w' h2 (((Below.refl base wr).alloc hbase _).trans h3))

/-- 'b[:k]'. -/
theorem slice_B {P : Program} (w0 : World) (base : Nat) (e : TypeId) (A : Option Addr) (n c : Nat) (l : List UInt8) (h : OwnB w0 base e A n c l) (t : TypeId) (ht : P.underlying t = some (.slice (P.elem t))) (hsz : ∀ w, (sizeOf (P.elem t)).run P w = .ok 1 w) {k : Nat} (hk : k ≤ n) (hn : 0 < n) (w : World) :
    (Instr.slice t (.slice A n c) none (some (.int .i64 (k : Int))) none).run P w = .ok (.slice A k c) w := by
  obtain ⟨g, rfl⟩ := h.shape hn
  have hc := h.cap.1
  rw [run_slice_h w t _ n c ht .i64 (k : Int) (by omega) (by omega), hsz, Int.toNat_natCast]
  show Result.ok (sliced _ 0 k c 1) w = _
  rw [sliced, Nat.zero_mul, Nat.sub_zero, if_neg (by omega)]
  show Result.ok (Value.slice (some (Addr.add ⟨g, 0, none⟩ 0)) k c) w = _
  rw [add_zero]

/-- 'string(b)'. -/
theorem run_string_B {P : Program} (w : World) (src dst e : TypeId) (base : Nat) (A : Option Addr) (n c : Nat) (l : List UInt8) (h : OwnB w base e A n c l)
    (hs : P.underlying src = some (.slice e)) (he : P.underlying e = some (.int .u8)) (hd : P.underlying dst = some .string) :
    (convert src dst (.slice A n c)).run P w = .ok (.string ⟨l.toArray⟩) w := by
  rcases h.2 with ⟨rfl, rfl, rfl⟩ | ⟨g, cur, fz, rfl, _⟩
  · have : l = [] := List.eq_nil_of_length_eq_zero h.1
    subst this
    rw [run_convert_bytes_string w src dst e none 0 0 hs he hd]
    simp [Conv.bytesToString]
    rfl
  · refine run_string_of w src dst e ⟨g, 0, none⟩ n c l h.1 hs he hd fun j hj => ?_
    rw [add_zero, h.cell j (by rw [← h.1]; exact hj), List.getD_eq_getElem?_getD, List.getElem?_eq_getElem hj]; rfl

end Go.Proofs.Ytpnpalbdlhlnkaa
