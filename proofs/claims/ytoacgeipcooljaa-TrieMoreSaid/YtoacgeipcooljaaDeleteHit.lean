/- slices.IndexFunc and slices.DeleteFunc over hits, whatever the test captures. -/
import Derived.Test.YtoacgeipcooljaaTrieFind
import Derived.Test.YtoacgeipcooljaaTries
namespace Go.Proofs.Ytoacgeipcooljaa
open Go.RowKit
set_option linter.unusedVariables false

/-- Where the first that passes stands, or -1. -/
def firstH (p : Int × Int → Bool) : List (Int × Int) → Nat → Int
  | [], _ => -1
  | x :: l, k => if p x = true then (k : Int) else firstH p l (k + 1)
theorem firstH_no (p : Int × Int → Bool) : ∀ (l : List (Int × Int)) (k : Nat), (∀ x ∈ l, p x = false) → firstH p l k = -1
  | [], _, _ => rfl
  | x :: l, k, h => by
    unfold firstH
    rw [if_neg (by rw [h x (List.mem_cons_self ..)]; simp)]
    exact firstH_no p l (k + 1) fun y hy => h y (List.mem_cons_of_mem _ hy)
theorem firstH_yes (p : Int × Int → Bool) : ∀ (l : List (Int × Int)) (k : Nat), ¬ (∀ x ∈ l, p x = false) → ∃ i, i < l.length ∧ firstH p l k = ((k + i : Nat) : Int) ∧ (l.take i).filter (fun x => !p x) = l.take i ∧ (l.take (i + 1)).filter (fun x => !p x) = l.take i
  | [], _, h => absurd (fun x hx => by cases hx) h
  | x :: l, k, h => by
    by_cases hx : p x = true
    · exact ⟨0, by simp, by unfold firstH; rw [if_pos hx]; rfl, by simp, by simp [hx]⟩
    · have hx' : p x = false := by simpa using hx
      obtain ⟨i, h1, h2, h3, h4⟩ := firstH_yes p l (k + 1) fun hh => h fun y hy => by
        rcases List.mem_cons.1 hy with rfl | hy
        · exact hx'
        · exact hh y hy
      refine ⟨i + 1, by simpa using h1, by unfold firstH; rw [if_neg hx, h2]; congr 1; omega, ?_, ?_⟩
      · rw [List.take_succ_cons, List.filter_cons_of_pos (by simp [hx']), h3]
      · rw [List.take_succ_cons, List.filter_cons_of_pos (by simp [hx']), h4, List.take_succ_cons]

theorem getE_D (xs : List Value) (k : Nat) (h : k < xs.length) : xs[k]? = some (xs.getD k undef) := by
  rw [List.getD_eq_getElem?_getD, List.getElem?_eq_getElem h]; rfl
theorem flat_takeH (L : List (Int × Int)) (i : Nat) (h : i ≤ L.length) : (L.flatMap cHit).take (i * 2) = (L.take i).flatMap cHit := by
  conv => lhs; rw [← List.take_append_drop i L, List.flatMap_append]
  rw [List.take_append_of_le_length (by rw [flat_length cHit 2 cHit_len, List.length_take]; omega), List.take_of_length_le (by rw [flat_length cHit 2 cHit_len, List.length_take]; omega)]
theorem hits_set2 (L : List (Int × Int)) (i : Nat) (v : Int × Int) (hi : i < L.length) : ((L.flatMap cHit).set (i * 2) (.int .i64 v.1)).set (i * 2 + 1) (.int .i64 v.2) = (L.set i v).flatMap cHit := by
  have hx : L[i]? = some L[i] := List.getElem?_eq_getElem hi
  have e1 := flat_set cHit 2 cHit_len L i 0 L[i] (v.1, L[i].2) (.int .i64 v.1) hx (by omega) rfl
  have e2 := flat_set cHit 2 cHit_len (L.set i (v.1, L[i].2)) i 1 (v.1, L[i].2) v (.int .i64 v.2) (by rw [List.getElem?_set_self hi]) (by omega) rfl
  rw [Nat.add_zero] at e1
  rw [← e1, ← e2, List.set_set]

/-- clear of the back part of a row of one's own. -/
theorem run_clear_K {P : Program} {T : TypeId} {s : Nat} {K : Nat → Prop} (w : World) (t : TypeId) (z : Value) (ht : P.underlying t = some (.slice T)) (hv : ∀ w, (zeroValue T).run P w = .ok z w) (hz : z.cells.size = s) (h1 : ∀ j, j < s → (z.cells[j]!).oneCell' = true) (hs : 0 < s)
    (g o n c i : Nat) (xs : List Value) (h : OwnK T s w K (some ⟨g, o, none⟩) n c xs) (hi : i < n) :
    ∃ w', (∀ ty, (Builtin.clear_ #[t] ty #[.slice (some ⟨g, o + i * s, none⟩) (n - i) (c - i)]).run P w = .ok (.tuple #[]) w') ∧ OwnK T s w' K (some ⟨g, o, none⟩) i c (xs.take (i * s)) ∧ ∀ B w0, B ≤ g → Below B w0 w → Below B w0 w' := by
  obtain ⟨hlen, h2⟩ := h
  rcases h2 with ⟨h0, _⟩ | ⟨g', o', cur, hv', hb, hg, hnc, hcm, hcs, hx⟩
  · cases h0
  injection hv' with hv'
  injection hv' with e1 e2
  subst e1; subst e2
  obtain ⟨vs, hvs⟩ : ∃ vs, vs = (Builtin.zeroCells z.cells (n - i)).toList := ⟨_, rfl⟩
  have hvl : vs.length = (n - i) * s := by rw [hvs]; simp [Builtin.zeroCells, hz]
  have hle : i * s + (n - i) * s = n * s := by rw [← Nat.add_mul]; congr 1; omega
  have hle2 : n * s ≤ c * s := Nat.mul_le_mul_right _ hnc
  have hone : ∀ v ∈ vs, v.oneCell' = true := fun v hv => by
    rw [hvs] at hv
    simp only [Builtin.zeroCells, Array.toList_map, Array.toList_range, List.mem_map] at hv
    obtain ⟨k, hk, rfl⟩ := hv
    exact h1 _ (by rw [hz]; exact Nat.mod_lt _ hs)
  have hst := run_storeCells_T P g (o + i * s) T (0, 0) vs 0 cur w hg (fun i _ hh => by omega) (by rw [hvl]; omega) hone
  simp only [Nat.add_zero] at hst
  obtain ⟨m, hm⟩ : ∃ m, n - i = m + 1 := ⟨n - i - 1, by omega⟩
  have hrow := setRow_heap w g cur (cur.toList.take (o + i * s) ++ vs ++ cur.toList.drop (o + i * s + vs.length)).toArray T (0, 0) hg
  refine ⟨w.setRow g (cur.toList.take (o + i * s) ++ vs ++ cur.toList.drop (o + i * s + vs.length)).toArray, fun ty => ?_, ⟨by rw [List.length_take, hlen]; omega, .inr ⟨g, o, _, rfl, hb, hrow, by omega, hcm, ?_, ?_⟩⟩, fun B w0 hB hbw => ?_⟩
  · rw [hm] at hvs ⊢
    simp only [Builtin.clear_, List.getElem?_toArray, List.length_cons, List.length_nil, Nat.zero_add, Nat.lt_add_one, getElem?_pos, List.getElem_cons_zero, Sem.run_bind, run_underlying ht, Result.andThen_ok, hv, ← hvs, hst, Sem.run_pure]
  · simp only [List.size_toArray, List.length_append, List.length_take, List.length_drop, Array.length_toList, hvl]
    omega
  · have hic : (cur.toList.take (o + i * s)).length = o + i * s := by rw [List.length_take, Array.length_toList]; omega
    rw [List.append_assoc, List.drop_append_of_le_length (by rw [hic]; omega), List.take_append_of_le_length (by rw [List.length_drop, hic]; omega), ← hx, List.take_take, Nat.min_eq_left (by omega), List.drop_take, List.take_take, show o + i * s - o = i * s by omega, Nat.min_self]
  · exact hbw.trans ⟨rfl, rfl, rfl, by simp, fun k hk => setRow_other w g k _ (by omega)⟩

set_option maxHeartbeats 1000000 in
theorem indexHitF (F : Nat) (hen : ∀ (args : Array Value) (w : World), (callFunc F args).run Try.prog w = .ok (.enter F args) w) (cap : Value) (A : Option Addr) (n c B : Nat) (l : List (Int × Int)) (p : Int × Int → Bool) (hl : l.length = n) (hn : n ≤ 1000000000000000) (w : World) (r : Reads w B A n 2 (l.flatMap cHit)) (hB : B ≤ w.heap.size)
    (hp : ∀ x, ∀ w1, Below w.heap.size w w1 → Calls Try.prog F #[.agg #[.int .i64 x.1, .int .i64 x.2], cap] w1 fun e w' => e = .returned (.bool (p x)) ∧ Below w1.heap.size w1 w') :
    Calls Try.prog 23 #[.slice A n c, .func (Fn.func F) #[] #[cap]] w
      fun e w' => e = .returned (.int .i64 (firstH p l 0)) ∧ Below w.heap.size w w' := by
  have Hl := Lib.hid hl
  have Hp := Lib.hid hp
  clear hl hp
  go_enter Try.func23, Try.ntmps23
  go_wp2
  go_loopw [5, 8] (fun _ i wr => ∃ k : Nat, k ≤ n ∧ i = .int .i64 k ∧ Hid (firstH p l 0 = firstH p (l.drop k) k) ∧ Below w.heap.size w wr) (fun _ i _ => n - (intOf i).toNat)
  case atStart => exact ⟨0, Nat.zero_le _, rfl, Lib.hid (by simp), Below.refl _ _⟩
  case round =>
    obtain ⟨k, hk, rfl, Hf, hbr⟩ := hrel
    by_cases hlt : k < n
    · obtain ⟨b, o, rfl, hbB, hc⟩ := (r.below (hbr.mono hB)).2 (by omega)
      have c0 := hc (k * 2 + 0) (by rw [flat_length cHit 2 cHit_len, Hl.out]; omega)
      have c1 := hc (k * 2 + 1) (by rw [flat_length cHit 2 cHit_len, Hl.out]; omega)
      rw [flat_getD cHit 2 cHit_len (0, 0) l k _ (by rw [Hl.out]; omega) (by omega)] at c0 c1
      simp only [cHit, List.getD_cons_zero, List.getD_cons_succ] at c0 c1
      rw [Nat.add_zero] at c0
      rw [← Nat.add_assoc] at c1
      have hd : l.drop k = l.getD k (0, 0) :: l.drop (k + 1) := drop_getD l k (0, 0) (by rw [Hl.out]; omega)
      have Hd := Lib.hid hd
      have Hcall := Lib.hid (Hp.out (l.getD k (0, 0)) wr hbr)
      clear hd hc
      generalize l.getD k (0, 0) = x at *
      obtain ⟨x1, x2⟩ := x
      simp only at c0 c1
      have hbd := buildHit
      by_cases h0 : p (x1, x2) = true
      · have hcl := Hcall.out
        rw [h0] at hcl
        simp only at hcl
        have Hcl := Lib.hid hcl
        have H0 := Lib.hid h0
        clear h0 hcl
        go_wp2_with fail
        refine Hcl.out.mono ?_
        rintro e w1 ⟨rfl, hb1⟩
        go_wp2
        go_ret
        exact ⟨by rw [Hf.out, Hd.out, firstH, if_pos H0.out]; rfl, chain hb1 hbr⟩
      · have hcl := Hcall.out
        rw [show p (x1, x2) = false from by simpa using h0] at hcl
        simp only at hcl
        have Hcl := Lib.hid hcl
        have H0 := Lib.hid h0
        clear h0 hcl
        go_wp2_with fail
        refine Hcl.out.mono ?_
        rintro e w1 ⟨rfl, hb1⟩
        go_wp2
        go_roundw
        case rel => exact ⟨k + 1, by omega, by go_num, Lib.hid (by rw [Hf.out, Hd.out, firstH, if_neg H0.out]), chain hb1 hbr⟩
        case measure => simp only [intOf]; omega
    · obtain rfl : k = n := by omega
      go_wp2
      go_ret
      exact ⟨by rw [Hf.out, List.drop_of_length_le (by rw [Hl.out]; omega)]; rfl, hbr⟩

theorem zeroHit (w : World) : (zeroValue 29).run Try.prog w = .ok (.agg #[.int .i64 0, .int .i64 0]) w := by
  obtain ⟨i, hi, hz, hs, hb⟩ := info_parts infoHit
  simp [zeroValue, typeInfo, hi, hz]

set_option maxHeartbeats 2000000 in
theorem deleteHit_any (F : Nat) (hen : ∀ (args : Array Value) (w : World), (callFunc F args).run Try.prog w = .ok (.enter F args) w) (cap : Value) (w0 : World) (A : Option Addr) (n c : Nat) (l : List (Int × Int)) (p : Int × Int → Bool) (hl : l.length = n) (hn : n ≤ 1000000000000000) (w : World)
    (hb0 : Below w0.heap.size w0 w) (h : OwnK 29 2 w (· < w0.heap.size) A n c (l.flatMap cHit))
    (hp : ∀ x, ∀ w1, Below w0.heap.size w0 w1 → Calls Try.prog F #[.agg #[.int .i64 x.1, .int .i64 x.2], cap] w1 fun e w' => e = .returned (.bool (p x)) ∧ Below w1.heap.size w1 w') :
    Calls Try.prog 10 #[.slice A n c, .func (Fn.func F) #[] #[cap]] w
      fun e w' => ∃ m, e = .returned (.slice A m c) ∧ OwnK 29 2 w' (· < w0.heap.size) A m c ((l.filter (fun x => !p x)).flatMap cHit) ∧ (l.filter (fun x => !p x)).length = m ∧ Below w0.heap.size w0 w' := by
  have H1 := Lib.hid (indexHitF F hen cap A n c w.heap.size l p hl hn w h.toReads (Nat.le_refl _) fun x w1 hb => hp x w1 (chain hb hb0))
  have hcap := h.cap
  unfold maxLen at hcap
  by_cases hno : ∀ x ∈ l, p x = false
  · have e1 : l.filter (fun x => !p x) = l := List.filter_eq_self.2 fun x hx => by simp [hno x hx]
    rw [firstH_no p l 0 hno] at H1
    rw [e1]
    have Hl := Lib.hid hl
    clear e1 hno hl hp
    go_enter Try.func10, Try.ntmps10
    go_wp2_with fail
    refine H1.out.mono ?_
    rintro e w1 ⟨rfl, hb1⟩
    go_wp2
    go_ret
    exact ⟨n, rfl, h.after hb1, Hl.out, chain hb1 hb0⟩
  obtain ⟨i0, hi0, hf0, ht0, ht1⟩ := firstH_yes p l 0 hno
  rw [hf0, Nat.zero_add] at H1
  rw [hl] at hi0
  have Hl := Lib.hid hl
  have Hp := Lib.hid hp
  have Ht1 := Lib.hid ht1
  have hi0' : (i0 : Int) < (n : Int) := by omega
  have q0 : ((i0 : Int) == (-1 : Int)) = false := by rw [beq_eq_false_iff_ne]; omega
  clear hf0 ht0 ht1 hno hl hp
  go_enter Try.func10, Try.ntmps10
  go_wp2_with fail
  refine H1.out.mono ?_
  rintro e w1 ⟨rfl, hb1⟩
  have h1 := h.after hb1
  have hb2 := chain hb1 hb0
  clear h hb1 hb0 H1
  obtain ⟨g, o, rfl, hg1, hg2⟩ := h1.shape (by omega)
  have hgB : w0.heap.size ≤ g := Nat.le_of_not_lt hg2
  go_wp2
  go_loopw [5, 6, 7] (fun iv jv _ wr => ∃ (i j : Nat) (L : List (Int × Int)), i < j ∧ j ≤ n ∧ iv = .int .i64 i ∧ jv = .int .i64 j ∧ OwnK 29 2 wr (· < w0.heap.size) (some ⟨g, o, none⟩) n c (L.flatMap cHit) ∧ Hid (L.length = n ∧ L.take i = (l.take j).filter (fun x => !p x) ∧ L.drop j = l.drop j) ∧ Below w0.heap.size w0 wr) (fun _ jv _ _ => n - (intOf jv).toNat)
  case atStart => exact ⟨i0, i0 + 1, l, by omega, by omega, rfl, by go_num, h1, Lib.hid ⟨Hl.out, Ht1.out.symm, rfl⟩, hb2⟩
  case round =>
    clear h1 hb2 Ht1
    obtain ⟨i, j, L, hij, hj, rfl, rfl, hown, HL, hbr⟩ := hrel
    by_cases hlt : j < n
    · have hjL : j < L.length := by rw [HL.out.1]; exact hlt
      have hxL : L.getD j (0, 0) = l.getD j (0, 0) := by
        have e := congrArg (fun l => l.getD 0 (0, 0)) HL.out.2.2
        simp only [List.getD_eq_getElem?_getD, List.getElem?_drop, Nat.add_zero] at e ⊢
        exact e
      have f0 := flat_getD cHit 2 cHit_len (0, 0) L j 0 hjL (by omega)
      have f1 := flat_getD cHit 2 cHit_len (0, 0) L j 1 hjL (by omega)
      have c0 := (hown.cell (j * 2) (by omega)).1
      have c1 := (hown.cell (j * 2 + 1) (by omega)).1
      rw [getE_D _ _ (by rw [hown.1]; omega)] at c0 c1
      rw [Nat.add_zero] at f0
      rw [f0, hxL] at c0
      rw [f1, hxL] at c1
      simp only [cHit, List.getD_cons_zero, List.getD_cons_succ] at c0 c1
      rw [← Nat.add_assoc] at c1
      have hfl : (l.take (j + 1)).filter (fun x => !p x) = (l.take j).filter (fun x => !p x) ++ if p (l.getD j (0, 0)) = true then [] else [l.getD j (0, 0)] := by
        rw [take_succ_getD l j (0, 0) (by rw [Hl.out]; exact hlt), List.filter_append]
        generalize l.getD j (0, 0) = x
        by_cases h0 : p x = true
        · rw [if_pos h0]; simp [h0]
        · rw [if_neg h0]; simp [h0]
      have Hfl := Lib.hid hfl
      have hd1 : L.drop (j + 1) = l.drop (j + 1) := by
        have e := congrArg (List.drop 1) HL.out.2.2
        rwa [List.drop_drop, List.drop_drop] at e
      have Hd1 := Lib.hid hd1
      clear f0 f1 hxL hfl hd1
      generalize l.getD j (0, 0) = x at *
      obtain ⟨x1, x2⟩ := x
      simp only at c0 c1
      have hbd := buildHit
      have hba : Below w0.heap.size w0 (wr.alloc (Obj.cells #[.int .i64 x1, .int .i64 x2] 29)) := hbr.alloc hbr.size _
      have hblk := Blk.new wr 29 #[.int .i64 x1, .int .i64 x2]
      have howna := hown.alloc (Obj.cells #[.int .i64 x1, .int .i64 x2] 29)
      have Hcall := Lib.hid (Hp.out (x1, x2) _ hba)
      have hgw : g < wr.heap.size := by
        obtain ⟨g', o', e, h1, _⟩ := hown.shape (by omega)
        injection e with e
        injection e with e _
        omega
      clear hown
      by_cases h0 : p (x1, x2) = true
      · have hcl := Hcall.out
        rw [h0] at hcl
        simp only at hcl
        have Hcl := Lib.hid hcl
        have hfl2 := Hfl.out
        rw [if_pos h0, List.append_nil] at hfl2
        have Hfl2 := Lib.hid hfl2
        clear h0 hcl hfl2 Hfl
        have a0 := hblk.cell 0
        have a1 := hblk.cell 1
        go_wp2_with fail
        refine Hcl.out.mono ?_
        rintro e w3 ⟨rfl, hb3⟩
        go_wp2
        go_roundw
        case rel => exact ⟨i, j + 1, L, by omega, by omega, rfl, by go_num, howna.after hb3, Lib.hid ⟨HL.out.1, by rw [Hfl2.out]; exact HL.out.2.1, Hd1.out⟩, chain hb3 hba⟩
        case measure => simp only [intOf]; omega
      · have hcl := Hcall.out
        rw [show p (x1, x2) = false from by simpa using h0] at hcl
        simp only at hcl
        have Hcl := Lib.hid hcl
        have hfl2 := Hfl.out
        rw [if_neg h0] at hfl2
        have Hfl2 := Lib.hid hfl2
        clear h0 hcl hfl2 Hfl
        have a0 := hblk.cell 0
        have a1 := hblk.cell 1
        go_wp2_with fail
        refine Hcl.out.mono ?_
        rintro e w3 ⟨rfl, hb3⟩
        have hblk3 := hblk.after hb3
        have b0 := hblk3.cell 0
        have b1 := hblk3.cell 1
        have how3 := howna.after hb3
        have hbr3 := chain hb3 hba
        have iin : i < n := by omega
        have ii : (i : Int) < (n : Int) := by omega
        obtain ⟨s0, hs0⟩ : ∃ s0, w3.cell? ⟨g, o + i * 2, none⟩ = some s0 := ⟨_, (how3.cell (i * 2) (by omega)).1.trans (getE_D _ _ (by rw [how3.1]; omega))⟩
        obtain ⟨s1, hs1⟩ : ∃ s1, w3.cell? ⟨g, o + i * 2 + 1, none⟩ = some s1 := ⟨_, (how3.cell (i * 2 + 1) (by omega)).1.trans (getE_D _ _ (by rw [how3.1]; omega))⟩
        have fz0 := (how3.cell (i * 2) (by omega)).2
        have fz1 := (how3.cell (i * 2 + 1) (by omega)).2
        rw [← Nat.add_assoc] at fz1
        have hst := (how3.store (i * 2) (by omega) (.int .i64 x1)).store (i * 2 + 1) (by omega) (.int .i64 x2)
        rw [hits_set2 L i (x1, x2) (by rw [HL.out.1]; exact iin), ← Nat.add_assoc] at hst
        have hbs : Below w0.heap.size w0 ((w3.setCell ⟨g, o + i * 2, none⟩ (.int .i64 x1)).setCell ⟨g, o + i * 2 + 1, none⟩ (.int .i64 x2)) := (hbr3.setCell (p := ⟨g, o + i * 2, none⟩) hgB _).setCell (p := ⟨g, o + i * 2 + 1, none⟩) hgB _
        clear howna how3 hba hb3 Hcl hblk
        go_wp2
        go_roundw
        case rel =>
          refine ⟨i + 1, j + 1, L.set i (x1, x2), by omega, by omega, by go_num, by go_num, hst, Lib.hid ⟨by rw [List.length_set]; exact HL.out.1, ?_, ?_⟩, hbs⟩
          · rw [Hfl2.out, ← HL.out.2.1]
            have hiL : i < L.length := by rw [HL.out.1]; exact iin
            rw [take_succ_getD _ i (0, 0) (by rw [List.length_set]; exact hiL), List.take_set_of_le (Nat.le_refl _), getD_some _ _ _ (by rw [List.length_set]; exact hiL), List.getElem_set_self]
          · rw [List.drop_set, if_pos (by omega)]; exact Hd1.out
        case measure => simp only [intOf]; omega
    · obtain rfl : j = n := by omega
      have hi : i < j := hij
      obtain ⟨w2, hcl, how2, hbw⟩ := run_clear_K (s := 2) wr 24 (.agg #[.int .i64 0, .int .i64 0]) Try.underlying24 zeroHit rfl (fun j hj => by rcases j with _ | _ | j <;> first | rfl | omega) (by decide) g o j c i _ hown hi
      have hb2 := hbw _ _ hgB hbr
      have ht : (L.flatMap cHit).take (i * 2) = (l.filter (fun x => !p x)).flatMap cHit := by
        have e := HL.out.2.1
        rw [show l.take j = l from List.take_of_length_le (by rw [Hl.out]; exact Nat.le_refl _)] at e
        rw [← e]
        exact flat_takeH L i (by rw [HL.out.1]; omega)
      rw [ht] at how2
      have hm : (l.filter (fun x => !p x)).length = i := by
        have e := HL.out.2.1
        rw [show l.take j = l from List.take_of_length_le (by rw [Hl.out]; exact Nat.le_refl _)] at e
        rw [← e, List.length_take, HL.out.1]
        omega
      have Hm := Lib.hid hm
      have hic : (i : Int) ≤ (c : Int) := by omega
      have hij' : (i : Int) ≤ (j : Int) := by omega
      clear hm ht hown hbw HL Hl
      go_wp2
      go_ret
      exact ⟨i, rfl, how2, Hm.out, hb2⟩
end Go.Proofs.Ytoacgeipcooljaa
