/- The walk of suffix.Order. -/
import Derived.Test.YtkbogiijbmjbmaaIntSort
import Derived.Test.YtkbogiijbmjbmaaIntSort0
import Derived.Test.YtkbogiijbmjbmaaCheck
import Derived.Test.YtkbogiijbmjbmaaSuffixP
namespace Go.Proofs.Ytkbogiijbmjbmaa
open Go.RowKit Go.Sort Go.Shelf Go.Lib
set_option linter.unusedVariables false

theorem ext_suf (s : ByteArray) (i : Nat) : (s.extract i s.size).data.toList = s.data.toList.drop i := by
  rw [Lib.extract_data, List.take_of_length_le]
  rw [List.length_drop]; exact Nat.le_refl _
theorem quiet_leftS {P : Program} {f : FuncId} {args : Array Value} {w : World} {n : Nat} {v : Value} (h : Calls P f args (w.drewN n) fun e w' => e = .returned v ∧ w.drewN n = w') :
    Calls P f args (w.drewN n) fun e w'' => e = .returned v ∧ ∃ m, w'' = w.drewN m := h.mono fun _ _ ⟨he, hb⟩ => ⟨he, n, hb.symm⟩
set_option maxHeartbeats 1000000 in
theorem suffixCmp (s : ByteArray) (b : Nat) (i k : Nat) (hi : i < s.size) (hk : k < s.size) (W : World) (c1 : W.cell? ⟨b, 0, none⟩ = some (.string s)) :
    Calls Try.prog 26 #[.int .i64 i, .int .i64 k, .pointer (some ⟨b, 0, none⟩)] W fun e w' => e = .returned (.int .i64 (cmpS s.data.toList i k)) ∧ ∃ q os', w' = grow (W.drewN q) os' := by
  have hc := fun w => compare_any (s.extract i s.size) (s.extract k s.size) w
  rw [ext_suf s i, ext_suf s k] at hc
  unfold cmpS
  generalize Lib.compareBytes (s.data.toList.drop i) (s.data.toList.drop k) = c at *
  have hi1 : i ≤ s.size := by omega
  have hk1 : k ≤ s.size := by omega
  have hi2 : (i : Int) ≤ s.size := by omega
  have hk2 : (k : Int) ≤ s.size := by omega
  go_enter Try.func26, Try.ntmps26
  go_wp2_with fail
  go_quiet ((go_at_call 27; exact quiet_leftS (hc _)))
  go_wp2
  go_ret
  exact ⟨by first | rfl | simp, _, #[], by simp; try rfl⟩

theorem suffixSwo (s : List UInt8) (m : Nat) (hm : s.length = m + 1) : SWO (ltOf fun x y : Fin (m + 1) => cmpS s x.1 y.1) := by
  have e : ∀ x y : Fin (m + 1), ltOf (fun x y : Fin (m + 1) => cmpS s x.1 y.1) x y = true ↔ ltS s x.1 y.1 := fun x y => by unfold ltOf; rw [decide_eq_true_iff]; exact cmpS_lt s x.1 y.1
  refine ⟨fun x => ?_, fun x y z h1 h2 => ?_, fun x y z h1 h2 => ?_⟩
  · rw [Bool.eq_false_iff]; intro h; exact ltS_irrefl s _ ((e x x).1 h)
  · rw [e] at *; exact ltS_trans h1 h2
  · rw [Bool.eq_false_iff] at *
    intro h
    have h3 := (e x z).1 h
    have hx := x.2
    have hy := y.2
    rcases ltS_tri (s := s) (i := x.1) (k := y.1) (by omega) (by omega) with k | k | k
    · exact h1 ((e x y).2 k)
    · exact h2 ((e y z).2 (by rw [← k]; exact h3))
    · exact h2 ((e y z).2 (ltS_trans k h3))
theorem suffixOrd (s : List UInt8) (m : Nat) (hm : s.length = m + 1) (d' : Array (Fin (m + 1))) (hp : d'.toList.Perm (List.finRange (m + 1))) (hs : d'.toList.Pairwise (fun x y => ltOf (fun x y : Fin (m + 1) => cmpS s x.1 y.1) y x = false)) : IsSOrd s (d'.toList.map (·.1)) := by
  have hn : d'.toList.Nodup := hp.nodup_iff.2 (List.nodup_finRange _)
  refine ⟨?_, ?_⟩
  · have := hp.map (fun x : Fin (m + 1) => x.1)
    rw [hm]
    refine this.trans ?_
    have e : (List.finRange (m + 1)).map (fun x : Fin (m + 1) => x.1) = List.range (m + 1) := List.ext_getElem (by simp) fun j h1 h2 => by simp
    rw [e]
  · refine List.Pairwise.map _ (fun a b h => ?_) (List.Pairwise.and hs hn)
    obtain ⟨h1, h2⟩ := h
    unfold ltOf at h1
    have h1 := of_decide_eq_false h1
    rw [cmpS_lt] at h1
    have ha := a.2
    have hb := b.2
    rcases ltS_tri (s := s) (i := a.1) (k := b.1) (by omega) (by omega) with k | k | k
    · exact k
    · exact absurd (Fin.ext k) h2
    · exact absurd k h1

/-- A row of ints, of one's own, that holds places. -/
def natsI (o : List Nat) : List Int := o.map fun x : Nat => (x : Int)
theorem natsI_len (o : List Nat) : (natsI o).length = o.length := by simp [natsI]
theorem natsI_getD (o : List Nat) (k : Nat) (h : k < o.length) : (natsI o).getD k 0 = ((o.getD k 0 : Nat) : Int) := by
  unfold natsI
  rw [List.getD_eq_getElem?_getD, List.getElem?_map, List.getD_eq_getElem?_getD, List.getElem?_eq_getElem h]; rfl
/-- What Order tells of a word: its places, in a block of ints of their own. -/
def ToldOrder (s : ByteArray) (w : World) (e : Ending) (w' : World) : Prop :=
  ∃ g, e = .returned (.tuple #[.slice (some ⟨g, 0, none⟩) s.size s.size, .int .i64 0]) ∧ w.heap.size ≤ g ∧ IntsAt w' g (natsI (sOrd s.data.toList)) ∧ RowKit.Below w.heap.size w w'

set_option maxRecDepth 100000 in
set_option maxHeartbeats 4000000 in
theorem order_pos (s : ByteArray) (h0 : 0 < s.size) (hs : s.size ≤ 200) (w : World) : Calls Try.prog 11 #[.string s] w (ToldOrder s w) := by
  obtain ⟨m, hm⟩ : ∃ m, s.size = m + 1 := ⟨s.size - 1, by omega⟩
  have Hm := Lib.hid hm
  clear hm
  have hbx := Blk.new w 9 #[.string s]
  have hb0 : RowKit.Below w.heap.size w (w.alloc (Obj.cells #[.string s] 9)) := (Below.refl _ _).alloc (Nat.le_refl _) _
  have hC := Lib.hid (wordCheck_ok s hs)
  have hmk := fun w => make_ints (P := Try.prog) 25 3 Try.underlying25 (by kernel_rfl) s.size s.size rfl (by omega) w
  have eg : ∀ args w, (callFunc 26 args).run Try.prog w = .ok (.enter 26 args) w := enters_of Try.func26 (by kernel_rfl) rfl
  go_enter Try.func11, Try.ntmps11
  go_wp2_with fail
  have c1 : (w.alloc (Obj.cells #[.string s] 9)).cell? ⟨w.heap.size, 0, none⟩ = some (.string s) := hbx.cell 0
  have hz1 : (w.alloc (Obj.cells #[.string s] 9)).heap.size = w.heap.size + 1 := by simp
  generalize w.alloc (Obj.cells #[.string s] 9) = w1 at *
  go_wp2_with fail
  refine (hC.out _).mono ?_
  rintro e w2 ⟨rfl, rfl⟩
  have hMz : (madeCells #[.int .i64 0] s.size).size = s.size := by
    have := toList_madeCells_one (.int .i64 0) s.size
    rw [← Array.length_toList, this, List.length_replicate]
  have hgo := Blk.new w1 3 (madeCells #[.int .i64 0] s.size)
  have hbx2 := hbx.alloc (Obj.cells (madeCells #[.int .i64 0] s.size) 3)
  have hb2 := hb0.alloc hb0.size (Obj.cells (madeCells #[.int .i64 0] s.size) 3)
  have hgs : w1.heap.size = w.heap.size + 1 := hz1
  rw [hgs] at hgo
  go_wp2
  generalize w1.alloc (Obj.cells (madeCells #[.int .i64 0] s.size) 3) = w2 at *
  generalize madeCells #[.int .i64 0] s.size = cs0 at *
  go_loopw [6, 17] (fun _ iv wr => ∃ (k : Nat) (cs : Array Value), k ≤ s.size ∧ iv = .int .i64 k ∧ cs.size = s.size ∧ Hid (∀ j, j < k → cs[j]? = some (.int .i64 j)) ∧ Blk wr (w.heap.size + 1) 3 cs ∧ Blk wr w.heap.size 9 #[.string s] ∧ RowKit.Below w.heap.size w wr ∧ w.heap.size + 2 ≤ wr.heap.size) (fun _ iv _ => s.size - (intOf iv).toNat)
  case atStart => exact ⟨0, cs0, Nat.zero_le _, rfl, hMz, Lib.hid (fun j hj => by omega), hgo, hbx2, hb2, hgo.lt⟩
  case round =>
    clear hgo hbx2 hb2 hMz
    obtain ⟨k, cs, hk, rfl, hcs, Hcs, hg, hx, hbr, hsz⟩ := hrel
    by_cases hlt : k < s.size
    · have f0 := hg.frozen k
      have g0 : wr.cell? ⟨w.heap.size + 1, k, none⟩ = some (cs[k]'(by omega)) := by rw [hg.cell, Array.getElem?_eq_getElem]
      have ilt : (k : Int) < s.size := by omega
      generalize hck : cs[k]'(by omega) = ck at *
      clear hck
      go_wp2
      go_roundw
      case rel =>
        refine ⟨k + 1, _, by omega, by go_num, ?_, Lib.hid fun j hj => ?_, hg.set_ k (.int .i64 k), hx.far (by show w.heap.size ≠ w.heap.size + 1; omega) _, hbr.setCell (by show w.heap.size ≤ w.heap.size + 1; omega) _, by rw [size_setCell]; exact hsz⟩
        · simpa using hcs
        · rw [Array.getElem?_setIfInBounds]
          by_cases e : k = j
          · subst e; rw [if_pos rfl, if_pos (by omega)]
          · rw [if_neg e]; exact Hcs.out j (by omega)
      case measure => simp [intOf]; omega
    · obtain rfl : k = s.size := by omega
      generalize wr = V at *
      have hcd : cs = ((List.finRange (m + 1)).toArray.map fun x : Fin (m + 1) => Value.int .i64 (x.1 : Int)) := by
        refine Array.ext (by simp [hcs, Hm.out]) fun j h1 h2 => ?_
        have := Hcs.out j (by omega)
        rw [Array.getElem?_eq_getElem h1] at this
        injection this with this
        rw [this]; simp
      rw [hcd] at hg
      clear Hcs hcd hcs
      go_wp2_with fail
      have hS := intSort_any (fun x : Fin (m + 1) => (x.1 : Int)) (fun x y => cmpS s.data.toList x.1 y.1) (suffixSwo s.data.toList m Hm.out) 26 #[.pointer (some ⟨w.heap.size, 0, none⟩)] (w.heap.size + 1) (List.finRange (m + 1)).toArray V hg eg
        (fun W hW x y => suffixCmp s w.heap.size x.1 y.1 (by have := x.2; have := Hm.out; omega) (by have := y.2; have := Hm.out; omega) W ((hW _ _ _ (by omega) hx).cell 0)) (by have := Hm.out; simp; omega)
      rw [show (List.finRange (m + 1)).toArray.size = s.size from by simp [Hm.out]] at hS
      refine hS.mono ?_
      rintro e w4 ⟨rfl, d', hp, hsd, hg4, hgr⟩
      have hb4 : RowKit.Below w.heap.size w w4 := hbr.grown hgr hbr.size (fun k hk => by injection hk with hk; omega)
      have hord := suffixOrd s.data.toList m Hm.out d' (by simpa using hp) hsd
      have ho := hord.unique (sOrd_is _)
      have hI : IntsAt w4 (w.heap.size + 1) (natsI (sOrd s.data.toList)) := by
        rw [← ho]
        refine ⟨hg4.lt, fun j hj => ⟨?_, hg4.frozen j⟩⟩
        have hj2 : j < d'.size := by simpa [natsI] using hj
        rw [hg4.cell, Array.getElem?_eq_getElem (by simpa using hj2), Array.getElem_map, natsI_getD _ _ (by simpa using hj2), List.getD_eq_getElem?_getD, List.getElem?_eq_getElem (by simpa using hj2), List.getElem_map]
        rfl
      clear hS hgr hp hsd hord ho hg4 hmk hbr hx hg
      go_wp2
      refine bodyPost_ret (by simp [results, Try.results11, go_sem]; try rfl) rfl ?_
      exact ⟨w.heap.size + 1, rfl, by omega, hI, hb4⟩

set_option maxHeartbeats 2000000 in
theorem order_zero (w : World) : Calls Try.prog 11 #[.string ⟨#[]⟩] w (ToldOrder ⟨#[]⟩ w) := by
  have hbx := Blk.new w 9 #[.string ⟨#[]⟩]
  have hb0 : RowKit.Below w.heap.size w (w.alloc (Obj.cells #[.string ⟨#[]⟩] 9)) := (Below.refl _ _).alloc (Nat.le_refl _) _
  have hC := Lib.hid (wordCheck_ok ⟨#[]⟩ (by decide))
  have hmk := fun w => make_ints (P := Try.prog) 25 3 Try.underlying25 (by kernel_rfl) 0 0 rfl (by omega) w
  go_enter Try.func11, Try.ntmps11
  go_wp2_with fail
  have c1 : (w.alloc (Obj.cells #[.string ⟨#[]⟩] 9)).cell? ⟨w.heap.size, 0, none⟩ = some (.string ⟨#[]⟩) := hbx.cell 0
  have hz1 : (w.alloc (Obj.cells #[.string ⟨#[]⟩] 9)).heap.size = w.heap.size + 1 := by simp
  generalize w.alloc (Obj.cells #[.string ⟨#[]⟩] 9) = w1 at *
  go_wp2_with fail
  refine (hC.out _).mono ?_
  rintro e w2 ⟨rfl, rfl⟩
  have hb2 := hb0.alloc hb0.size (Obj.cells (madeCells #[.int .i64 0] 0) 3)
  have hz2 : (w1.alloc (Obj.cells (madeCells #[.int .i64 0] 0) 3)).heap.size = w.heap.size + 2 := by simp [hz1]
  go_wp2
  generalize w1.alloc (Obj.cells (madeCells #[.int .i64 0] 0) 3) = w2 at *
  go_loopw [6, 17] (fun _ iv wr => iv = .int .i64 0 ∧ wr = w2) (fun _ iv _ => 0)
  case atStart => exact ⟨rfl, rfl⟩
  case round =>
    obtain ⟨rfl, rfl⟩ := hrel
    go_wp2_with fail
    refine (intSort_none _ _ _ _).mono ?_
    rintro e w4 ⟨rfl, rfl⟩
    go_wp2
    refine bodyPost_ret (by simp [results, Try.results11, go_sem]; try rfl) rfl ?_
    refine ⟨w.heap.size + 1, rfl, by omega, ⟨by omega, fun j hj => ?_⟩, hb2⟩
    rw [natsI_len, (sOrd_is _).len] at hj
    exact absurd hj (Nat.not_lt_zero _)
theorem order_ok (s : ByteArray) (hs : s.size ≤ 200) (w : World) : Calls Try.prog 11 #[.string s] w (ToldOrder s w) := by
  rcases Nat.eq_zero_or_pos s.size with h0 | h0
  · obtain rfl : s = ⟨#[]⟩ := by
      obtain ⟨⟨l⟩⟩ := s
      cases l with
      | nil => rfl
      | cons a l => simp [ByteArray.size] at h0
    exact order_zero w
  · exact order_pos s h0 hs w
set_option maxHeartbeats 1000000 in
theorem order_no (s : ByteArray) (hs : 200 < s.size) (w : World) : Calls Try.prog 11 #[.string s] w fun e w' => e = .returned (.tuple #[.slice none 0 0, .int .i64 2]) ∧ RowKit.Below w.heap.size w w' := by
  have hC := Lib.hid (wordCheck_no s hs)
  have hbx := Blk.new w 9 #[.string s]
  have hb0 : RowKit.Below w.heap.size w (w.alloc (Obj.cells #[.string s] 9)) := (Below.refl _ _).alloc (Nat.le_refl _) _
  have c1 : (w.alloc (Obj.cells #[.string s] 9)).cell? ⟨w.heap.size, 0, none⟩ = some (.string s) := hbx.cell 0
  go_enter Try.func11, Try.ntmps11
  go_wp2_with fail
  generalize w.alloc (Obj.cells #[.string s] 9) = w1 at *
  go_wp2_with fail
  refine (hC.out _).mono ?_
  rintro e w2 ⟨rfl, rfl⟩
  go_wp2
  refine bodyPost_ret (by simp [results, Try.results11, go_sem]; try rfl) rfl ?_
  exact ⟨rfl, hb0⟩
end Go.Proofs.Ytkbogiijbmjbmaa
