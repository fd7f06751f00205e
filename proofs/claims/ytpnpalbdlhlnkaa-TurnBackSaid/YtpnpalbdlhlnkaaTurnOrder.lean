/- The walk of turn.order: places by their bytes. -/
import Derived.Test.YtpnpalbdlhlnkaaTurnOf
namespace Go.Proofs.Ytpnpalbdlhlnkaa
open Go.RowKit Go.Sort Go.Shelf Go.Lib
set_option linter.unusedVariables false

theorem isOrdB_ex (s : List UInt8) : ∃ o, IsOrdB s o := by
  classical
  have tr : ∀ a b c : Nat, decide (¬ ltB s b a) = true → decide (¬ ltB s c b) = true → decide (¬ ltB s c a) = true := fun a b c h1 h2 => by
    have h1 := of_decide_eq_true h1
    have h2 := of_decide_eq_true h2
    refine decide_eq_true fun h => ?_
    rcases ltB_tri s b c with k | k | k
    · exact h1 (ltB_trans k h)
    · subst k; exact h1 h
    · exact h2 k
  have tot : ∀ a b : Nat, (decide (¬ ltB s b a) || decide (¬ ltB s a b)) = true := fun a b => by
    by_cases h : ltB s b a
    · have : ¬ ltB s a b := fun k => ltB_irrefl s a (ltB_trans k h)
      rw [decide_eq_true this, Bool.or_true]
    · rw [decide_eq_true h, Bool.true_or]
  have hs := List.pairwise_mergeSort tr tot (List.range s.length)
  have hp := List.mergeSort_perm (List.range s.length) (fun a b => decide (¬ ltB s b a))
  refine ⟨_, hp, ?_⟩
  have hn := hp.nodup_iff.2 List.nodup_range
  refine (List.Pairwise.and hs hn).imp fun {a b} h => ?_
  have h1 := of_decide_eq_true h.1
  rcases ltB_tri s a b with k | k | k
  · exact k
  · exact absurd k h.2
  · exact absurd k h1
noncomputable def ordB (s : List UInt8) : List Nat := Classical.choose (isOrdB_ex s)
theorem ordB_is (s : List UInt8) : IsOrdB s (ordB s) := Classical.choose_spec (isOrdB_ex s)

set_option maxHeartbeats 1000000 in
theorem orderCmp (s : ByteArray) (hs : s.size ≤ 200) (b2 : Nat) (i k : Nat) (hi : i < s.size) (hk : k < s.size) (W : World) (c2 : W.cell? ⟨b2, 0, none⟩ = some (.string s)) :
    Calls Try.prog 18 #[.int .i64 i, .int .i64 k, .pointer (some ⟨b2, 0, none⟩)] W fun e w' => e = .returned (.int .i64 (cmpB s.data.toList i k)) ∧ ∃ q os', w' = grow (W.drewN q) os' := by
  obtain ⟨R, hR⟩ : ∃ R, R = cmpB s.data.toList i k := ⟨_, rfl⟩
  rw [← hR]
  unfold cmpB at hR
  rw [getD_bytes s i hi, getD_bytes s k hk] at hR
  have hi' : (i : Int) < s.size := by omega
  have hk' : (k : Int) < s.size := by omega
  generalize hx : s[i] = x at *
  generalize hy : s[k] = y at *
  have hxl : (x.toNat : Int) < 256 := by have := x.toNat_lt; omega
  have hyl : (y.toNat : Int) < 256 := by have := y.toNat_lt; omega
  have HR := Lib.hid hR
  clear hR
  by_cases hc : x = y
  · have q1 : ((x.toNat : Int) != (y.toNat : Int)) = false := by rw [hc]; simp
    obtain rfl : R = (i : Int) - (k : Int) := by rw [HR.out, if_neg (by simpa using hc)]
    have e1 : IntKind.i64.wrap ((i : Int) - k) = (i : Int) - k := by rw [IntKind.wrap_i64]; omega
    have e2 : wrap64 ((i : Int) - k) = (i : Int) - k := IntWalk.wrap64_in _ (by omega)
    go_enter Try.func18, Try.ntmps18
    go_wp2_with fail
    go_quiet (fail)
    go_wp2
    go_ret
    exact ⟨by first | rfl | simp [e2], _, #[], by simp; try rfl⟩
  · have q1 : ((x.toNat : Int) != (y.toNat : Int)) = true := by
      rw [bne_iff_ne]; intro h; exact hc (UInt8.toNat_inj.1 (by omega))
    obtain rfl : R = (x.toNat : Int) - (y.toNat : Int) := by rw [HR.out, if_pos hc]
    have e1 : IntKind.i64.wrap ((x.toNat : Int) - y.toNat) = (x.toNat : Int) - y.toNat := by rw [IntKind.wrap_i64]; omega
    have e2 : wrap64 ((x.toNat : Int) - y.toNat) = (x.toNat : Int) - y.toNat := IntWalk.wrap64_in _ (by omega)
    go_enter Try.func18, Try.ntmps18
    go_wp2_with fail
    go_quiet (fail)
    go_wp2
    go_quiet (fail)
    go_wp2
    go_ret
    exact ⟨by first | rfl | simp [e2], _, #[], by simp; try rfl⟩
theorem orderSwo (s : List UInt8) (m : Nat) : SWO (ltOf fun x y : Fin (m + 1) => cmpB s x.1 y.1) := by
  have e : ∀ x y : Fin (m + 1), ltOf (fun x y : Fin (m + 1) => cmpB s x.1 y.1) x y = true ↔ ltB s x.1 y.1 := fun x y => by unfold ltOf; rw [decide_eq_true_iff]; exact cmpB_lt s x.1 y.1
  refine ⟨fun x => ?_, fun x y z h1 h2 => ?_, fun x y z h1 h2 => ?_⟩
  · rw [Bool.eq_false_iff]; intro h; exact ltB_irrefl s _ ((e x x).1 h)
  · rw [e] at *; exact ltB_trans h1 h2
  · rw [Bool.eq_false_iff] at *
    intro h
    have h3 := (e x z).1 h
    rcases ltB_tri s x.1 y.1 with k | k | k
    · exact h1 ((e x y).2 k)
    · exact h2 ((e y z).2 (by rw [← k]; exact h3))
    · exact h2 ((e y z).2 (ltB_trans k h3))
theorem orderOrd (s : List UInt8) (m : Nat) (hm : s.length = m + 1) (d' : Array (Fin (m + 1))) (hp : d'.toList.Perm (List.finRange (m + 1))) (hs : d'.toList.Pairwise (fun x y => ltOf (fun x y : Fin (m + 1) => cmpB s x.1 y.1) y x = false)) : IsOrdB s (d'.toList.map (·.1)) := by
  have hn : d'.toList.Nodup := hp.nodup_iff.2 (List.nodup_finRange _)
  refine ⟨?_, ?_⟩
  · have := hp.map (fun x : Fin (m + 1) => x.1)
    rw [hm]
    refine this.trans ?_
    have e : (List.finRange (m + 1)).map (fun x : Fin (m + 1) => x.1) = List.range (m + 1) := List.ext_getElem (by simp) fun j h1 h2 => by simp
    rw [e]
  · refine List.Pairwise.map _ (fun a b h => ?_) (List.Pairwise.and hs hn)
    obtain ⟨h1, h2⟩ := h
    unfold ltOf at h1
    have h1 := of_decide_eq_false h1
    rw [cmpB_lt] at h1
    rcases ltB_tri s a.1 b.1 with k | k | k
    · exact k
    · exact absurd (Fin.ext k) h2
    · exact absurd k h1

set_option maxRecDepth 100000 in
set_option maxHeartbeats 4000000 in
theorem turnOrder_pos (s : ByteArray) (h0 : 0 < s.size) (hs : s.size ≤ 200) (w : World) : Calls Try.prog 13 #[.string s] w fun e w' =>
    ∃ g, e = .returned (.slice (some ⟨g, 0, none⟩) s.size s.size) ∧ w.heap.size ≤ g ∧ g < w'.heap.size ∧ (∀ k, k < s.size → w'.cell? ⟨g, k, none⟩ = some (.int .i64 (((ordB s.data.toList).getD k 0 : Nat) : Int))) ∧ RowKit.Below w.heap.size w w' := by
  obtain ⟨m, hm⟩ : ∃ m, s.size = m + 1 := ⟨s.size - 1, by omega⟩
  have Hm := Lib.hid hm
  clear hm
  have hbx := Blk.new w 9 #[.string s]
  have hb0 : RowKit.Below w.heap.size w (w.alloc (Obj.cells #[.string s] 9)) := (Below.refl _ _).alloc (Nat.le_refl _) _
  have hmk := fun w => make_ints (P := Try.prog) 33 3 Try.underlying33 (by kernel_rfl) s.size s.size rfl (by omega) w
  have eg : ∀ args w, (callFunc 18 args).run Try.prog w = .ok (.enter 18 args) w := enters_of Try.func18 (by kernel_rfl) rfl
  have c1 : (w.alloc (Obj.cells #[.string s] 9)).cell? ⟨w.heap.size, 0, none⟩ = some (.string s) := hbx.cell 0
  have hgs : (w.alloc (Obj.cells #[.string s] 9)).heap.size = w.heap.size + 1 := by simp
  go_enter Try.func13, Try.ntmps13
  go_wp2_with fail
  generalize w.alloc (Obj.cells #[.string s] 9) = w1 at *
  have hMz : (madeCells #[.int .i64 0] s.size).size = s.size := by
    have := toList_madeCells_one (.int .i64 0) s.size
    rw [← Array.length_toList, this, List.length_replicate]
  have hgo := Blk.new w1 3 (madeCells #[.int .i64 0] s.size)
  have hbx2 := hbx.alloc (Obj.cells (madeCells #[.int .i64 0] s.size) 3)
  have hb2 := hb0.alloc hb0.size (Obj.cells (madeCells #[.int .i64 0] s.size) 3)
  rw [hgs] at hgo
  go_wp2
  generalize w1.alloc (Obj.cells (madeCells #[.int .i64 0] s.size) 3) = w2 at *
  generalize madeCells #[.int .i64 0] s.size = cs0 at *
  go_loopw [4, 10] (fun _ iv wr => ∃ (k : Nat) (cs : Array Value), k ≤ s.size ∧ iv = .int .i64 k ∧ cs.size = s.size ∧ Hid (∀ j, j < k → cs[j]? = some (.int .i64 j)) ∧ Blk wr (w.heap.size + 1) 3 cs ∧ Blk wr w.heap.size 9 #[.string s] ∧ RowKit.Below w.heap.size w wr ∧ w.heap.size + 2 ≤ wr.heap.size) (fun _ iv _ => s.size - (intOf iv).toNat)
  case atStart => exact ⟨0, cs0, Nat.zero_le _, rfl, hMz, Lib.hid (fun j hj => by omega), hgo, hbx2, hb2, hgo.lt⟩
  case round =>
    clear hgo hbx2 hb2 hMz
    obtain ⟨k, cs, hk, rfl, hcs, Hcs, hg, hx, hbr, hsz⟩ := hrel
    by_cases hlt : k < s.size
    · have f0 := hg.frozen k
      have g0 : wr.cell? ⟨w.heap.size + 1, k, none⟩ = some (cs[k]'(by omega)) := by rw [hg.cell, Array.getElem?_eq_getElem]
      have ilt : (k : Int) < s.size := by omega
      generalize hck : cs[k]'(by omega) = ck at *
      clear hck
      go_wp2
      go_roundw
      case rel =>
        refine ⟨k + 1, _, by omega, by go_num, ?_, Lib.hid fun j hj => ?_, hg.set_ k (.int .i64 k), hx.far (by show w.heap.size ≠ w.heap.size + 1; omega) _, hbr.setCell (by show w.heap.size ≤ w.heap.size + 1; omega) _, by rw [size_setCell]; exact hsz⟩
        · simpa using hcs
        · rw [Array.getElem?_setIfInBounds]
          by_cases e : k = j
          · subst e; rw [if_pos rfl, if_pos (by omega)]
          · rw [if_neg e]; exact Hcs.out j (by omega)
      case measure => simp [intOf]; omega
    · obtain rfl : k = s.size := by omega
      generalize wr = V at *
      have hcd : cs = ((List.finRange (m + 1)).toArray.map fun x : Fin (m + 1) => Value.int .i64 (x.1 : Int)) := by
        refine Array.ext (by simp [hcs, Hm.out]) fun j h1 h2 => ?_
        have := Hcs.out j (by omega)
        rw [Array.getElem?_eq_getElem h1] at this
        injection this with this
        rw [this]; simp
      rw [hcd] at hg
      clear Hcs hcd hcs
      go_wp2_with fail
      have hS := intSort_any (fun x : Fin (m + 1) => (x.1 : Int)) (fun x y => cmpB s.data.toList x.1 y.1) (orderSwo s.data.toList m) 18 #[.pointer (some ⟨w.heap.size, 0, none⟩)] (w.heap.size + 1) (List.finRange (m + 1)).toArray V hg eg
        (fun W hW x y => orderCmp s hs w.heap.size x.1 y.1 (by have := x.2; have := Hm.out; omega) (by have := y.2; have := Hm.out; omega) W ((hW _ _ _ (by omega) hx).cell 0)) (by have := Hm.out; simp; omega)
      rw [show (List.finRange (m + 1)).toArray.size = s.size from by simp [Hm.out]] at hS
      refine hS.mono ?_
      rintro e w4 ⟨rfl, d', hp, hsd, hg4, hgr⟩
      have hb4 : RowKit.Below w.heap.size w w4 := hbr.grown hgr hbr.size (fun k hk => by injection hk with hk; omega)
      have hord := orderOrd s.data.toList m Hm.out d' (by simpa using hp) hsd
      have ho := (ordB_is s.data.toList).unique hord
      have hol : (ordB s.data.toList).length = s.size := (ordB_is s.data.toList).len
      have hcell : ∀ k, k < s.size → w4.cell? ⟨w.heap.size + 1, k, none⟩ = some (.int .i64 (((ordB s.data.toList).getD k 0 : Nat) : Int)) := fun k hk => by
        have hk2 : k < d'.size := by rw [← hol, ho] at hk; simpa using hk
        rw [hg4.cell, Array.getElem?_eq_getElem (by simpa using hk2), Array.getElem_map, ho, List.getD_eq_getElem?_getD, List.getElem?_eq_getElem (by simpa using hk2), List.getElem_map]
        rfl
      have hbz : w.heap.size + 1 < w4.heap.size := hg4.lt
      clear hS hx hg hbr hgr hp hsd ho hord hol hmk
      go_wp2
      go_ret
      exact ⟨w.heap.size + 1, rfl, by omega, hbz, hcell, hb4⟩
end Go.Proofs.Ytpnpalbdlhlnkaa
