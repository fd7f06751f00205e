/- The walk of turn.Put. -/
import Derived.Test.YtpnpalbdlhlnkaaIntSort
import Derived.Test.YtpnpalbdlhlnkaaIntSort0
import Derived.Test.YtpnpalbdlhlnkaaCheck
import Derived.Test.YtpnpalbdlhlnkaaOwnU
import Derived.Test.YtpnpalbdlhlnkaaAppEq
import Derived.IntWalk
namespace Go.Proofs.Ytpnpalbdlhlnkaa
open Go.RowKit Go.Sort Go.Shelf Go.Lib
set_option linter.unusedVariables false

theorem ext_rot (s : ByteArray) (i : Nat) (hi : i ≤ s.size) : ((s ++ s).extract i (i + s.size)).data.toList = rotL s.data.toList i := by
  rw [Lib.extract_data, show (s ++ s).data.toList = s.data.toList ++ s.data.toList from by simp [ByteArray.data_append], Nat.add_sub_cancel_left]
  have hl : s.data.toList.length = s.size := rfl
  unfold rotL
  rw [List.drop_append_of_le_length (by omega), List.take_append, List.take_of_length_le (by rw [List.length_drop]; omega), List.length_drop, show s.size - (s.data.toList.length - i) = i from by omega]

theorem quiet_leftT {P : Program} {f : FuncId} {args : Array Value} {w : World} {n : Nat} {v : Value} (h : Calls P f args (w.drewN n) fun e w' => e = .returned v ∧ w.drewN n = w') :
    Calls P f args (w.drewN n) fun e w'' => e = .returned v ∧ ∃ m, w'' = w.drewN m := h.mono fun _ _ ⟨he, hb⟩ => ⟨he, n, hb.symm⟩
set_option maxHeartbeats 1000000 in
theorem turnCmp (s : ByteArray) (hs : s.size ≤ 200) (b2 b3 : Nat) (i k : Nat) (hi : i < s.size) (hk : k < s.size) (W : World) (c2 : W.cell? ⟨b2, 0, none⟩ = some (.string (s ++ s))) (c3 : W.cell? ⟨b3, 0, none⟩ = some (.string s)) :
    Calls Try.prog 11 #[.int .i64 i, .int .i64 k, .pointer (some ⟨b2, 0, none⟩), .pointer (some ⟨b3, 0, none⟩)] W fun e w' => e = .returned (.int .i64 (cmpR s.data.toList i k)) ∧ ∃ q os', w' = grow (W.drewN q) os' := by
  obtain ⟨p, hp⟩ : ∃ p, p = i + s.size := ⟨_, rfl⟩
  obtain ⟨q, hq⟩ : ∃ q, q = k + s.size := ⟨_, rfl⟩
  obtain ⟨tw, htw⟩ : ∃ tw, tw = s ++ s := ⟨_, rfl⟩
  have hts : tw.size = s.size + s.size := by rw [htw, ByteArray.size_append]
  rw [← htw] at c2
  have hc := fun w => compare_any (tw.extract i p) (tw.extract k q) w
  rw [htw, hp, hq, ext_rot s i (by omega), ext_rot s k (by omega)] at hc
  rw [← htw, ← hp, ← hq] at hc
  unfold cmpR
  generalize Lib.compareBytes (rotL s.data.toList i) (rotL s.data.toList k) = c at *
  have hpw : IntKind.i64.wrap ((i : Int) + (s.size : Int)) = (p : Int) := by rw [IntKind.wrap_i64]; omega
  have hqw : IntKind.i64.wrap ((k : Int) + (s.size : Int)) = (q : Int) := by rw [IntKind.wrap_i64]; omega
  have hp1 : p ≤ tw.size := by omega
  have hq1 : q ≤ tw.size := by omega
  have hip : i ≤ p := by omega
  have hkq : k ≤ q := by omega
  have hp1' : (p : Int) ≤ tw.size := by omega
  have hq1' : (q : Int) ≤ tw.size := by omega
  have hip' : (i : Int) ≤ p := by omega
  have hkq' : (k : Int) ≤ q := by omega
  obtain ⟨R, hR⟩ : ∃ R, R = if c ≠ 0 then c else (i : Int) - (k : Int) := ⟨_, rfl⟩
  rw [← hR]
  have HR := Lib.hid hR
  have Hp := Lib.hid hp
  have Hq := Lib.hid hq
  have Hts := Lib.hid hts
  have Hi := Lib.hid hi
  have Hk := Lib.hid hk
  have Hs := Lib.hid hs
  clear htw hp hq hts hi hk hs hR
  go_enter Try.func11, Try.ntmps11
  go_wp2_with fail
  go_quiet ((go_at_call 12; exact quiet_leftT (hc _)))
  by_cases hc0 : c = 0
  · have q1 : (c != 0) = false := by simp [hc0]
    obtain rfl : R = (i : Int) - (k : Int) := by rw [HR.out, if_neg (by simp [hc0])]
    have e1 : IntKind.i64.wrap ((i : Int) - k) = (i : Int) - k := by have := Hi.out; have := Hk.out; have := Hs.out; rw [IntKind.wrap_i64]; omega
    have e2 : wrap64 ((i : Int) - k) = (i : Int) - k := by have := Hi.out; have := Hk.out; have := Hs.out; exact IntWalk.wrap64_in _ (by omega)
    clear hpw hqw hp1 hq1 hip hkq hp1' hq1' hip' hkq'
    go_wp2
    go_ret
    exact ⟨by first | rfl | simp [e2], _, #[], by simp; try rfl⟩
  · have q1 : (c != 0) = true := by simpa using hc0
    obtain rfl : R = c := by rw [HR.out, if_pos hc0]
    clear hpw hqw hp1 hq1 hip hkq hp1' hq1' hip' hkq'
    go_wp2
    go_ret
    exact ⟨rfl, _, #[], by simp; try rfl⟩

theorem turnSwo (s : List UInt8) (m : Nat) : SWO (ltOf fun x y : Fin (m + 1) => cmpR s x.1 y.1) := by
  have e : ∀ x y : Fin (m + 1), ltOf (fun x y : Fin (m + 1) => cmpR s x.1 y.1) x y = true ↔ ltR s x.1 y.1 := fun x y => by unfold ltOf; rw [decide_eq_true_iff]; exact cmpR_lt s x.1 y.1
  refine ⟨fun x => ?_, fun x y z h1 h2 => ?_, fun x y z h1 h2 => ?_⟩
  · rw [Bool.eq_false_iff]; intro h; exact ltR_irrefl s _ ((e x x).1 h)
  · rw [e] at *; exact ltR_trans h1 h2
  · rw [Bool.eq_false_iff] at *
    intro h
    have h3 := (e x z).1 h
    rcases ltR_tri s x.1 y.1 with k | k | k
    · exact h1 ((e x y).2 k)
    · exact h2 ((e y z).2 (by rw [← k]; exact h3))
    · exact h2 ((e y z).2 (ltR_trans k h3))
/-- What the sort leaves is the order of turns. -/
theorem turnOrd (s : List UInt8) (m : Nat) (hm : s.length = m + 1) (d' : Array (Fin (m + 1))) (hp : d'.toList.Perm (List.finRange (m + 1))) (hs : d'.toList.Pairwise (fun x y => ltOf (fun x y : Fin (m + 1) => cmpR s x.1 y.1) y x = false)) : IsOrd s (d'.toList.map (·.1)) := by
  have hn : d'.toList.Nodup := hp.nodup_iff.2 (List.nodup_finRange _)
  refine ⟨?_, ?_⟩
  · have := hp.map (fun x : Fin (m + 1) => x.1)
    rw [hm]
    refine this.trans ?_
    have e : (List.finRange (m + 1)).map (fun x : Fin (m + 1) => x.1) = List.range (m + 1) := List.ext_getElem (by simp) fun j h1 h2 => by simp
    rw [e]
  · refine List.Pairwise.map _ (fun a b h => ?_) (List.Pairwise.and hs hn)
    obtain ⟨h1, h2⟩ := h
    unfold ltOf at h1
    have h1 := of_decide_eq_false h1
    rw [cmpR_lt] at h1
    rcases ltR_tri s a.1 b.1 with k | k | k
    · exact k
    · exact absurd (Fin.ext k) h2
    · exact absurd k h1

def atK (o : List Nat) (k : Nat) : Nat := if zeroAt o < k then zeroAt o else 0
theorem atK_succ {o : List Nat} (hn : o.Nodup) {k : Nat} (hk : k < o.length) : atK o (k + 1) = if o.getD k 0 = 0 then k else atK o k := by
  have hg : o.getD k 0 = o[k] := by rw [List.getD_eq_getElem?_getD, List.getElem?_eq_getElem hk]; rfl
  unfold atK zeroAt
  by_cases h : o.getD k 0 = 0
  · rw [if_pos h]
    have : o.idxOf 0 = k := by
      rw [hg] at h
      rw [← h]
      exact List.Nodup.idxOf_getElem hn k hk
    rw [if_pos (by omega), this]
  · rw [if_neg h]
    have : o.idxOf 0 ≠ k := fun e => by
      have h1 : o.idxOf 0 < o.length := by omega
      have h2 := List.getElem_idxOf h1
      apply h
      rw [hg]
      simpa [e] using h2
    by_cases h1 : o.idxOf 0 < k
    · rw [if_pos h1, if_pos (by omega)]
    · rw [if_neg h1, if_neg (by omega)]

/-- What Put tells of a word. -/
def ToldPut (s : ByteArray) (w : World) (e : Ending) (w' : World) : Prop :=
  ∃ o, IsOrd s.data.toList o ∧ e = .returned (.tuple #[.string ⟨(lastB s.data.toList o).toArray⟩, .int .i64 (zeroAt o : Int), .int .i64 0]) ∧ RowKit.Below w.heap.size w w'

set_option maxRecDepth 100000 in
set_option maxHeartbeats 4000000 in
theorem turnPut_pos (s : ByteArray) (h0 : 0 < s.size) (hs : s.size ≤ 200) (w : World) : Calls Try.prog 5 #[.string s] w (ToldPut s w) := by
  obtain ⟨m, hm⟩ : ∃ m, s.size = m + 1 := ⟨s.size - 1, by omega⟩
  have Hm := Lib.hid hm
  clear hm
  have hbx := Blk.new w 9 #[.string s]
  have hb0 : RowKit.Below w.heap.size w (w.alloc (Obj.cells #[.string s] 9)) := (Below.refl _ _).alloc (Nat.le_refl _) _
  have hC := Lib.hid (wordCheck_ok s hs)
  have hmk := fun w => make_ints (P := Try.prog) 33 3 Try.underlying33 (by kernel_rfl) s.size s.size rfl (by omega) w
  have eg : ∀ args w, (callFunc 11 args).run Try.prog w = .ok (.enter 11 args) w := enters_of Try.func11 (by kernel_rfl) rfl
  have hca : ∀ w, (Op.stringOp .add s s).run Try.prog w = .ok (.string (s ++ s)) w := fun w => run_string_add_sum w _ _ (by omega)
  go_enter Try.func5, Try.ntmps5
  go_wp2_with fail
  have c1 : (w.alloc (Obj.cells #[.string s] 9)).cell? ⟨w.heap.size, 0, none⟩ = some (.string s) := hbx.cell 0
  have hz1 : (w.alloc (Obj.cells #[.string s] 9)).heap.size = w.heap.size + 1 := by simp
  generalize w.alloc (Obj.cells #[.string s] 9) = w1 at *
  go_wp2_with fail
  refine (hC.out _).mono ?_
  rintro e w2 ⟨rfl, rfl⟩
  have hMz : (madeCells #[.int .i64 0] s.size).size = s.size := by
    have := toList_madeCells_one (.int .i64 0) s.size
    rw [← Array.length_toList, this, List.length_replicate]
  have hgo := Blk.new w1 3 (madeCells #[.int .i64 0] s.size)
  have hbx2 := hbx.alloc (Obj.cells (madeCells #[.int .i64 0] s.size) 3)
  have hb2 := hb0.alloc hb0.size (Obj.cells (madeCells #[.int .i64 0] s.size) 3)
  have hgs : w1.heap.size = w.heap.size + 1 := hz1
  rw [hgs] at hgo
  go_wp2
  generalize w1.alloc (Obj.cells (madeCells #[.int .i64 0] s.size) 3) = w2 at *
  generalize madeCells #[.int .i64 0] s.size = cs0 at *
  go_loopw [7, 23] (fun _ iv wr => ∃ (k : Nat) (cs : Array Value), k ≤ s.size ∧ iv = .int .i64 k ∧ cs.size = s.size ∧ Hid (∀ j, j < k → cs[j]? = some (.int .i64 j)) ∧ Blk wr (w.heap.size + 1) 3 cs ∧ Blk wr w.heap.size 9 #[.string s] ∧ RowKit.Below w.heap.size w wr ∧ w.heap.size + 2 ≤ wr.heap.size) (fun _ iv _ => s.size - (intOf iv).toNat)
  case atStart => exact ⟨0, cs0, Nat.zero_le _, rfl, hMz, Lib.hid (fun j hj => by omega), hgo, hbx2, hb2, hgo.lt⟩
  case round =>
    clear hgo hbx2 hb2 hMz
    obtain ⟨k, cs, hk, rfl, hcs, Hcs, hg, hx, hbr, hsz⟩ := hrel
    by_cases hlt : k < s.size
    · have f0 := hg.frozen k
      have g0 : wr.cell? ⟨w.heap.size + 1, k, none⟩ = some (cs[k]'(by omega)) := by rw [hg.cell, Array.getElem?_eq_getElem]
      have ilt : (k : Int) < s.size := by omega
      generalize hck : cs[k]'(by omega) = ck at *
      clear hck
      go_wp2
      go_roundw
      case rel =>
        refine ⟨k + 1, _, by omega, by go_num, ?_, Lib.hid fun j hj => ?_, hg.set_ k (.int .i64 k), hx.far (by show w.heap.size ≠ w.heap.size + 1; omega) _, hbr.setCell (by show w.heap.size ≤ w.heap.size + 1; omega) _, by rw [size_setCell]; exact hsz⟩
        · simpa using hcs
        · rw [Array.getElem?_setIfInBounds]
          by_cases e : k = j
          · subst e; rw [if_pos rfl, if_pos (by omega)]
          · rw [if_neg e]; exact Hcs.out j (by omega)
      case measure => simp [intOf]; omega
    · obtain rfl : k = s.size := by omega
      generalize wr = V at *
      have hcd : cs = ((List.finRange (m + 1)).toArray.map fun x : Fin (m + 1) => Value.int .i64 (x.1 : Int)) := by
        refine Array.ext (by simp [hcs, Hm.out]) fun j h1 h2 => ?_
        have := Hcs.out j (by omega)
        rw [Array.getElem?_eq_getElem h1] at this
        injection this with this
        rw [this]; simp
      rw [hcd] at hg
      have e1 : V.cell? ⟨w.heap.size, 0, none⟩ = some (.string s) := hx.cell 0
      have hy := Blk.new V 9 #[.string (s ++ s)]
      have hx3 := hx.alloc (Obj.cells #[.string (s ++ s)] 9)
      have hg3 := hg.alloc (Obj.cells #[.string (s ++ s)] 9)
      have hb3 := hbr.alloc hbr.size (Obj.cells #[.string (s ++ s)] 9)
      have hz3 : (V.alloc (Obj.cells #[.string (s ++ s)] 9)).heap.size = V.heap.size + 1 := by simp
      clear hx hg hbr Hcs hcd hcs
      go_wp2_with fail
      have hS := intSort_any (fun x : Fin (m + 1) => (x.1 : Int)) (fun x y => cmpR s.data.toList x.1 y.1) (turnSwo s.data.toList m) 11 #[.pointer (some ⟨V.heap.size, 0, none⟩), .pointer (some ⟨w.heap.size, 0, none⟩)] (w.heap.size + 1) (List.finRange (m + 1)).toArray (V.alloc (Obj.cells #[.string (s ++ s)] 9)) hg3 eg
        (fun W hW x y => turnCmp s hs V.heap.size w.heap.size x.1 y.1 (by have := x.2; have := Hm.out; omega) (by have := y.2; have := Hm.out; omega) W ((hW _ _ _ (by omega) hy).cell 0) ((hW _ _ _ (by omega) hx3).cell 0)) (by have := Hm.out; simp; omega)
      rw [show (List.finRange (m + 1)).toArray.size = s.size from by simp [Hm.out]] at hS
      refine hS.mono ?_
      rintro e w4 ⟨rfl, d', hp, hsd, hg4, hgr⟩
      have hx4 := hx3.grown hgr (fun e => by injection e with e; omega)
      have hy4 := hy.grown hgr (fun e => by injection e with e; omega)
      have hb4 : RowKit.Below w.heap.size w w4 := hb3.grown hgr hb3.size (fun k hk => by injection hk with hk; omega)
      have hz4 : V.heap.size + 1 ≤ w4.heap.size := by have := hgr.size; omega
      have hord := turnOrd s.data.toList m Hm.out d' (by simpa using hp) hsd
      obtain ⟨o, ho⟩ : ∃ o, o = d'.toList.map (·.1) := ⟨_, rfl⟩
      rw [← ho] at hord
      have hol : o.length = s.size := hord.len
      have hnd : o.Nodup := hord.perm.nodup_iff.2 List.nodup_range
      have hcell : ∀ k, k < s.size → w4.cell? ⟨w.heap.size + 1, k, none⟩ = some (.int .i64 ((o.getD k 0 : Nat) : Int)) := fun k hk => by
        have hk2 : k < d'.size := by rw [← hol, ho] at hk; simpa using hk
        rw [hg4.cell, Array.getElem?_eq_getElem (by simpa using hk2), Array.getElem_map, ho, List.getD_eq_getElem?_getD, List.getElem?_eq_getElem (by simpa using hk2), List.getElem_map]
        rfl
      have hbz : w.heap.size + 1 < w4.heap.size := hg4.lt
      have hK4 : ∀ k, k < w.heap.size → k < w4.heap.size := fun k hk => by omega
      have Ho := Lib.hid ho
      have Hord := Lib.hid hord
      have Hol := Lib.hid hol
      have Hnd := Lib.hid hnd
      clear hS hy hx3 hg3 hb3 hgr hp hsd ho hord hol hnd hz3 hca hmk
      go_wp2
      go_loopw [9, 10, 11, 12, 40] (fun bv av _ _ iv W => ∃ (k : Nat) (A : Option Addr) (c : Nat), k ≤ s.size ∧ iv = .int .i64 k ∧ av = .int .i64 ((atK o k : Nat) : Int) ∧ bv = .slice A k c ∧ OwnU W (fun q => q < w4.heap.size) A k c (lastB s.data.toList (o.take k)) ∧ RowKit.Below w4.heap.size w4 W) (fun _ _ _ _ iv _ => s.size - (intOf iv).toNat)
      case atStart =>
        refine ⟨0, _, 0, Nat.zero_le _, rfl, rfl, rfl, ⟨rfl, .inr ⟨w4.heap.size, 0, #[], rfl, by omega, Blk.new w4 _ _, Nat.le_refl _, Nat.zero_le _, rfl, rfl⟩⟩, (Below.refl _ _).alloc (Nat.le_refl _) _⟩
      case round =>
        obtain ⟨k, A, c, hk, rfl, rfl, rfl, hown, hbr⟩ := hrel
        have hb5 : RowKit.Below w.heap.size w wr := hb4.trans (hbr.mono (by omega))
        by_cases hlt : k < s.size
        · have k0 : wr.cell? ⟨w.heap.size + 1, k, none⟩ = some (.int .i64 ((o.getD k 0 : Nat) : Int)) := (hbr.cell (p := ⟨w.heap.size + 1, k, none⟩) hbz).trans (hcell k hlt)
          have k1 : wr.cell? ⟨V.heap.size, 0, none⟩ = some (.string (s ++ s)) := (hy4.below hbr hy4.lt).cell 0
          have k2 : wr.cell? ⟨w.heap.size, 0, none⟩ = some (.string s) := (hx4.below hbr hx4.lt).cell 0
          have hat := atK_succ Hnd.out (k := k) (by rw [Hol.out]; exact hlt)
          have htk : o.take (k + 1) = o.take k ++ [o.getD k 0] := take_succ_getD o k 0 (by rw [Hol.out]; exact hlt)
          have hii : o.getD k 0 < s.size := Hord.out.lt (by rw [List.getD_eq_getElem?_getD, List.getElem?_eq_getElem (by rw [Hol.out]; exact hlt)]; exact List.getElem_mem _)
          have hlb : lastB s.data.toList (o.take (k + 1)) = lastB s.data.toList (o.take k) ++ [prevB s.data.toList (o.getD k 0)] := by rw [htk]; unfold lastB; rw [List.map_append]; rfl
          have Hat := Lib.hid hat
          have Hlb := Lib.hid hlb
          clear hat htk hlb
          generalize o.getD k 0 = i at *
          obtain ⟨p, hp⟩ : ∃ p, p = i + s.size - 1 := ⟨_, rfl⟩
          obtain ⟨tw, htw⟩ : ∃ tw, tw = s ++ s := ⟨_, rfl⟩
          have hts : tw.size = s.size + s.size := by rw [htw, ByteArray.size_append]
          have hpt : p < tw.size := by omega
          have hpt' : (p : Int) < tw.size := by omega
          have hpe : (i : Int) + (s.size : Int) - 1 = (p : Int) := by omega
          have hpb : prevB s.data.toList i = tw[p] := by
            rw [← getD_bytes tw p hpt, htw, hp]
            unfold prevB
            rw [show (s ++ s).data.toList = s.data.toList ++ s.data.toList from by simp [ByteArray.data_append]]
            rfl
          rw [← htw] at k1
          have hk8 : k ≤ 8000000000000 := by omega
          obtain ⟨A', c', wr', r1, r2, r3, r4⟩ := run_append_U (P := Try.prog) (wr.alloc (Obj.cells #[.int .u8 (tw[p].toNat : Int)] 5)) (fun q => q < w4.heap.size) 28 28 Try.underlying28 infoU8 A k c _ (hown.alloc _) ⟨wr.heap.size, 0, none⟩ 1 tw[p] (by
              rw [World.cell?_alloc_mark]; rfl) rfl hk8 (fun q hq => by have := hbr.size; simp; omega)
          have hbr2 : RowKit.Below w4.heap.size w4 wr' := (hbr.alloc hbr.size _).grown r3 (by have := hbr.size; simp; omega) fun q hq => by have := (hown.lt q hq).1; omega
          rw [← hpb, ← Hlb.out] at r2
          have Hr2 := Lib.hid r2
          have Hts := Lib.hid hts
          have Hp := Lib.hid hp
          clear hts hp htw hpb r2 r3 r4
          have qz : ((i : Int) == 0) = decide (i = 0) := by
            by_cases h : i = 0
            · simp [h]
            · rw [decide_eq_false h]; simpa using (show (i : Int) ≠ 0 by omega)
          by_cases hi0 : i = 0
          · rw [if_pos hi0] at Hat
            have qz1 : ((i : Int) == 0) = true := by rw [qz]; exact decide_eq_true hi0
            clear qz hi0
            go_wp2_with (first | (at_builtin; go_must (refine wpList_app_eq rfl (.tmp 45) (.tmp 53) 28 28 rfl _ _ _ rfl rfl r1 ?_)))
            clear r1
            go_wp2
            go_roundw
            case rel => exact ⟨k + 1, A', c', by omega, by go_num, by rw [Hat.out], rfl, Hr2.out, hbr2⟩
            case measure => simp [intOf]; omega
          · rw [if_neg hi0] at Hat
            have qz2 : ((i : Int) == 0) = false := by rw [qz]; exact decide_eq_false hi0
            clear qz
            go_wp2_with (first | (at_builtin; go_must (refine wpList_app_eq rfl (.tmp 45) (.tmp 53) 28 28 rfl _ _ _ rfl rfl r1 ?_)))
            clear r1
            go_wp2
            go_roundw
            case rel => exact ⟨k + 1, A', c', by omega, by go_num, by rw [Hat.out], rfl, Hr2.out, hbr2⟩
            case measure => simp [intOf]; omega
        · obtain rfl : k = s.size := by omega
          have e : o.take s.size = o := List.take_of_length_le (by rw [Hol.out]; exact Nat.le_refl _)
          rw [e] at hown
          have hstr := run_string_U (P := Try.prog) 28 9 hown Try.underlying28 Try.underlying5 Try.underlying9
          have hz : atK o s.size = zeroAt o := by
            unfold atK zeroAt
            rw [if_pos]
            rw [← Hol.out]
            exact List.idxOf_lt_length_of_mem (Hord.out.perm.mem_iff.2 (List.mem_range.2 h0))
          rw [hz]
          have Hz := Lib.hid hz
          clear hz e
          go_wp2
          refine bodyPost_ret (by simp [results, Try.results5, go_sem]; try rfl) rfl ?_
          exact ⟨o, Hord.out, rfl, hb5⟩

set_option maxRecDepth 100000 in
set_option maxHeartbeats 2000000 in
theorem turnPut_zero (w : World) : Calls Try.prog 5 #[.string ⟨#[]⟩] w (ToldPut ⟨#[]⟩ w) := by
  have hC := Lib.hid (wordCheck_ok ⟨#[]⟩ (by decide))
  have hmk := fun w => make_ints (P := Try.prog) 33 3 Try.underlying33 (by kernel_rfl) 0 0 rfl (by omega) w
  have hca : ∀ w, (Op.stringOp .add (⟨#[]⟩ : ByteArray) ⟨#[]⟩).run Try.prog w = .ok (.string (⟨#[]⟩ ++ ⟨#[]⟩)) w := fun w => run_string_add_sum w _ _ (by decide)
  have hbx := Blk.new w 9 #[.string ⟨#[]⟩]
  have hb0 : RowKit.Below w.heap.size w (w.alloc (Obj.cells #[.string ⟨#[]⟩] 9)) := (Below.refl _ _).alloc (Nat.le_refl _) _
  have c1 : (w.alloc (Obj.cells #[.string ⟨#[]⟩] 9)).cell? ⟨w.heap.size, 0, none⟩ = some (.string ⟨#[]⟩) := hbx.cell 0
  go_enter Try.func5, Try.ntmps5
  go_wp2_with fail
  generalize w.alloc (Obj.cells #[.string ⟨#[]⟩] 9) = w1 at *
  go_wp2_with fail
  refine (hC.out _).mono ?_
  rintro e w2 ⟨rfl, rfl⟩
  have hbx2 := hbx.alloc (Obj.cells (madeCells #[.int .i64 0] 0) 3)
  have hb2 := hb0.alloc hb0.size (Obj.cells (madeCells #[.int .i64 0] 0) 3)
  go_wp2
  generalize w1.heap.size = g1 at *
  generalize w1.alloc (Obj.cells (madeCells #[.int .i64 0] 0) 3) = w2 at *
  go_loopw [7, 23] (fun _ iv wr => iv = .int .i64 0 ∧ wr = w2) (fun _ iv _ => 0)
  case atStart => exact ⟨rfl, rfl⟩
  case round =>
    obtain ⟨rfl, rfl⟩ := hrel
    have e1 : wr.cell? ⟨w.heap.size, 0, none⟩ = some (.string ⟨#[]⟩) := hbx2.cell 0
    generalize wr = V at *
    have hb3 := hb2.alloc hb2.size (Obj.cells #[.string ((⟨#[]⟩ : ByteArray) ++ ⟨#[]⟩)] 9)
    go_wp2_with fail
    refine (intSort_none _ _ _ _).mono ?_
    rintro e w4 ⟨rfl, rfl⟩
    have hb4 := hb3.alloc hb3.size (Obj.cells #[] 5)
    go_wp2
    go_loopw [9, 10, 11, 12, 40] (fun bv av _ _ iv W => iv = .int .i64 0 ∧ av = .int .i64 0 ∧ OwnU W (fun q => q < w.heap.size) none 0 0 [] ∧ (∃ g, bv = .slice (some ⟨g, 0, none⟩) 0 0) ∧ RowKit.Below w.heap.size w W) (fun _ _ _ _ iv _ => 0)
    case atStart => exact ⟨rfl, rfl, OwnU.nil _ _, ⟨_, rfl⟩, hb4⟩
    case round =>
      obtain ⟨rfl, rfl, hown, ⟨g, rfl⟩, hbr⟩ := hrel
      have hstr : (convert 28 9 (.slice (some ⟨g, 0, none⟩) 0 0)).run Try.prog wr = .ok (.string ⟨#[]⟩) wr := by
        refine run_string_of wr 28 9 5 ⟨g, 0, none⟩ 0 0 [] rfl Try.underlying28 Try.underlying5 Try.underlying9 fun j hj => by simp at hj
      go_wp2
      refine bodyPost_ret (by simp [results, Try.results5, go_sem]; try rfl) rfl ?_
      exact ⟨[], ⟨by simp, by simp⟩, rfl, hbr⟩
theorem turnPut_ok (s : ByteArray) (hs : s.size ≤ 200) (w : World) : Calls Try.prog 5 #[.string s] w (ToldPut s w) := by
  rcases Nat.eq_zero_or_pos s.size with h0 | h0
  · obtain rfl : s = ⟨#[]⟩ := by
      obtain ⟨⟨l⟩⟩ := s
      cases l with
      | nil => rfl
      | cons a l => simp [ByteArray.size] at h0
    exact turnPut_zero w
  · exact turnPut_pos s h0 hs w
set_option maxHeartbeats 1000000 in
theorem turnPut_no (s : ByteArray) (hs : 200 < s.size) (w : World) : Calls Try.prog 5 #[.string s] w fun e w' => e = .returned (.tuple #[.string ⟨#[]⟩, .int .i64 0, .int .i64 2]) ∧ RowKit.Below w.heap.size w w' := by
  have hC := Lib.hid (wordCheck_no s hs)
  have hbx := Blk.new w 9 #[.string s]
  have hb0 : RowKit.Below w.heap.size w (w.alloc (Obj.cells #[.string s] 9)) := (Below.refl _ _).alloc (Nat.le_refl _) _
  have c1 : (w.alloc (Obj.cells #[.string s] 9)).cell? ⟨w.heap.size, 0, none⟩ = some (.string s) := hbx.cell 0
  go_enter Try.func5, Try.ntmps5
  go_wp2_with fail
  generalize w.alloc (Obj.cells #[.string s] 9) = w1 at *
  go_wp2_with fail
  refine (hC.out _).mono ?_
  rintro e w2 ⟨rfl, rfl⟩
  go_wp2
  refine bodyPost_ret (by simp [results, Try.results5, go_sem]; try rfl) rfl ?_
  exact ⟨rfl, hb0⟩
/- turns: of banana. -/
set_option maxRecDepth 100000 in
set_option maxHeartbeats 1000000 in
theorem turns_any (w : World) : Calls Try.prog 4 #[] w fun e w' => e = .returned (.bool true) ∧ RowKit.Below w.heap.size w w' := by
  have hP := turnPut_ok ⟨#[98, 97, 110, 97, 110, 97]⟩ (by decide) w
  have hB : IsOrd (⟨#[98, 97, 110, 97, 110, 97]⟩ : ByteArray).data.toList [5, 3, 1, 0, 4, 2] := ⟨by decide, by unfold ltR; decide⟩
  go_enter Try.func4, Try.ntmps4
  go_wp2_with fail
  refine hP.mono ?_
  rintro e w1 ⟨o, ho, rfl, hb1⟩
  obtain rfl := ho.unique hB
  have e1 : (⟨(lastB (⟨#[98, 97, 110, 97, 110, 97]⟩ : ByteArray).data.toList [5, 3, 1, 0, 4, 2]).toArray⟩ : ByteArray) = ⟨#[110, 110, 98, 97, 97, 97]⟩ := by decide
  have e2 : zeroAt [5, 3, 1, 0, 4, 2] = 3 := by decide
  rw [e1, e2]
  go_wp2
  go_ret
  exact ⟨by first | rfl | simp, hb1⟩
end Go.Proofs.Ytpnpalbdlhlnkaa
