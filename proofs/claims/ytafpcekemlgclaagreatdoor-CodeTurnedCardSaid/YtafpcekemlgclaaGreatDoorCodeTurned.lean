/- CodeTurned's walk: reversing or complementing all code words preserves unique decodability. -/
import Derived.Test.YtafpcekemlgclaaGreatDoorCodeTurnedP
import Derived.Test.YtafpcekemlgclaaGreatDoorCodes
import Derived.Test.YtafpcekemlgclaaGreatDoorReplace
import Derived.Test.YtafpcekemlgclaaGreatDoorAppendWide
import Derived.Test.YtafpcekemlgclaaGreatDoorArgs
import Derived.Test.YtafpcekemlgclaaGreatDoorBack
namespace Go.Proofs.YtafpcekemlgclaaGreatDoor
open Go.RowKit
set_option linter.unusedVariables false

def backS (s : ByteArray) : ByteArray := ⟨s.data.toList.reverse.toArray⟩
theorem cStr_snoc (f : ByteArray → ByteArray) (l : List ByteArray) (k : Nat) (h : k < l.length) : ((l.take (k + 1)).map f).flatMap cStr = ((l.take k).map f).flatMap cStr ++ [.string (f (l.getD k ByteArray.empty))] := by
  rw [List.take_succ_eq_append_getElem h, List.map_append, List.flatMap_append, getD_some _ _ _ h]
  rfl
/-- Rows apart. -/
def Apt (A : Option Addr) (n c : Nat) (A' : Option Addr) (n' c' : Nat) : Prop := ∀ k, (Value.slice A n c).ownBlock = some k → (Value.slice A' n' c').ownBlock ≠ some k

set_option maxRecDepth 100000 in
set_option maxHeartbeats 4000000 in
theorem codeTurned_walk (A : Option Addr) (len cap : Nat) (l : List ByteArray) {w : World} (hl : StrsIn w A len cap l) :
    Calls Tryz.prog 3 #[.slice A len cap] w fun e w' => e = .returned (.bool true) ∧ Below w.heap.size w w' := by
  obtain ⟨hll, hrd, hlen, hsz, hcap, hcapm, _⟩ := hl
  have hzz : ∀ p ∈ l, p.size ≤ 140737488351232 := fun p hp => hsz p hp
  have Hll := Lib.hid hll
  have Hzz := Lib.hid hzz
  have Hrd := Lib.hid hrd
  have hl8 : len ≤ 8796093022000 + 87 := by omega
  have hcapm' : len ≤ cap := hcap
  clear hsz hll hzz hrd
  go_enter Tryz.func3, Tryz.ntmps3
  go_wp2_with fail
  refine (codes_any _).mono ?_
  rintro e w1 ⟨rfl, hb1⟩
  go_wp2
  go_loopw [3, 4, 6, 21] (fun mv nv _ i wr => ∃ (k : Nat) (Am An : Option Addr) (cm cn : Nat), k ≤ len ∧ i = .int .i64 k ∧ mv = .slice Am k cm ∧ nv = .slice An k cn ∧ OwnK 9 1 wr (· < w1.heap.size) Am k cm (((l.take k).map backS).flatMap cStr) ∧ OwnK 9 1 wr (· < w1.heap.size) An k cn (((l.take k).map flipS).flatMap cStr) ∧ Apt Am k cm An k cn ∧ Below w1.heap.size w1 wr) (fun _ _ _ i _ => len - (intOf i).toNat)
  case atStart => exact ⟨0, none, none, 0, 0, Nat.zero_le _, rfl, rfl, rfl, OwnK.nil _ _ _ _, OwnK.nil _ _ _ _, (fun k hk => by cases hk), Below.refl _ _⟩
  case round =>
    obtain ⟨k, Am, An, cm, cn, hk, rfl, rfl, rfl, hm, hn, hap, hbr⟩ := hrel
    by_cases hlt : k < len
    · have hkl : k < l.length := by rw [Hll.out]; exact hlt
      obtain ⟨b, o, rfl, hbB, hc⟩ := (Hrd.out.below (chain hbr hb1)).2 (by omega)
      have c0 := hc (k * 1 + 0) (by rw [flat_length cStr 1 cStr_len, Hll.out]; omega)
      rw [flat_getD cStr 1 cStr_len ByteArray.empty l k _ hkl (by omega)] at c0
      simp only [cStr, List.getD_cons_zero, Nat.mul_one, Nat.add_zero] at c0
      have hx := Hzz.out (l.getD k ByteArray.empty) (by rw [getD_some _ _ _ hkl]; exact List.getElem_mem _)
      have Sm := Lib.hid (cStr_snoc backS l k hkl)
      have Sn := Lib.hid (cStr_snoc flipS l k hkl)
      generalize l.getD k ByteArray.empty = s at *
      have BK : Hid (∀ w, Calls Tryz.prog 5 #[.string s] w fun e w' => e = .returned (.string (backS s)) ∧ Below w.heap.size w w') := Lib.hid (fun w => back_any s (by omega) w)
      have h63 : (k + 1) * 16 ≤ 140737488355328 := by omega
      have h88 : k ≤ 8800000000000 := by omega
      clear hc hkl
      go_wp2_with fail
      refine (BK.out _).mono ?_
      rintro e w2 ⟨rfl, hb2⟩
      have hm2 := hm.after hb2
      have hn2 := hn.after hb2
      have hbr2 := chain hb2 hbr
      have hbs2 := hbr2.size
      have hcl : ∀ j, j < 1 → (w2.alloc (Obj.cells #[.string (backS s)] 9)).cell? ((⟨w2.heap.size, 0, none⟩ : Addr).add j) = ([.string (backS s)] : List Value)[j]? := fun j hj => by
        obtain rfl : j = 0 := by omega
        rw [add_at, World.cell?_alloc_mark]; rfl
      have hma := hm2.alloc (Obj.cells #[.string (backS s)] 9)
      have hna := hn2.alloc (Obj.cells #[.string (backS s)] 9)
      have hKl : ∀ j, j < w1.heap.size → j < (w2.alloc (Obj.cells #[.string (backS s)] 9)).heap.size := fun j hj => by simp; omega
      have hba := hbr2.alloc hbs2 (Obj.cells #[.string (backS s)] 9)
      have hnl2 := hn2.lt
      clear hm hn hbr hb2 BK
      generalize backS s = bs at *
      go_wp2_with (first | (at_builtin; go_must (refine wpList_append_W rfl (.tmp 25) (.tmp 28) 22 rfl (· < w1.heap.size) (.string ByteArray.empty) 16 infoStrE Tryz.underlying22 rfl (by decide) (by decide) Am k cm _ rfl hma ⟨w2.heap.size, 0, none⟩ 1 [.string bs] rfl rfl (by simp [Value.oneCell']) hcl h63 h88 hKl ?_); intro A3 c3 w3 hm3 hg3 hp3))
      have hb3 : Below w1.heap.size w1 w3 := hba.grown hg3 (by simp; omega) (fun g hg => by have := (hm2.lt g hg).1; omega)
      have hn3 := hna.grown hg3 hap
      have hap3 : Apt A3 (k + 1) c3 An k cn := fun j hj hq => by
        rcases hp3 j hj with h | h
        · exact hap j h hq
        · have := (hnl2 j hq).2
          simp at h
          omega
      rw [← Sm.out] at hm3
      have hbs3 := hb3.size
      clear hma hna hcl hKl hba hm2 hn2 hbr2 hg3 hp3 hap Sm hbs2 hnl2
      have ho : Obj.cells #[.string ⟨#[48]⟩, .string ⟨#[49]⟩, .string ⟨#[49]⟩, .string ⟨#[48]⟩] 9 = Obj.cells (rpL.map Value.string).toArray 9 := rfl
      have NR := newReplacer ⟨w3.heap.size, 0, none⟩ 4 (w3.alloc (Obj.cells #[.string ⟨#[48]⟩, .string ⟨#[49]⟩, .string ⟨#[49]⟩, .string ⟨#[48]⟩] 9)) (fun j hj => by
        rw [add_zero, World.cell?_alloc_mark]; simp [rpL])
      have NR := Lib.hid NR
      have hb4 := hb3.alloc hbs3 (Obj.cells #[.string ⟨#[48]⟩, .string ⟨#[49]⟩, .string ⟨#[49]⟩, .string ⟨#[48]⟩] 9)
      have hm4 := hm3.alloc (Obj.cells #[.string ⟨#[48]⟩, .string ⟨#[49]⟩, .string ⟨#[49]⟩, .string ⟨#[48]⟩] 9)
      have hn4 := hn3.alloc (Obj.cells #[.string ⟨#[48]⟩, .string ⟨#[49]⟩, .string ⟨#[49]⟩, .string ⟨#[48]⟩] 9)
      have hml := hm3.lt
      have hz4 : (w3.alloc (Obj.cells #[.string ⟨#[48]⟩, .string ⟨#[49]⟩, .string ⟨#[49]⟩, .string ⟨#[48]⟩] 9)).heap.size = w3.heap.size + 1 := by simp
      clear ho hm3 hn3 hb3
      go_wp2_with fail
      refine NR.out.mono ?_
      rintro e w5 ⟨gr, g5, o5, c5, rfl, hgr, hR, hb5⟩
      have RF := Lib.hid (replaceFlip gr g5 o5 c5 s (by omega) w5 _ hR hb5 hgr)
      clear NR hR hb5
      go_wp2_with fail
      refine RF.out.mono ?_
      rintro e w6 ⟨rfl, hb6⟩
      have hm6 := hm4.after hb6
      have hn6 := hn4.after hb6
      have hb6' := chain hb6 hb4
      have hs6 := hb6'.size
      have hs36 : w3.heap.size ≤ w6.heap.size := by have := hb6.size; omega
      have hcl : ∀ j, j < 1 → (w6.alloc (Obj.cells #[.string (flipS s)] 9)).cell? ((⟨w6.heap.size, 0, none⟩ : Addr).add j) = ([.string (flipS s)] : List Value)[j]? := fun j hj => by
        obtain rfl : j = 0 := by omega
        rw [add_at, World.cell?_alloc_mark]; rfl
      have hma := hm6.alloc (Obj.cells #[.string (flipS s)] 9)
      have hna := hn6.alloc (Obj.cells #[.string (flipS s)] 9)
      have hKl : ∀ j, j < w1.heap.size → j < (w6.alloc (Obj.cells #[.string (flipS s)] 9)).heap.size := fun j hj => by simp; omega
      have hba := hb6'.alloc hs6 (Obj.cells #[.string (flipS s)] 9)
      clear RF hm4 hn4 hb4 hb6 hb6' hm6 hz4 hgr
      generalize flipS s = fs at *
      go_wp2_with (first | (at_builtin; go_must (refine wpList_append_W rfl (.tmp 30) (.tmp 35) 22 rfl (· < w1.heap.size) (.string ByteArray.empty) 16 infoStrE Tryz.underlying22 rfl (by decide) (by decide) An k cn _ rfl hna ⟨w6.heap.size, 0, none⟩ 1 [.string fs] rfl rfl (by simp [Value.oneCell']) hcl h63 h88 hKl ?_); intro A7 c7 w7 hn7 hg7 hp7))
      have hb7 : Below w1.heap.size w1 w7 := hba.grown hg7 (by simp; omega) (fun g hg => by have := (hn6.lt g hg).1; omega)
      have hm7 := hma.grown hg7 (fun j hj hq => hap3 j hq hj)
      have hap7 : Apt A3 (k + 1) c3 A7 (k + 1) c7 := fun j hj hq => by
        rcases hp7 j hq with h | h
        · exact hap3 j hj h
        · have := (hml j hj).2
          simp at h
          omega
      rw [← Sn.out] at hn7
      clear hma hna hcl hKl hba hn6 hg7 hp7 hap3 Sn hml hs6 hs36 hbs3
      go_wp2
      go_roundw
      case rel => exact ⟨k + 1, A3, A7, c3, c7, by omega, by go_num, rfl, rfl, hm7, hn7, hap7, hb7⟩
      case measure => simp only [intOf]; omega
    · obtain rfl : k = len := by omega
      clear hlt hap
      have hbw := chain hbr hb1
      have htk : l.take k = l := List.take_of_length_le (by rw [Hll.out]; exact Nat.le_refl _)
      rw [htk] at hm hn
      have hlm : (l.map backS).length = k := by rw [List.length_map]; exact Hll.out
      have hln : (l.map flipS).length = k := by rw [List.length_map]; exact Hll.out
      have hzm : ∀ p ∈ l.map backS, p.size ≤ 140737488351232 := fun p hp => by
        obtain ⟨x, hx, rfl⟩ := List.mem_map.1 hp
        have := Hzz.out x hx
        have e : (backS x).size = x.size := by
          show (x.data.toList.reverse.toArray).size = _
          simp
        omega
      have hzn : ∀ p ∈ l.map flipS, p.size ≤ 140737488351232 := fun p hp => by
        obtain ⟨x, hx, rfl⟩ := List.mem_map.1 hp
        have := Hzz.out x hx
        have e : (flipS x).size = x.size := by
          show ((x.data.toList.map flipC).toArray).size = _
          simp
        omega
      have hcm := hm.cap.1
      have hcn := hn.cap.1
      have S1 := Lib.hid (fun W (h : Below w.heap.size w W) => sole_any A k cap W.heap.size l W (by omega) hcapm' Hll.out Hzz.out (Hrd.out.after h) (Nat.le_refl _))
      have F1 := Lib.hid (fun W (h : Below w.heap.size w W) => codeFront_any A k cap W.heap.size l W (by omega) hcapm' Hll.out Hzz.out (Hrd.out.after h) (Nat.le_refl _))
      have S2 := fun W (h : Below wr.heap.size wr W) => sole_any Am k cm W.heap.size (l.map backS) W (by omega) hcm hlm hzm ((hm.after h).toReads) (Nat.le_refl _)
      have S3 := fun W (h : Below wr.heap.size wr W) => sole_any An k cn W.heap.size (l.map flipS) W (by omega) hcn hln hzn ((hn.after h).toReads) (Nat.le_refl _)
      have F3 := fun W (h : Below wr.heap.size wr W) => codeFront_any An k cn W.heap.size (l.map flipS) W (by omega) hcn hln hzn ((hn.after h).toReads) (Nat.le_refl _)
      have eb : wds (l.map backS) = (wds l).map List.reverse := wds_back l
      rw [eb, sole_back, check_back] at S2
      rw [wds_flip, sole_flip, check_flip] at S3
      rw [wds_flip, front_flip, check_flip] at F3
      have S2 := Lib.hid S2
      have S3 := Lib.hid S3
      have F3 := Lib.hid F3
      clear hm hn hlm hln hzm hzn hcm hcn htk eb hb1 hbr
      generalize soleB (wds l) = bs at *
      generalize frontB (wds l) = bf at *
      generalize checkC (wds l) = E at *
      have q1 : (E == E) = true := by simp
      have q2 : (bs == bs) = true := by simp
      have q3 : (bf == bf) = true := by simp
      go_wp2_with fail
      refine (S1.out _ hbw).mono ?_
      rintro e w3 ⟨rfl, hb3⟩
      go_wp2_with fail
      refine (S2.out _ hb3).mono ?_
      rintro e w4 ⟨rfl, hb4⟩
      have hb4 := chain hb4 hb3
      go_wp2_with fail
      refine (S3.out _ hb4).mono ?_
      rintro e w5 ⟨rfl, hb5⟩
      have hb5 := chain hb5 hb4
      go_wp2_with fail
      refine (F1.out _ (chain hb5 hbw)).mono ?_
      rintro e w6 ⟨rfl, hb6⟩
      have hb6 := chain hb6 hb5
      go_wp2_with fail
      refine (F3.out _ hb6).mono ?_
      rintro e w7 ⟨rfl, hb7⟩
      have hb7 := chain (chain hb7 hb6) hbw
      go_wp2
      go_ret
      exact ⟨rfl, hb7⟩
end Go.Proofs.YtafpcekemlgclaaGreatDoor
