/- The walk of pack.Ways. -/
import Derived.Test.YtgoofbbbnphncaaDoorCodeCheck
import Derived.Test.YtgoofbbbnphncaaDoorWaysP
import Derived.Test.YtgoofbbbnphncaaDoorPrefix
import Derived.StillTailTactics
namespace Go.Proofs.YtgoofbbbnphncaaDoor
open Go.RowKit
set_option linter.unusedVariables false

theorem infoIntWy : (Tryd.prog.info? 3).map (fun i => (i.zero, i.size, i.bytes)) = some (some (.int .i64 0), 1, 8) := by kernel_rfl
def waysV (l : List Wd) (s : Wd) : Int := if checkC l = 0 then (cnt l s : Int) else 0
theorem waysV_ok {l : List Wd} (h : checkC l = 0) (s : Wd) : waysV l s = (cnt l s : Int) := if_pos h
theorem waysV_no {l : List Wd} (h : ¬ checkC l = 0) (s : Wd) : waysV l s = 0 := if_neg h
theorem preB_drop (s p : ByteArray) (k : Nat) : preB (s.extract k s.size) p = true ↔ wd p <+: (wd s).drop k := by
  rw [preB_iff, Lib.extract_data]
  have e : ((s.data.toList.drop k).take (s.size - k)) = s.data.toList.drop k := List.take_of_length_le (by rw [List.length_drop]; exact Nat.le_refl _)
  rw [e]

set_option maxRecDepth 100000 in
set_option maxHeartbeats 4000000 in
theorem packWays_any (A : Option Addr) (n c B : Nat) (l : List ByteArray) (s : ByteArray) (w : World) (hs : s.size ≤ 40) (hn : n ≤ 1125899906842624) (hnc : n ≤ c) (hl : l.length = n) (hz : ∀ p ∈ l, p.size ≤ 140737488351232) (h : Reads w B A n 1 (l.flatMap cStr)) (hB : B ≤ w.heap.size) :
    Calls Tryd.prog 49 #[.slice A n c, .string s] w fun e w' => e = .returned (.tuple #[.int .i64 (waysV (wds l) (wd s)), .int .i64 (checkC (wds l))]) ∧ Below w.heap.size w w' := by
  have HC := Lib.hid (codeCheck_any A n c B l w hn hnc hl hz h hB)
  by_cases hc : checkC (wds l) = 0
  case neg =>
    rw [waysV_no hc]
    have q1 : (checkC (wds l) != 0) = true := by simpa using hc
    generalize checkC (wds l) = E at *
    go_enter Tryd.func49, Tryd.ntmps49
    go_wp2_with fail
    refine HC.out.mono ?_
    rintro e w1 ⟨rfl, hb1⟩
    go_wp2
    go_ret2
    exact ⟨rfl, hb1⟩
  have hok := (checkC_zero _).1 hc
  rw [waysV_ok hc]
  rw [hc] at HC
  rw [hc]
  have hLs : (wd s).length = s.size := rfl
  have HLs := Lib.hid hLs
  have Hne := Lib.hid hok.ne
  have Hnd := Lib.hid hok.nodup
  have Hlen := Lib.hid hok.len
  have Hl := Lib.hid hl
  have hwl : (wds l).length = n := by unfold wds; rw [List.length_map, hl]
  have Hwl := Lib.hid hwl
  have hn12 : n ≤ 12 := by have := hok.few; omega
  have q1 : decide ((40 : Int) < (s.size : Int)) = false := decide_eq_false (by omega)
  have q1' : decide (40 < s.size) = false := decide_eq_false (by omega)
  have hmk := fun w : World => make_ints (P := Tryd.prog) 54 3 Tryd.underlying54 infoIntWy (s.size + 1) ((s.size : Int) + 1) (by omega) (by omega) w
  have Hst := Lib.hid (rowQ_start (wds l) (wd s) hok.ne)
  obtain ⟨V, hV⟩ : ∃ V, V = cnt (wds l) (wd s) := ⟨_, rfl⟩
  rw [← hV]
  have hfin := wayQ_at hok.ne (wd s) s.size 0 (Nat.le_refl _)
  rw [show (wd s).take s.size = wd s from List.take_of_length_le (by rw [hLs]; exact Nat.le_refl _), ← hV] at hfin
  have Hfin := Lib.hid hfin
  clear hV hfin
  clear hok hc hLs hl hwl hz
  go_enter Tryd.func49, Tryd.ntmps49
  go_wp2_with fail
  refine HC.out.mono ?_
  rintro e w1 ⟨rfl, hb1⟩
  clear HC
  obtain ⟨hb0, hz0, hat0⟩ := ints_made w1 (s.size + 1) 3
  obtain ⟨g, hg⟩ : ∃ g, g = w1.heap.size := ⟨_, rfl⟩
  obtain ⟨hc0, hf0⟩ := hat0.2 0 (by simp)
  have hat1 := hat0.set 0 (by simp) 1
  rw [show (List.replicate (s.size + 1) (0 : Int)).set 0 1 = rowQ (wds l) (wd s) 0 0 from Hst.out] at hat1
  have hb1' := hb0.setCell (p := ⟨w1.heap.size, 0, none⟩) (Nat.le_refl _) (.int .i64 1)
  clear Hst
  go_wp2
  clear hb0 hz0 hat0 hc0 hf0 hmk
  have hWe : World.setCell (w1.alloc (Obj.cells (madeCells #[Value.int IntKind.i64 0] (s.size + 1)) 3)) ⟨w1.heap.size, 0, none⟩ (.int .i64 1) = w1.alloc (Obj.cells ((madeCells #[Value.int IntKind.i64 0] (s.size + 1)).setIfInBounds 0 (Value.int IntKind.i64 1)) 3) := by simp [go_sem]
  rw [hWe] at hat1 hb1'
  clear hWe
  generalize World.alloc _ _ = W1 at *
  rw [← hg] at hat1 hb1' ⊢
  have hgB : w.heap.size ≤ g := by rw [hg]; exact hb1.size
  clear hg
  go_loopw [8, 10, 27] (fun _ _ iv wr => ∃ k : Nat, k ≤ s.size ∧ iv = .int .i64 k ∧ IntsAt wr g (rowQ (wds l) (wd s) k 0) ∧ Below g w1 wr) (fun _ _ iv _ => s.size - (intOf iv).toNat)
  case atStart => exact ⟨0, Nat.zero_le _, rfl, hat1, hb1'⟩
  case round =>
    clear hat1 hb1'
    obtain ⟨k, hk, rfl, hat, hbr⟩ := hrel
    by_cases hlt : k < s.size
    · go_wp2
      go_loopw [10, 32] (fun _ iv wr => ∃ m : Nat, m ≤ n ∧ iv = .int .i64 m ∧ IntsAt wr g (rowQ (wds l) (wd s) k m) ∧ Below g w1 wr) (fun _ iv _ => n - (intOf iv).toNat)
      case atStart => exact ⟨0, Nat.zero_le _, rfl, hat, hbr⟩
      case round =>
        clear hat hbr
        obtain ⟨m, hm, rfl, hat, hbr⟩ := hrel
        by_cases hmn : m < n
        · obtain ⟨b, o, rfl, hbB, hcl⟩ := (h.below ((hb1.trans (hbr.mono hgB)).mono hB)).2 (by omega)
          have c1 := hcl (m * 1 + 0) (by rw [flat_length cStr 1 cStr_len, Hl.out]; omega)
          rw [flat_getD cStr 1 cStr_len ByteArray.empty l m _ (by rw [Hl.out]; omega) (by omega)] at c1
          simp only [cStr, List.getD_cons_zero, Nat.mul_one, Nat.add_zero] at c1
          have htk : (wds l).take (m + 1) = (wds l).take m ++ [wd (l.getD m ByteArray.empty)] := by
            unfold wds
            rw [← List.map_take, ← List.map_take, take_succ_getD l m ByteArray.empty (by rw [Hl.out]; omega), List.map_append]
            rfl
          have hmem : wd (l.getD m ByteArray.empty) ∈ wds l := mem_wds.2 (by rw [getD_some _ _ _ (by rw [Hl.out]; omega)]; exact List.getElem_mem _)
          have hx12 : (l.getD m ByteArray.empty).size ≤ 12 := Hlen.out _ hmem
          have Htk := Lib.hid htk
          clear hcl htk hmem
          generalize l.getD m ByteArray.empty = x at *
          have HP := Lib.hid (fun w => hasPrefix_any (s.extract k s.size) x (by simp; omega) (by omega) w)
          by_cases hp : preB (s.extract k s.size) x = true
          case neg =>
            have hp' : preB (s.extract k s.size) x = false := by simpa using hp
            have hno := rowQ_no (wd s) k m (wd x) Htk.out (fun h => hp ((preB_drop s x k).2 h))
            rw [hp'] at HP
            have Hno := Lib.hid hno
            clear hp hp' hno
            go_wp2_with fail
            refine (HP.out _).mono ?_
            rintro e w2 ⟨rfl, rfl⟩
            go_wp2
            go_roundw
            case rel => exact ⟨m + 1, by omega, by go_num, by rw [Hno.out]; exact hat, hbr⟩
            case measure => simp [intOf]; omega
          case pos =>
            have hpx := (preB_drop s x k).1 hp
            have hle : k + x.size ≤ s.size := by
              have := hpx.length_le
              rw [List.length_drop] at this
              have e1 : (wd x).length = x.size := rfl
              have e2 : (wd s).length = s.size := rfl
              omega
            have hyes := rowQ_yes (wd s) k m (wd x) Htk.out hpx hle
            have hroom := rowQ_room Hne.out Hnd.out (wd s) k m (wd x) Htk.out hpx hle hs
            obtain ⟨hc1, hf1⟩ := hat.2 (k + x.size) (by rw [rowQ_len, HLs.out]; omega)
            obtain ⟨hc2, hf2⟩ := hat.2 k (by rw [rowQ_len, HLs.out]; omega)
            rw [rowQ_get _ _ _ _ _ (by rw [HLs.out]; omega)] at hc1 hc2
            rw [wayQ_at Hne.out (wd s) k m (by rw [HLs.out]; omega)] at hc2
            have hnew := hat.set (k + x.size) (by rw [rowQ_len, HLs.out]; omega) ((wayQ (wds l) (wd s) k m (k + (wd x).length) : Int) + (cnt (wds l) ((wd s).take k) : Int))
            have hnew2 : Hid (∀ N N' : Nat, N = wayQ (wds l) (wd s) k m (k + x.size) → N' = cnt (wds l) ((wd s).take k) → IntsAt (wr.setCell ⟨g, k + x.size, none⟩ (.int .i64 ((N : Int) + (N' : Int)))) g (rowQ (wds l) (wd s) k (m + 1))) := Lib.hid (by
              rintro _ _ rfl rfl
              rw [← hyes]
              exact hnew)
            have hroom2 : wayQ (wds l) (wd s) k m (k + x.size) + cnt (wds l) ((wd s).take k) ≤ 1099511627776 := hroom
            rw [hp] at HP
            clear hyes hroom hnew hpx hp
            obtain ⟨N, hN⟩ : ∃ N, N = wayQ (wds l) (wd s) k m (k + x.size) := ⟨_, rfl⟩
            obtain ⟨N', hN'⟩ : ∃ N', N' = cnt (wds l) ((wd s).take k) := ⟨_, rfl⟩
            have hnew3 := Lib.hid (hnew2.out N N' hN hN')
            rw [← hN] at hc1 hroom2
            rw [← hN'] at hc2 hroom2
            clear hN hN' hnew2
            have hb3 : Below g w1 (wr.setCell ⟨g, k + x.size, none⟩ (.int .i64 ((N : Int) + (N' : Int)))) := hbr.setCell (Nat.le_refl _) _
            obtain ⟨j, hj⟩ : ∃ j, j = k + x.size := ⟨_, rfl⟩
            have hwr : IntKind.i64.wrap ((k : Int) + (x.size : Int)) = (j : Int) := by rw [IntKind.wrap_i64]; omega
            have hwr2 : IntKind.i64.wrap ((N : Int) + (N' : Int)) = (N : Int) + (N' : Int) := by rw [IntKind.wrap_i64]; omega
            rw [← hj] at hc1 hf1 hnew3 hb3
            have hjs : j < s.size + 1 := by omega
            have hjs' : (j : Int) < (s.size : Int) + 1 := by omega
            have hks : k < s.size + 1 := by omega
            have hks' : (k : Int) < (s.size : Int) + 1 := by omega
            clear hj hle
            go_wp2_with fail
            refine (HP.out _).mono ?_
            rintro e w2 ⟨rfl, rfl⟩
            go_wp2
            go_still_tail 13, (by kernel_rfl)
            change wpList _ _ _ _ _ wr.drew
            go_wp2
            go_roundw
            case rel => exact ⟨m + 1, by omega, by go_num, hnew3.out.drew, hb3.drew⟩
            case measure => simp [intOf]; omega
        · obtain rfl : m = n := by omega
          go_wp2
          go_roundw
          case rel => exact ⟨k + 1, by omega, by go_num, by rw [← rowQ_next Hne.out, Hwl.out]; exact hat, hbr⟩
          case measure => simp [intOf]; omega
    · obtain rfl : k = s.size := by omega
      obtain ⟨hck, hfk⟩ := hat.2 s.size (by rw [rowQ_len, HLs.out]; omega)
      rw [rowQ_get _ _ _ _ _ (by rw [HLs.out]; omega), Hfin.out] at hck
      have hbf := hb1.trans (hbr.mono hgB)
      go_wp2
      go_ret2
      exact ⟨rfl, hbf⟩
end Go.Proofs.YtgoofbbbnphncaaDoor
