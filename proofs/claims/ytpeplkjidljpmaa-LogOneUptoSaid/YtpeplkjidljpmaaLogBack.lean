/- LogBack's walk: framed records are scanned in order, whatever is cut off at the end. -/
import Derived.Test.YtpeplkjidljpmaaLogDisk
import Derived.Test.YtpeplkjidljpmaaArgs
import Derived.Test.YtpeplkjidljpmaaSlice
import Derived.Test.YtpeplkjidljpmaaKeep
namespace Go.Proofs.Ytpeplkjidljpmaa
open Go.RowKit
set_option linter.unusedVariables false

/-- The texts' bytes. -/
def bts (l : List ByteArray) : List (List UInt8) := l.map fun x => x.data.toList
theorem bts_lb (l : List ByteArray) : (bts l).map lb = l := by
  unfold bts; rw [List.map_map]
  conv => rhs; rw [← List.map_id l]
  exact List.map_congr_left fun x _ => lb_of x
theorem bts_take (l : List ByteArray) (k : Nat) : bts (l.take k) = (bts l).take k := by unfold bts; rw [List.map_take]
theorem bts_length (l : List ByteArray) : (bts l).length = l.length := by unfold bts; rw [List.length_map]
/-- Where each frame ends. -/
def endsL (L : List (List UInt8)) (k : Nat) : List Int := (List.range k).map fun j => (((framesL (L.take (j + 1))).length : Nat) : Int)
theorem ends_snoc (L : List (List UInt8)) (k : Nat) : endsL L (k + 1) = endsL L k ++ [(((framesL (L.take (k + 1))).length : Nat) : Int)] := by unfold endsL; rw [List.range_succ, List.map_append]; rfl
theorem ends_length (L : List (List UInt8)) (k : Nat) : (endsL L k).length = k := by unfold endsL; simp
theorem ends_at (L : List (List UInt8)) (k j : Nat) (h : j < k) : (endsL L k).getD j 0 = (((framesL (L.take (j + 1))).length : Nat) : Int) := by
  unfold endsL; rw [List.getD_eq_getElem?_getD]; simp [h]
theorem frames_succ (L : List (List UInt8)) (k : Nat) (h : k < L.length) : framesL (L.take (k + 1)) = framesL (L.take k) ++ frameL (L.getD k []) := by
  rw [take_succ_getD L k [] h, frames_snoc]
theorem infoIntG : (Try.prog.info? 3).map (fun i => (i.zero, i.size, i.bytes)) = some (some (.int .i64 0), 1, 8) := by kernel_rfl
theorem sizeStrG (w : World) : (sizeOf (Try.prog.elem 43)).run Try.prog w = .ok 1 w := by
  rw [show Try.prog.elem 43 = 9 from by kernel_rfl]
  exact Try.sizeOf9 w

set_option maxRecDepth 100000 in
set_option maxHeartbeats 4000000 in
theorem logBack_walk (A : Option Addr) (len cap : Nat) (l : List ByteArray) (keep0 : Int) (w : World) (hl : StrsIn w A len cap l) (hkeep : (Lit.int .i64 keep0).wf = true) :
    Calls Try.prog 7 #[.slice A len cap, .int .i64 keep0] w fun e w' => e = .returned (.bool true) ∧ Below w.heap.size w w' := by
  obtain ⟨hll, hrd, hlen, hok, hcap, hcapm, hnil⟩ := hl
  have Hll := Lib.hid hll
  have Hcap := Lib.hid hcap
  have hLl : (bts l).length = len := by rw [bts_length]; exact hll
  have HLl := Lib.hid hLl
  clear hll hok hcapm hnil hcap hLl
  go_enter Try.func7, Try.ntmps7
  go_wp2_with fail
  refine (logs_any _).mono ?_
  rintro e w1 ⟨rfl, hb1⟩
  have hB1 := hb1.size
  go_wp2
  go_loopw [5, 6, 8, 9, 10, 19] (fun sv ev _ _ _ i wr => ∃ (k : Nat) (S : ByteArray) (A' : Option Addr) (c' : Nat), k ≤ len ∧ i = .int .i64 k ∧ sv = .string S ∧ ev = .slice A' k c' ∧ Hid (S.data.toList = framesL ((bts l).take k)) ∧ S.size ≤ 1106 * k ∧ Hid (∀ r ∈ (bts l).take k, r.length ≤ 1100) ∧
      wr.ownsRow w1.heap.size 3 1 (.slice A' k c') k ((endsL (bts l) k).flatMap cInt) ∧ Below w.heap.size w wr ∧ w1.heap.size ≤ wr.heap.size) (fun _ _ _ _ _ i _ => len - (intOf i).toNat)
  case atStart => exact ⟨0, ⟨#[]⟩, none, 0, Nat.zero_le _, rfl, rfl, rfl, Lib.hid rfl, Nat.le_refl _, Lib.hid (by simp), World.ownsRow_nil _ _ _ _, hb1, Nat.le_refl _⟩
  case round =>
    obtain ⟨k, S, A', c', hk, rfl, rfl, rfl, HS, hSs, Hsm, hown, hbr, hBr⟩ := hrel
    by_cases hlt : k < len
    · have h := hrd.below hbr
      obtain ⟨b, o, rfl, hbB, hc⟩ := h.2 (by omega)
      have c0 := hc (k * 1 + 0) (by rw [flat_length cStr 1 cStr_len, Hll.out]; omega)
      rw [flat_getD cStr 1 cStr_len ByteArray.empty l k _ (by rw [Hll.out]; omega) (by omega)] at c0
      simp only [cStr, List.getD_cons_zero, Nat.mul_one, Nat.add_zero] at c0
      have hr0 : (bts l).getD k [] = (l.getD k ByteArray.empty).data.toList := by
        unfold bts
        rw [List.getD_eq_getElem?_getD, List.getElem?_map, List.getD_eq_getElem?_getD, List.getElem?_eq_getElem (by rw [Hll.out]; exact hlt)]; rfl
      have hfs := frames_succ (bts l) k (by rw [HLl.out]; exact hlt)
      have htk := take_succ_getD (bts l) k [] (by rw [HLl.out]; exact hlt)
      rw [hr0] at hfs htk
      have hes := ends_snoc (bts l) k
      generalize l.getD k ByteArray.empty = r at *
      have Hfs := Lib.hid hfs
      have Htk := Lib.hid htk
      have Hes := Lib.hid hes
      clear hc h hr0 hfs htk hes
      by_cases hr : r.size ≤ 1100
      case neg =>
        have q1 : decide ((1100 : Int) < (r.size : Int)) = true := decide_eq_true (by omega)
        have q1n : decide (1100 < r.size) = true := decide_eq_true (by omega)
        go_wp2_with fail
        refine (frame_no r (by omega) _).mono ?_
        rintro e w3 ⟨rfl, rfl⟩
        go_wp2
        go_ret
        exact ⟨rfl, hbr⟩
      have hfz : (lb (frameL r.data.toList)).size = r.size + 6 := by rw [lb_size, frame_len]; rfl
      have hS2 : (S ++ lb (frameL r.data.toList)).data.toList = framesL ((bts l).take (k + 1)) := by rw [list_app, lb_list, HS.out, Hfs.out]
      have hS3 : ((S ++ lb (frameL r.data.toList)).size : Int) = (((framesL ((bts l).take (k + 1))).length : Nat) : Int) := by rw [← hS2]; rfl
      have hS4 : (S ++ lb (frameL r.data.toList)).size ≤ 1106 * (k + 1) := by rw [ByteArray.size_append]; omega
      have FR := Lib.hid (frame_ok r hr)
      have hca : ∀ w, (Op.stringOp .add S (lb (frameL r.data.toList))).run Try.prog w = .ok (.string (S ++ lb (frameL r.data.toList))) w := fun w => run_string_add_sum w _ _ (by omega)
      generalize S ++ lb (frameL r.data.toList) = S' at *
      generalize lb (frameL r.data.toList) = f at *
      have HS2 := Lib.hid hS2
      have HS3 := Lib.hid hS3
      clear hS2 hS3 hfz
      go_wp2_with fail
      refine (FR.out _).mono ?_
      rintro e w3 ⟨rfl, hb3⟩
      have hb3' := chain hb3 hbr
      have hown3 := own_below hown hb3
      have hB3 : w1.heap.size ≤ w3.heap.size := Nat.le_trans hBr hb3.size
      clear hb3 hown hbr
      go_wp2_with (first | (at_builtin; go_must (refine wpList_append_new _ 44 (.tmp 40) (.tmp 43) rfl rfl w1.heap.size 3 infoIntG Try.underlying44 rfl (by decide) A' k c' _ rfl hown3 #[.int .i64 (S'.size : Int)] 1 rfl rfl (by simp [Value.oneCell']) (by unfold maxLen; omega) (by omega) hB3 ?_); intro A3 c3 w4 hown4 hb4 hg4))
      go_roundw
      case rel =>
        refine ⟨k + 1, S', A3, c3, by omega, by go_num, rfl, rfl, HS2, hS4, Lib.hid fun x hx => ?_, ?_, hb3'.trans (hb4.mono hB1), Nat.le_trans hB3 hb4.size⟩
        · rw [Htk.out, List.mem_append, List.mem_singleton] at hx
          rcases hx with hx | rfl
          · exact Hsm.out x hx
          · exact hr
        · rw [Hes.out, flat_snoc, ← HS3.out]; exact hown4
      case measure => simp only [intOf]; omega
    · obtain rfl : k = len := by omega
      have hLk : (bts l).take k = bts l := List.take_of_length_le (by rw [HLl.out]; exact Nat.le_refl _)
      have hS := HS.out
      have hsm := Hsm.out
      rw [hLk] at hS hsm
      have hr := Reads.of_own hown
      have hSz : S.size = (framesL (bts l)).length := by rw [← hS]; rfl
      obtain ⟨p, hp, hps⟩ : ∃ p : Nat, keep0 % ((S.size : Int) + 1) = p ∧ p ≤ S.size := by
        have h1 := Int.emod_nonneg keep0 (show ((S.size : Int) + 1) ≠ 0 by omega)
        have h2 := Int.emod_lt_of_pos keep0 (show 0 < ((S.size : Int) + 1) by omega)
        exact ⟨(keep0 % ((S.size : Int) + 1)).toNat, by omega, by omega⟩
      have hw1 : ∀ w, Calls Try.prog 21 #[.int .i64 keep0, .int .i64 ((S.size : Int) + 1)] w fun e w' => e = .returned (.int .i64 (p : Int)) ∧ w = w' := fun w => by
        have := within_any keep0 ((S.size : Int) + 1) (by omega) (by omega) w
        rwa [hp] at this
      have HW := Lib.hid hw1
      have HSS := Lib.hid hS
      have HSM := Lib.hid hsm
      have HSZ := Lib.hid hSz
      have Hr := Lib.hid hr
      clear hw1 hp hS hsm hSz HS Hsm hLk hown hr
      go_wp2_with fail
      refine (HW.out _).mono ?_
      rintro e w3 ⟨rfl, rfl⟩
      go_wp2
      go_loop [11, 12] (fun hv ev => ∃ j n : Nat, j ≤ k ∧ hv = .int .i64 j ∧ ev = .int .i64 n ∧ n ≤ p ∧ Hid (n = (framesL ((bts l).take j)).length)) (fun hv _ => k - (intOf hv).toNat)
      case atStart => exact ⟨0, 0, Nat.zero_le _, rfl, rfl, Nat.zero_le _, Lib.hid rfl⟩
      case round =>
        obtain ⟨j, n, hj, rfl, rfl, hnp, Hn⟩ := hrel
        -- the last lines
        have hend : (j < k → p < (framesL ((bts l).take (j + 1))).length) → Scans ((framesL (bts l)).take p) ((bts l).take j) (framesL ((bts l).take j)).length := fun h =>
          scans_frames (bts l) [] p j HSM.out (by rw [← HSZ.out]; exact hps) (by rw [HLl.out]; exact hj) (by rw [← Hn.out]; exact hnp) (fun h2 => h (by rw [HLl.out] at h2; exact h2))
        have Hend := Lib.hid hend
        clear hend
        have hfin : (j < k → p < (framesL ((bts l).take (j + 1))).length) → ∀ w, Calls Try.prog 26 #[.string (S.extract 0 p)] w (ToldScan ((framesL (bts l)).take p) w) := fun h w => by
          have hd : (S.extract 0 p).data.toList = (framesL (bts l)).take p := by rw [Lib.extract_data, HSS.out, Nat.sub_zero, List.drop_zero]
          have := scan_ok (S.extract 0 p) (by simp; omega) k (by omega) (fun L m hL => by
            rw [hd] at hL
            rw [(scans_one hL (Hend.out h)).1, List.length_take]; omega) w
          rwa [hd] at this
        have Hfin := Lib.hid hfin
        clear hfin
        by_cases hjk : j < k
        · obtain ⟨b, o, rfl, hbB, hc⟩ := Hr.out.2 (by omega)
          have c0 := hc (j * 1 + 0) (by rw [flat_length cInt 1 cInt_len, ends_length]; omega)
          rw [flat_getD cInt 1 cInt_len 0 (endsL (bts l) k) j _ (by rw [ends_length]; exact hjk) (by omega), ends_at _ _ _ hjk] at c0
          simp only [cInt, List.getD_cons_zero, Nat.mul_one, Nat.add_zero] at c0
          clear hc
          generalize hq : (framesL ((bts l).take (j + 1))).length = q at *
          have Hq := Lib.hid hq
          clear hq
          by_cases hqp : q ≤ p
          · have q1 : decide ((q : Int) ≤ (p : Int)) = true := decide_eq_true (by omega)
            have q1n : decide (q ≤ p) = true := decide_eq_true hqp
            have q2 : decide ((j : Int) < (k : Int)) = true := decide_eq_true (by omega)
            have q2n : decide (j < k) = true := decide_eq_true hjk
            go_wp2
            go_round
            case rel => exact ⟨j + 1, q, by omega, by go_num, rfl, hqp, Lib.hid Hq.out.symm⟩
            case measure => simp only [intOf]; omega
          · have q1 : decide ((q : Int) ≤ (p : Int)) = false := decide_eq_false (by omega)
            have q1n : decide (q ≤ p) = false := decide_eq_false hqp
            have q2 : decide ((j : Int) < (k : Int)) = true := decide_eq_true (by omega)
            have q2n : decide (j < k) = true := decide_eq_true hjk
            have F1 := Lib.hid (Hfin.out (fun _ => by omega))
            have F2 := Lib.hid (Hend.out (fun _ => by omega))
            have hps' : (p : Int) ≤ S.size := by omega
            go_wp2_with fail
            refine (F1.out _).mono ?_
            rintro e w4 ⟨L, m, A2, c2, hs, rfl, hr2, hb4, hc2⟩
            obtain ⟨rfl, rfl⟩ := scans_one hs F2.out
            have hbw4 := chain hb4 hbr
            have hLj : ((bts l).take j).length = j := by rw [List.length_take, HLl.out]; omega
            have hmap : ((bts l).take j).map lb = l.take j := by rw [← bts_take, bts_lb]
            rw [hLj, hmap] at hr2
            rw [hLj] at hc2 ⊢
            rw [← Hn.out]
            have hlj : (l.take j).length = j := by rw [List.length_take, Hll.out]; omega
            obtain ⟨A3, hs3, hf3⟩ := slice_front 43 (by kernel_rfl) sizeStrG cStr_len (hrd.below hbw4) Hll.out hj Hcap.out
            have q9 : ((n : Int) == (n : Int)) = true := by simp
            have HE := Lib.hid (equalStr_any A2 A3 j j c2 cap _ _ (l.take j) (l.take j) w4 (by omega) (by omega) hlj hlj hr2 hf3)
            clear hs hr2 hb4 hLj hmap hlj hf3
            go_wp2_with fail
            refine HE.out.mono ?_
            rintro e w5 ⟨rfl, hb5⟩
            have hbw5 := chain hb5 hbw4
            go_wp2
            go_ret
            exact ⟨by simp, hbw5⟩
        · have q2 : decide ((j : Int) < (k : Int)) = false := decide_eq_false (by omega)
          have q2n : decide (j < k) = false := decide_eq_false hjk
          have F1 := Lib.hid (Hfin.out (fun h => absurd h hjk))
          have F2 := Lib.hid (Hend.out (fun h => absurd h hjk))
          have hps' : (p : Int) ≤ S.size := by omega
          go_wp2_with fail
          refine (F1.out _).mono ?_
          rintro e w4 ⟨L, m, A2, c2, hs, rfl, hr2, hb4, hc2⟩
          obtain ⟨rfl, rfl⟩ := scans_one hs F2.out
          have hbw4 := chain hb4 hbr
          have hLj : ((bts l).take j).length = j := by rw [List.length_take, HLl.out]; omega
          have hmap : ((bts l).take j).map lb = l.take j := by rw [← bts_take, bts_lb]
          rw [hLj, hmap] at hr2
          rw [hLj] at hc2 ⊢
          rw [← Hn.out]
          have hlj : (l.take j).length = j := by rw [List.length_take, Hll.out]; omega
          obtain ⟨A3, hs3, hf3⟩ := slice_front 43 (by kernel_rfl) sizeStrG cStr_len (hrd.below hbw4) Hll.out hj Hcap.out
          have q9 : ((n : Int) == (n : Int)) = true := by simp
          have HE := Lib.hid (equalStr_any A2 A3 j j c2 cap _ _ (l.take j) (l.take j) w4 (by omega) (by omega) hlj hlj hr2 hf3)
          clear hs hr2 hb4 hLj hmap hlj hf3
          go_wp2_with fail
          refine HE.out.mono ?_
          rintro e w5 ⟨rfl, hb5⟩
          have hbw5 := chain hb5 hbw4
          go_wp2
          go_ret
          exact ⟨by simp, hbw5⟩

end Go.Proofs.Ytpeplkjidljpmaa
