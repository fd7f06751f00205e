/- The walks of a leaf's read, Crash and Pack. -/
import Derived.Test.YtigbnldmjafgmaaDoorLeafWalk
namespace Go.Proofs.YtigbnldmjafgmaaDoor
open Go.RowKit
set_option linter.unusedVariables false

/-- A string of a list that lies there. -/
theorem strs_cell {w : World} {B N : Nat} {b o : Nat} {L : List ByteArray} (h : Reads w B (some ⟨b, o, none⟩) N 1 (L.flatMap cStr)) (hN : L.length = N) (j : Nat) (hj : j < N) : w.cell? ⟨b, o + j, none⟩ = some (.string (L.getD j ByteArray.empty)) := by
  obtain ⟨b', o', hA, _, hc⟩ := h.2 (by omega)
  injection hA with hA
  injection hA with e1 e2
  subst e1 e2
  have c0 := hc (j * 1 + 0) (by rw [flat_length cStr 1 cStr_len, hN]; omega)
  rw [flat_getD cStr 1 cStr_len ByteArray.empty L j _ (by rw [hN]; exact hj) (by omega)] at c0
  simpa only [cStr, List.getD_cons_zero, Nat.mul_one, Nat.add_zero] using c0
theorem lb_cons (c : UInt8) (b : ByteArray) : lb (c :: b.data.toList) = (⟨#[c]⟩ : ByteArray) ++ b := ba_ext (by rw [lb_list, app98])
theorem lb_tail (c : UInt8) (l : List UInt8) : (lb (c :: l)).extract 1 (lb (c :: l)).size = lb l := ba_ext (by
  rw [Lib.extract_data, lb_list, lb_list, List.drop_succ_cons, List.drop_zero, List.take_of_length_le]
  rw [lb_dsize, List.length_cons]; omega)

set_option maxRecDepth 100000 in
set_option maxHeartbeats 4000000 in
theorem leafRead (gl g k : Nat) (t : ByteArray) (H : LH) (hh : Hist ⟨#[]⟩ H) (hd : (framesL (recs H)).length ≤ 4000) (w : World) (hne : gl ≠ g) (hb : Blk w gl 104 #[.string t, .pointer (some ⟨g, 0, none⟩)]) (hl : LogAt w g (lb (framesL (recs H))) k) :
    Calls Tryd.prog 66 #[.pointer (some ⟨gl, 0, none⟩)] w fun e w' => e = .returned (.tuple #[]) ∧ Blk w' gl 104 #[.string (endT ⟨#[]⟩ H), .pointer (some ⟨g, 0, none⟩)] ∧ LogAt w' g (lb (framesL (recs H))) k ∧ Only2 gl g w w' := by
  have c1 : w.cell? ⟨gl, 1, none⟩ = some (.pointer (some ⟨g, 0, none⟩)) := Blk.cell hb 1
  have Al := Lib.hid (all_any g k (lb (framesL (recs H))) hd w hl)
  have hsc : Scans (lb (framesL (recs H))).data.toList (recs H) (framesL (recs H)).length := by rw [lb_list]; exact scans_all _ (hist_len hh)
  have Hsc := Lib.hid hsc
  clear hsc
  go_enter Tryd.func66, Tryd.ntmps66
  go_wp2_with fail
  refine Al.out.mono ?_
  rintro e w1 ⟨L, n, A, c, hs, rfl, hr, hb1, hLc⟩
  obtain ⟨rfl, _⟩ := scans_one hs Hsc.out
  rw [recs_len] at hr ⊢
  have hn700 : H.length ≤ 700 := by
    have := scans_bound Hsc.out
    rw [lb_list, recs_len] at this; omega
  obtain ⟨N, hN⟩ : ∃ N, H.length = N := ⟨_, rfl⟩
  rw [hN] at hr hn700 ⊢
  have HN := Lib.hid hN
  clear hs hLc Hsc Al hN
  go_wp2
  go_loopw [2, 4, 5, 6, 13] (fun sv _ _ _ kv wr => ∃ j : Nat, j ≤ N ∧ kv = .int .i64 j ∧ sv = .string (endT ⟨#[]⟩ (H.take j)) ∧ Below w1.heap.size w1 wr) (fun _ _ _ _ kv _ => N - (intOf kv).toNat)
  case atStart => exact ⟨0, Nat.zero_le _, rfl, rfl, Below.refl _ _⟩
  case round =>
    obtain ⟨j, hj, rfl, rfl, hbr⟩ := hrel
    by_cases hlt : j < N
    · have hjH : j < H.length := by rw [HN.out]; exact hlt
      obtain ⟨b, o, rfl, hbB, _⟩ := (hr.below hbr).2 (by omega)
      have ci := strs_cell (hr.below hbr) (by rw [List.length_map, recs_len, HN.out]) j hlt
      have e0 : ((recs H).map lb).getD j ByteArray.empty = lb (H[j]'hjH).1 := by
        rw [getD_some _ _ _ (by rw [List.length_map, recs_len]; exact hjH), List.getElem_map]
        congr 1
        simp [recs]
      rw [e0] at ci
      have hst := hist_at hh hjH
      have hnx := endT_succ ⟨#[]⟩ H hjH
      have hps : (endT ⟨#[]⟩ (H.take j)).size ≤ 200 := endT_size (hist_take hh j) (by decide)
      rw [← hnx] at hst
      have hrl := hst.len
      generalize (H[j]'hjH).1 = r at *
      generalize hT2 : endT ⟨#[]⟩ (H.take (j + 1)) = t2 at *
      have HT2 := Lib.hid hT2
      clear hT2
      generalize hp : endT ⟨#[]⟩ (H.take j) = p at *
      clear e0 hnx
      obtain ⟨R, hR⟩ : ∃ R, R = lb r := ⟨_, rfl⟩
      rw [← hR] at ci
      have hRs : R.size ≤ 1100 := by rw [hR, lb_dsize]; exact hrl
      cases hst with
      | base _ hs2 =>
        have htl : R.extract 1 R.size = t2 := by rw [hR]; exact (lb_tail _ _).trans (ba_ext (lb_list _))
        have hsz : 0 < R.size := by rw [hR, lb_dsize, List.length_cons]; omega
        have hsz' : (1 : Int) ≤ R.size := by omega
        have hR0 : R[0]'hsz = 98 := by
          have e := getD_bytes R 0 hsz
          rw [← e, hR, lb_list]; rfl
        have q1 : ((R[0].toNat : Int) == 98) = true := by rw [hR0]; rfl
        have hp2 := hp.symm
        subst hp2
        have Htl := Lib.hid htl
        clear hR hR0 htl hrl
        go_wp2
        go_roundw
        case rel => exact ⟨j + 1, by omega, by go_num, by rw [Htl.out, HT2.out], hbr⟩
        case measure => simp only [intOf]; omega
      | edit l hck _ ht2 hs2 =>
        have hwr := check_wr hck
        have htl : (R.extract 1 R.size).data.toList = writeL l := by rw [hR, lb_tail, lb_list]
        have hsz : 0 < R.size := by rw [hR, lb_dsize, List.length_cons]; omega
        have hsz' : (1 : Int) ≤ R.size := by omega
        have hR0 : R[0]'hsz = 101 := by
          have e := getD_bytes R 0 hsz
          rw [← e, hR, lb_list]; rfl
        have q1 : ((R[0].toNat : Int) == 98) = false := by rw [hR0]; rfl
        have hxs : (R.extract 1 R.size).size ≤ 1100 := by simp; omega
        have Hp := Lib.hid hp
        have Ht2 := Lib.hid ht2
        have Htl := Lib.hid htl
        clear hR hR0 htl hrl ht2 hp
        go_wp2_with fail
        refine (read_one (R.extract 1 R.size) (by omega) _).mono ?_
        rintro e w4 ⟨A4, c4, m, E4, rfl, hrd, hm4, hb4⟩
        rcases hrd with ⟨rfl, hrd⟩ | ⟨_, hno, _⟩
        case inr => exact absurd ⟨Htl.out, hwr.1, hwr.2⟩ (hno l)
        obtain rfl : l = m := read_uniq ⟨Htl.out, hwr.1, hwr.2⟩ hrd
        go_wp2_with fail
        refine (apply_ok p A4 l.length c4 w4.heap.size l rfl hck w4 hm4.at_ (Nat.le_refl _)).mono ?_
        rintro e w5 ⟨rfl, hb5⟩
        have et2 : (⟨(app p.data.toList 0 l).toArray⟩ : ByteArray) = t2 := ba_ext Ht2.out.symm
        have Het := Lib.hid et2
        clear et2
        go_wp2
        go_roundw
        case rel => exact ⟨j + 1, by omega, by go_num, by rw [Het.out, HT2.out], hbr.trans ((hb4.mono hbr.size).trans (hb5.mono (Nat.le_trans hbr.size hb4.size)))⟩
        case measure => simp only [intOf]; omega
    · obtain rfl : j = N := by omega
      have hT : H.take j = H := by rw [← HN.out, List.take_length]
      rw [hT]
      have hbw := chain hbr hb1
      have hb3 := Blk.after hb hbw
      have d0 : wr.cell? ⟨gl, 0, none⟩ = some (.string t) := Blk.cell hb3 0
      have f0 := Blk.frozen hb3 0
      have hl3 := hl.after hbw
      clear c1 hT
      go_wp2
      go_end0
      exact ⟨rfl, Blk.set_ hb3 0 (.string (endT ⟨#[]⟩ H)), Blk.far hl3 (fun e => hne e.symm) _, (Only2.of_below hbw).trans (Only2.set 0 (.string (endT ⟨#[]⟩ H)))⟩
set_option maxHeartbeats 1000000 in
theorem leafCrash_no (gl g j : Nat) (t : ByteArray) (H : LH) (keep : Int) (hkeep : -9223372036854775808 ≤ keep ∧ keep ≤ 9223372036854775807) (w : World) (h : LeafAt w gl g t H j)
    (hbad : keep < 0 ∨ ((framesL (recs H)).length : Int) - ((framesL ((recs H).take j)).length : Int) < keep) :
    Calls Tryd.prog 44 #[.pointer (some ⟨gl, 0, none⟩), .int .i64 keep] w fun e w' => e = .returned (.int .i64 1) ∧ LeafAt w' gl g t H j ∧ Only2 gl g w w' := by
  have c1 := h.c1
  have hle := frames_take_le (recs H) j
  have S := Lib.hid (crash_no g _ (lb (framesL (recs H))) keep h.disk (by rw [lb_dsize]; exact hle) hkeep (by rw [lb_dsize]; exact hbad) w h.log)
  clear hbad hle hkeep
  go_enter Tryd.func44, Tryd.ntmps44
  go_wp2_with fail
  refine S.out.mono ?_
  rintro e w1 ⟨rfl, hl, ho⟩
  go_wp2
  go_ret
  refine ⟨rfl, ⟨?_, hl, h.hist, h.text, h.jle, h.disk⟩, Only2.of_only ho⟩
  exact (ho.block gl h.lt.1 (fun e => h.ne (by injection e))).trans h.blk

/-- So many records are whole. -/
def WholeTo (H : LH) (p i : Nat) : Prop := i ≤ H.length ∧ (framesL ((recs H).take i)).length ≤ p ∧ (i < H.length → p < (framesL ((recs H).take (i + 1))).length)
theorem whole_to (H : LH) (p : Nat) : ∃ i, WholeTo H p i := by
  obtain ⟨i, h1, h2, h3⟩ := whole_frames (recs H) p (recs H).length (Nat.le_refl _)
  rw [recs_len] at h1 h3
  exact ⟨i, h1, h2, h3⟩
theorem WholeTo.ge {H : LH} {p i j : Nat} (h : WholeTo H p i) (hj : j ≤ H.length) (hp : (framesL ((recs H).take j)).length ≤ p) : j ≤ i := by
  rcases Nat.lt_or_ge i j with g | g
  · have h1 := h.2.2 (by omega)
    have h2 := frames_take_mono (recs H) (i + 1) j g
    omega
  · exact g
theorem WholeTo.at_ {H : LH} {j i : Nat} (h : WholeTo H (framesL ((recs H).take j)).length i) (hj : j ≤ H.length) : i = j := by
  have h1 := h.ge hj (Nat.le_refl _)
  rcases Nat.lt_or_ge j i with g | g
  · have := frames_lt (recs H) j i g (by rw [recs_len]; exact h.1)
    have := h.2.1
    omega
  · omega
theorem WholeTo.all {H : LH} {i : Nat} (h : WholeTo H (framesL (recs H)).length i) : i = H.length := by
  have e : (recs H).take H.length = recs H := by rw [← recs_len, List.take_length]
  have := WholeTo.at_ (H := H) (j := H.length) (i := i) (by rw [e]; exact h) (Nat.le_refl _)
  exact this

set_option maxHeartbeats 1000000 in
theorem leafCrash_ok (gl g j m i : Nat) (t : ByteArray) (H : LH) (w : World) (h : LeafAt w gl g t H j) (hm : (framesL ((recs H).take j)).length + m ≤ (framesL (recs H)).length) (hi : WholeTo H ((framesL ((recs H).take j)).length + m) i) :
    Calls Tryd.prog 44 #[.pointer (some ⟨gl, 0, none⟩), .int .i64 (m : Int)] w fun e w' => e = .returned (.int .i64 0) ∧ LeafAt w' gl g (endT ⟨#[]⟩ (H.take i)) (H.take i) i ∧ Only2 gl g w w' := by
  have c1 := h.c1
  obtain ⟨hi1, hi2, hi3⟩ := hi
  have hsc : Scans ((lb (framesL (recs H))).data.toList.take ((framesL ((recs H).take j)).length + m)) ((recs H).take i) (framesL ((recs H).take i)).length := by
    have := scans_frames (recs H) [] ((framesL ((recs H).take j)).length + m) i (hist_len h.hist) hm (by rw [recs_len]; exact hi1) hi2 (fun g => hi3 (by rw [recs_len] at g; exact g))
    rw [lb_list]
    simpa using this
  have S := Lib.hid (crash_ok g _ m (lb (framesL (recs H))) h.disk (by rw [lb_dsize]; exact hm) _ _ hsc w h.log)
  rw [← recs_take] at S
  have hd2 : (framesL (recs (H.take i))).length ≤ 4000 := by
    have := frames_take_le (recs H) i
    rw [recs_take]; have := h.disk; omega
  have hht := hist_take h.hist i
  clear hsc hm hi2 hi3
  go_enter Tryd.func44, Tryd.ntmps44
  go_wp2_with fail
  refine S.out.mono ?_
  rintro e w1 ⟨rfl, hl1, ho1⟩
  have hb1 : Blk w1 gl 104 #[.string t, .pointer (some ⟨g, 0, none⟩)] := (ho1.block gl h.lt.1 (fun e => h.ne (by injection e))).trans h.blk
  go_wp2_with fail
  refine (leafRead gl g _ t (H.take i) hht hd2 w1 h.ne hb1 hl1).mono ?_
  rintro e w2 ⟨rfl, hb2, hl2, ho2⟩
  go_wp2
  go_ret
  have hlen : (H.take i).length = i := by rw [List.length_take]; omega
  have e1 : (recs (H.take i)).take i = recs (H.take i) := by
    rw [List.take_of_length_le]; rw [recs_len, hlen]; exact Nat.le_refl _
  exact ⟨rfl, ⟨hb2, by rw [e1]; exact hl2, hht, rfl, by rw [hlen]; exact Nat.le_refl _, hd2⟩, (Only2.of_only ho1).trans ho2⟩
end Go.Proofs.YtigbnldmjafgmaaDoor
