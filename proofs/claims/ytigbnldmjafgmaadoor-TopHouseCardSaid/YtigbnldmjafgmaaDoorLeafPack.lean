/- The walk of a leaf's Pack. -/
import Derived.Test.YtigbnldmjafgmaaDoorLeaves
namespace Go.Proofs.YtigbnldmjafgmaaDoor
open Go.RowKit
set_option linter.unusedVariables false

theorem Only2.join {a b : Nat} {w w' w'' : World} (h : Only2 a a w w') (k : Only2 a b w' w'') (hb : w.heap.size ≤ b) : Only2 a a w w'' :=
  ⟨k.os.trans h.os, k.tape.trans h.tape, k.output.trans h.output, Nat.le_trans h.size k.size, fun i hi h1 _ => (k.block i (Nat.lt_of_lt_of_le hi h.size) h1 (by omega)).trans (h.block i hi h1 h1)⟩
theorem whole_self {H : LH} {j : Nat} (hj : j ≤ H.length) : WholeTo H ((framesL ((recs H).take j)).length) j := by
  obtain ⟨i, hi⟩ := whole_to H (framesL ((recs H).take j)).length
  obtain rfl := hi.at_ hj
  exact hi
/-- A crash of the log that keeps nothing that is not safe. -/
theorem logCrash0 (gl g j : Nat) (t : ByteArray) (H : LH) (w w0 : World) (h : LeafAt w0 gl g t H j) (hl : LogAt w g (lb (framesL (recs H))) (framesL ((recs H).take j)).length) :
    Calls Tryd.prog 65 #[.pointer (some ⟨g, 0, none⟩), .int .i64 0] w fun e w' => e = .returned (.int .i64 0) ∧ LogAt w' g (lb (framesL (recs (H.take j)))) (framesL (recs (H.take j))).length ∧ Only g w w' := by
  obtain ⟨hi1, hi2, hi3⟩ := whole_self h.jle
  have hle := frames_take_le (recs H) j
  have hsc : Scans ((lb (framesL (recs H))).data.toList.take ((framesL ((recs H).take j)).length + 0)) ((recs H).take j) (framesL ((recs H).take j)).length := by
    have := scans_frames (recs H) [] ((framesL ((recs H).take j)).length + 0) j (hist_len h.hist) (by omega) (by rw [recs_len]; exact hi1) (by omega) (fun g => by have := hi3 (by rw [recs_len] at g; exact g); omega)
    rw [lb_list]
    simpa using this
  have := crash_ok g _ 0 (lb (framesL (recs H))) h.disk (by rw [lb_dsize]; omega) _ _ hsc w hl
  rw [← recs_take] at this
  exact this
theorem take_disk {H : LH} {w : World} {gl g j : Nat} {t : ByteArray} (h : LeafAt w gl g t H j) : (framesL (recs (H.take j))).length ≤ 4000 := by
  have := frames_take_le (recs H) j
  rw [recs_take]; have := h.disk; omega
theorem take_leaf {H : LH} {w0 w : World} {gl g j : Nat} {t : ByteArray} (h : LeafAt w0 gl g t H j) (hb : Blk w gl 104 #[.string (endT ⟨#[]⟩ (H.take j)), .pointer (some ⟨g, 0, none⟩)]) (hl : LogAt w g (lb (framesL (recs (H.take j)))) (framesL (recs (H.take j))).length) :
    LeafAt w gl g (endT ⟨#[]⟩ (H.take j)) (H.take j) j := by
  have hlen : (H.take j).length = j := by rw [List.length_take]; have := h.jle; omega
  have e1 : (recs (H.take j)).take j = recs (H.take j) := by
    rw [List.take_of_length_le]; rw [recs_len, hlen]; exact Nat.le_refl _
  exact ⟨hb, by rw [e1]; exact hl, hist_take h.hist j, rfl, by rw [hlen]; exact Nat.le_refl _, take_disk h⟩

set_option maxRecDepth 100000 in
set_option maxHeartbeats 2000000 in
theorem leafPack_stay (gl g j : Nat) (t : ByteArray) (H : LH) (st : Int) (hst : st = 1 ∨ st = 2) (w : World) (h : LeafAt w gl g t H j) :
    Calls Tryd.prog 64 #[.pointer (some ⟨gl, 0, none⟩), .int .i64 st] w fun e w' => e = .returned (.int .i64 0) ∧ LeafAt w' gl g (endT ⟨#[]⟩ (H.take j)) (H.take j) j ∧ Only2 gl g w w' := by
  have ht200 := h.tsize
  have hbs : ((⟨#[98]⟩ : ByteArray) ++ t).size = t.size + 1 := by rw [ByteArray.size_append]; show 1 + t.size = _; omega
  have hca : ∀ w, (Op.stringOp .add ⟨#[98]⟩ t).run Tryd.prog w = .ok (.string ((⟨#[98]⟩ : ByteArray) ++ t)) w := fun w => run_string_add_sum w _ _ (by show 1 + t.size ≤ _; omega)
  have Hap := Lib.hid (fun g w h => append_ok g 0 ⟨#[]⟩ ((⟨#[98]⟩ : ByteArray) ++ t) (by omega) (by show 0 + _ ≤ _; omega) w h)
  have Hcr := Lib.hid (fun w hl => logCrash0 gl g j t H w _ h hl)
  have Hrd := Lib.hid (fun w hb hl => leafRead gl g (framesL (recs (H.take j))).length t (H.take j) (hist_take h.hist j) (take_disk h) w h.ne hb hl)
  have Hlf := Lib.hid h
  have hlt := h.lt
  have hne := h.ne
  clear hbs
  rcases hst with rfl | rfl
  all_goals
    go_enter Tryd.func64, Tryd.ntmps64
    go_wp2_with fail
    refine (new_any _).mono ?_
    rintro e w1 ⟨rfl, hl1, hb1⟩
    have h1 := h.after hb1
    have c0 := h1.c0
    go_wp2_with fail
    refine (Hap.out _ w1 hl1).mono ?_
    rintro e w2 ⟨rfl, hl2, ho2⟩
    have h2 : LeafAt w2 gl g t H j := h1.keep (ho2.block gl h1.lt.1 (fun e => by injection e with e; omega)) (ho2.block g h1.lt.2 (fun e => by injection e with e; omega))
    have c1 := h2.c1
    have hb2 : Below w.heap.size w w2 := Only.below hb1 ho2 (Nat.le_refl _) (by have := h1.lt; have := Blk.lt hl1; omega)
    clear c0 h1 hl1 hb1 hl2 ho2
    go_wp2_with fail
    refine (Hcr.out w2 h2.log).mono ?_
    rintro e w3 ⟨rfl, hl3, ho3⟩
    have hbk3 : Blk w3 gl 104 #[.string t, .pointer (some ⟨g, 0, none⟩)] := (ho3.block gl h2.lt.1 (fun e => hne (by injection e))).trans h2.blk
    go_wp2_with fail
    refine (Hrd.out w3 hbk3 hl3).mono ?_
    rintro e w4 ⟨rfl, hbk4, hl4, ho4⟩
    go_wp2
    go_ret
    exact ⟨rfl, take_leaf Hlf.out hbk4 hl4, (Only2.of_below hb2).trans ((Only2.of_only ho3).trans ho4)⟩

set_option maxRecDepth 100000 in
set_option maxHeartbeats 2000000 in
theorem leafPack_new (gl g j : Nat) (t : ByteArray) (H : LH) (st : Int) (hst : st = 0 ∨ st = 3) (w : World) (h : LeafAt w gl g t H j) :
    Calls Tryd.prog 64 #[.pointer (some ⟨gl, 0, none⟩), .int .i64 st] w fun e w' => e = .returned (.int .i64 0) ∧ ∃ g', LeafAt w' gl g' t [(98 :: t.data.toList, t)] 1 ∧ w.heap.size ≤ g' ∧ Only2 gl gl w w' := by
  have ht200 := h.tsize
  have hbs : ((⟨#[98]⟩ : ByteArray) ++ t).size = t.size + 1 := by rw [ByteArray.size_append]; show 1 + t.size = _; omega
  have hca : ∀ w, (Op.stringOp .add ⟨#[98]⟩ t).run Tryd.prog w = .ok (.string ((⟨#[98]⟩ : ByteArray) ++ t)) w := fun w => run_string_add_sum w _ _ (by show 1 + t.size ≤ _; omega)
  have hap := (fun g w h => append_ok g 0 ⟨#[]⟩ ((⟨#[98]⟩ : ByteArray) ++ t) (by omega) (by show 0 + _ ≤ _; omega) w h)
  have hbl := app98 98 t
  have hd : ((⟨#[]⟩ : ByteArray) ++ lb (frameL ((⟨#[98]⟩ : ByteArray) ++ t).data.toList)) = lb (framesL (recs [(98 :: t.data.toList, t)])) := ba_ext (by
    rw [list_app, lb_list, lb_list, hbl, base_frames]; rfl)
  rw [hd] at hap
  have Hap := Lib.hid hap
  have hlen := base_len t
  have hnew : ∀ w n, Blk w gl 104 #[.string t, .pointer (some ⟨n, 0, none⟩)] → LogAt w n (lb (framesL (recs [(98 :: t.data.toList, t)]))) (framesL (recs [(98 :: t.data.toList, t)])).length → LeafAt w gl n t [(98 :: t.data.toList, t)] 1 := fun w n h1 h2 => ⟨h1, h2, ⟨LStep.base t ht200, trivial⟩, rfl, Nat.le_refl _, by rw [hlen]; omega⟩
  have Hnew := Lib.hid hnew
  have Hcr := Lib.hid (fun n w h => logCrash0 gl n 1 t [(98 :: t.data.toList, t)] w w h (LeafAt.log h))
  have Hrd := Lib.hid (fun n w (_ : True) hb hl hne => leafRead gl n (framesL (recs [(98 :: t.data.toList, t)])).length t [(98 :: t.data.toList, t)] ⟨LStep.base t ht200, trivial⟩ (by rw [hlen]; omega) w hne hb hl)
  have hlt := h.lt
  have hne := h.ne
  clear hbs hap hd hlen hnew hbl
  rcases hst with rfl | rfl
  all_goals
    go_enter Tryd.func64, Tryd.ntmps64
    go_wp2_with fail
    refine (new_any _).mono ?_
    rintro e w1 ⟨rfl, hl1, hb1⟩
    have h1 := h.after hb1
    have c0 := h1.c0
    obtain ⟨n, hn⟩ : ∃ n, w.heap.size = n := ⟨_, rfl⟩
    have Hn := Lib.hid hn
    have hgn : gl ≠ n := by omega
    rw [hn] at hl1 hb1
    rw [hn]
    clear hn
    go_wp2_with fail
    refine (Hap.out _ w1 hl1).mono ?_
    rintro e w2 ⟨rfl, hl2, ho2⟩
    have h2 : LeafAt w2 gl g t H j := h1.keep (ho2.block gl h1.lt.1 (fun e => by injection e with e; omega)) (ho2.block g h1.lt.2 (fun e => by injection e with e; have := Hn.out; omega))
    have hb2 : Below n w w2 := Only.below hb1 ho2 (Nat.le_refl _) (by have := h1.lt; have := Blk.lt hl1; omega)
    clear c0 h1 hl1 hb1 ho2
    go_wp2_with fail
    refine (sync_any _ _ _ w2 hl2).mono ?_
    rintro e w3 ⟨rfl, hl3, ho3⟩
    rw [lb_dsize] at hl3
    have hbk3 : Blk w3 gl 104 #[.string t, .pointer (some ⟨g, 0, none⟩)] := (ho3.block gl h2.lt.1 (fun e => by injection e with e; omega)).trans h2.blk
    have hb3 : Below n w w3 := Only.below hb2 ho3 (Nat.le_refl _) (by have := Blk.lt hl2; omega)
    clear h2 hl2 ho3
    have c1 : w3.cell? ⟨gl, 1, none⟩ = some (.pointer (some ⟨g, 0, none⟩)) := Blk.cell hbk3 1
    have f1 := Blk.frozen hbk3 1
    have hbk4 : Blk (w3.setCell ⟨gl, 1, none⟩ (.pointer (some ⟨n, 0, none⟩))) gl 104 #[.string t, .pointer (some ⟨n, 0, none⟩)] := Blk.set_ hbk3 1 (.pointer (some ⟨n, 0, none⟩))
    have hl4 : LogAt (w3.setCell ⟨gl, 1, none⟩ (.pointer (some ⟨n, 0, none⟩))) n (lb (framesL (recs [(98 :: t.data.toList, t)]))) (framesL (recs [(98 :: t.data.toList, t)])).length := Blk.far hl3 (fun e => hgn e.symm) _
    have ho4 : Only2 gl gl w (w3.setCell ⟨gl, 1, none⟩ (.pointer (some ⟨n, 0, none⟩))) := Only2.trans (Only2.of_below (by rw [Hn.out]; exact hb3)) (Only2.set 1 (.pointer (some ⟨n, 0, none⟩)))
    have hn : w.heap.size ≤ n := by rw [Hn.out]; exact Nat.le_refl _
    have hsz4 : n < (w3.setCell ⟨gl, 1, none⟩ (.pointer (some ⟨n, 0, none⟩))).heap.size := Blk.lt hl4
    go_wp2_with fail
  · go_ret
    exact ⟨rfl, n, Hnew.out _ _ hbk4 hl4, hn, ho4⟩
  · refine (Hcr.out n _ (Hnew.out _ _ hbk4 hl4)).mono ?_
    rintro e w5 ⟨rfl, hl5, ho5⟩
    have hbk5 : Blk w5 gl 104 #[.string t, .pointer (some ⟨n, 0, none⟩)] := (ho5.block gl (Blk.lt hbk4) (fun e => by injection e with e; omega)).trans hbk4
    have ho5' : Only2 gl gl w w5 := ho4.join (b := n) (Only2.of_only ho5) hn
    go_wp2_with fail
    refine (Hrd.out n w5 True.intro hbk5 hl5 hgn).mono ?_
    rintro e w6 ⟨rfl, hbk6, hl6, ho6⟩
    go_wp2
    go_ret
    exact ⟨rfl, n, Hnew.out _ _ hbk6 hl6, hn, ho5'.join ho6 hn⟩
end Go.Proofs.YtigbnldmjafgmaaDoor
