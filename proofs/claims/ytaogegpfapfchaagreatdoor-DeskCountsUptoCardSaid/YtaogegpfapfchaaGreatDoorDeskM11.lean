import Derived.Test.YtaogegpfapfchaaGreatDoorDeskM03
import Derived.Test.YtaogegpfapfchaaGreatDoorDeskM07
import Derived.Test.YtaogegpfapfchaaGreatDoorDeskM10
import Derived.Test.YtaogegpfapfchaaGreatDoorRows
import Derived.Test.YtaogegpfapfchaaGreatDoorDeskM01
/- Several texts in one: XLeafWalk XLeafRead XGood. -/
/- The walks of a leaf's methods. -/
namespace Go.Proofs.YtaogegpfapfchaaGreatDoor
open Go.RowKit
set_option linter.unusedVariables false

/-- Nothing but these two blocks has turned. -/
structure Only2 (a b : Nat) (w w' : World) : Prop where
  os : w'.os = w.os
  tape : w'.tape = w.tape
  output : w'.output = w.output
  size : w.heap.size ≤ w'.heap.size
  block : ∀ k, k < w.heap.size → k ≠ a → k ≠ b → w'.heap[k]? = w.heap[k]?
section
variable {a b : Nat} {w w' w'' : World}
theorem Only2.refl (a b : Nat) (w : World) : Only2 a b w w := ⟨rfl, rfl, rfl, Nat.le_refl _, fun _ _ _ _ => rfl⟩
theorem Only2.trans (h : Only2 a b w w') (k : Only2 a b w' w'') : Only2 a b w w'' :=
  ⟨k.os.trans h.os, k.tape.trans h.tape, k.output.trans h.output, Nat.le_trans h.size k.size, fun i hi h1 h2 => (k.block i (Nat.lt_of_lt_of_le hi h.size) h1 h2).trans (h.block i hi h1 h2)⟩
theorem Only2.of_below (h : Below w.heap.size w w') : Only2 a b w w' := ⟨h.os, h.tape, h.output, h.size, fun k hk _ _ => h.block k hk⟩
theorem Only2.of_only (h : Only b w w') : Only2 a b w w' := ⟨h.os, h.tape, h.output, h.size, fun k hk _ h2 => h.block k hk (fun e => h2 (by injection e))⟩
theorem Only2.set (i : Nat) (u : Value) : Only2 a b w (w.setCell ⟨a, i, none⟩ u) := ⟨rfl, rfl, rfl, by rw [size_setCell]; exact Nat.le_refl _, fun k _ h1 _ => Below.heap_setCell w ⟨a, i, none⟩ u k (by rintro rfl; exact h1 rfl)⟩
theorem Only2.below {B : Nat} {v : World} (h : Only2 a b w w') (hb : Below B v w) (ha : B ≤ a) (hb2 : B ≤ b) (hB : B ≤ w.heap.size) : Below B v w' :=
  hb.trans ⟨h.os, h.tape, h.output, h.size, fun k hk => h.block k (by omega) (by omega) (by omega)⟩
/-- All but b has stayed: b is new. -/
theorem Only2.drop (h : Only2 a b w w') (hb : w.heap.size ≤ b) (c : Nat) : Only2 a c w w' := ⟨h.os, h.tape, h.output, h.size, fun k hk h1 _ => h.block k hk h1 (by omega)⟩
end

/-- A leaf lies there: its text, and its log. -/
structure LeafAt (w : World) (gl g : Nat) (t : ByteArray) (H : LH) (j : Nat) : Prop where
  blk : Blk w gl 140 #[.string t, .pointer (some ⟨g, 0, none⟩)]
  log : LogAt w g (lb (framesL (recs H))) (framesL ((recs H).take j)).length
  hist : Hist ⟨#[]⟩ H
  text : t = endT ⟨#[]⟩ H
  jle : j ≤ H.length
  disk : (framesL (recs H)).length ≤ 4000
section
variable {w w' : World} {gl g j : Nat} {t : ByteArray} {H : LH}
theorem LeafAt.lt (h : LeafAt w gl g t H j) : gl < w.heap.size ∧ g < w.heap.size := ⟨h.blk.lt, h.log.lt⟩
theorem LeafAt.ne (h : LeafAt w gl g t H j) : gl ≠ g := fun e => by
  subst e
  have := (show w.heap[gl]? = _ from h.blk).symm.trans (show w.heap[gl]? = _ from h.log)
  injection this with this
  injection this with _ this _
  exact absurd this (by decide)
theorem LeafAt.keep (h : LeafAt w gl g t H j) (h1 : w'.heap[gl]? = w.heap[gl]?) (h2 : w'.heap[g]? = w.heap[g]?) : LeafAt w' gl g t H j :=
  ⟨h1.trans h.blk, h2.trans h.log, h.hist, h.text, h.jle, h.disk⟩
theorem LeafAt.after (h : LeafAt w gl g t H j) (hb : Below w.heap.size w w') : LeafAt w' gl g t H j := h.keep (hb.block gl h.lt.1) (hb.block g h.lt.2)
theorem LeafAt.apart {a b : Nat} (h : LeafAt w gl g t H j) (ho : Only2 a b w w') (h1 : gl ≠ a) (h2 : gl ≠ b) (h3 : g ≠ a) (h4 : g ≠ b) : LeafAt w' gl g t H j :=
  h.keep (ho.block gl h.lt.1 h1 h2) (ho.block g h.lt.2 h3 h4)
theorem LeafAt.tsize (h : LeafAt w gl g t H j) : t.size ≤ 200 := by rw [h.text]; exact endT_size h.hist (by decide)
theorem LeafAt.c0 (h : LeafAt w gl g t H j) : w.cell? ⟨gl, 0, none⟩ = some (.string t) := Blk.cell h.blk 0
theorem LeafAt.c1 (h : LeafAt w gl g t H j) : w.cell? ⟨gl, 1, none⟩ = some (.pointer (some ⟨g, 0, none⟩)) := Blk.cell h.blk 1
end
theorem lb_dsize (l : List UInt8) : (lb l).size = l.length := rfl

set_option maxHeartbeats 1000000 in
theorem leafText (gl g j : Nat) (t : ByteArray) (H : LH) (w : World) (h : LeafAt w gl g t H j) : Calls Tryz.prog 63 #[.pointer (some ⟨gl, 0, none⟩)] w fun e w' => e = .returned (.string t) ∧ w = w' := by
  have c0 := h.c0
  go_enter Tryz.func63, Tryz.ntmps63
  go_wp2
  go_ret
  exact ⟨rfl, rfl⟩


set_option maxHeartbeats 1000000 in
theorem leafSave (gl g j : Nat) (t : ByteArray) (H : LH) (w : World) (h : LeafAt w gl g t H j) : Calls Tryz.prog 59 #[.pointer (some ⟨gl, 0, none⟩)] w fun e w' =>
    e = .returned (.tuple #[]) ∧ LeafAt w' gl g t H H.length ∧ Only2 gl g w w' := by
  have c1 := h.c1
  have S := Lib.hid (sync_any g _ _ w h.log)
  go_enter Tryz.func59, Tryz.ntmps59
  go_wp2_with fail
  refine S.out.mono ?_
  rintro e w1 ⟨rfl, hl, ho⟩
  rw [lb_dsize] at hl
  go_wp2
  go_end0
  refine ⟨rfl, ⟨?_, ?_, h.hist, h.text, Nat.le_refl _, h.disk⟩, Only2.of_only ho⟩
  · exact (ho.block gl h.lt.1 (fun e => h.ne (by injection e))).trans h.blk
  · rw [← recs_len, List.take_length]; exact hl

set_option maxHeartbeats 1000000 in
theorem leafNew_no (s : ByteArray) (hs : 200 < s.size) (w : World) : Calls Tryz.prog 92 #[.string s] w fun e w' => e = .returned (.tuple #[.pointer none, .int .i64 2]) ∧ w = w' := by
  have q : decide ((200 : Int) < (s.size : Int)) = true := decide_eq_true (by omega)
  go_enter Tryz.func92, Tryz.ntmps92
  go_wp2
  go_ret2
  exact ⟨rfl, rfl⟩
theorem base_frames (t : ByteArray) : framesL (recs [(98 :: t.data.toList, t)]) = frameL (98 :: t.data.toList) := by simp [recs, framesL]
theorem base_len (t : ByteArray) : (framesL (recs [(98 :: t.data.toList, t)])).length = t.size + 7 := by
  rw [base_frames, frame_len, List.length_cons]; show t.data.toList.length + 1 + 6 = _; have : t.data.toList.length = t.size := rfl; omega
theorem app98 (c : UInt8) (s : ByteArray) : ((⟨#[c]⟩ : ByteArray) ++ s).data.toList = c :: s.data.toList := by simp [ByteArray.data_append]

set_option maxRecDepth 100000 in
set_option maxHeartbeats 2000000 in
theorem leafNew_ok (s : ByteArray) (hs : s.size ≤ 200) (w : World) : Calls Tryz.prog 92 #[.string s] w fun e w' =>
    ∃ gl g, e = .returned (.tuple #[.pointer (some ⟨gl, 0, none⟩), .int .i64 0]) ∧ LeafAt w' gl g s [(98 :: s.data.toList, s)] 1 ∧ w.heap.size ≤ gl ∧ w.heap.size ≤ g ∧ Below w.heap.size w w' := by
  have q : decide ((200 : Int) < (s.size : Int)) = false := decide_eq_false (by omega)
  have hbs : ((⟨#[98]⟩ : ByteArray) ++ s).size = s.size + 1 := by rw [ByteArray.size_append]; show 1 + s.size = _; omega
  have hca : ∀ w, (Op.stringOp .add ⟨#[98]⟩ s).run Tryz.prog w = .ok (.string ((⟨#[98]⟩ : ByteArray) ++ s)) w := fun w => run_string_add_sum w _ _ (by show 1 + s.size ≤ _; omega)
  have hbl := app98 98 s
  have hap := fun g w h => append_ok g 0 ⟨#[]⟩ ((⟨#[98]⟩ : ByteArray) ++ s) (by omega) (by show 0 + _ ≤ _; omega) w h
  have hd : ((⟨#[]⟩ : ByteArray) ++ lb (frameL ((⟨#[98]⟩ : ByteArray) ++ s).data.toList)) = lb (framesL (recs [(98 :: s.data.toList, s)])) := ba_ext (by
    rw [list_app, lb_list, lb_list, hbl, base_frames]; rfl)
  rw [hd] at hap
  have Hap := Lib.hid hap
  have hbd : ∀ (p : Option Addr) (w : World), (Instr.build 140 #[(0, .string s), (1, .pointer p)]).run Tryz.prog w = .ok (.agg #[.string s, .pointer p]) w := fun p w => run_build w 140 _ _ (by kernel_rfl)
  have hlen := base_len s
  have Hlen := Lib.hid hlen
  clear hap hd hlen hbs
  go_enter Tryz.func92, Tryz.ntmps92
  go_wp2_with fail
  refine (new_any _).mono ?_
  rintro e w1 ⟨rfl, hl1, hb1⟩
  go_wp2_with fail
  generalize hg : w.heap.size = g at *
  have Hg := Lib.hid hg
  clear hg
  have hb2 := Blk.new w1 140 #[.string s, .pointer (some ⟨g, 0, none⟩)]
  have hl2 : LogAt (w1.alloc (Obj.cells #[.string s, .pointer (some ⟨g, 0, none⟩)] 140)) g ⟨#[]⟩ 0 := Blk.alloc hl1 _
  have hg1 : g < w1.heap.size := Blk.lt hl1
  have hbw2 : Below g w (w1.alloc (Obj.cells #[.string s, .pointer (some ⟨g, 0, none⟩)] 140)) := hb1.alloc (by omega) _
  generalize w1.alloc (Obj.cells #[.string s, .pointer (some ⟨g, 0, none⟩)] 140) = w2 at *
  generalize hgl : w1.heap.size = gl at *
  clear hgl
  refine (Hap.out g w2 hl2).mono ?_
  rintro e w3 ⟨rfl, hl3, ho3⟩
  have hb3 : Blk w3 gl 140 #[.string s, .pointer (some ⟨g, 0, none⟩)] := (ho3.block gl hb2.lt (fun e => by injection e; omega)).trans hb2
  have c1 : w3.cell? ⟨gl, 1, none⟩ = some (.pointer (some ⟨g, 0, none⟩)) := Blk.cell hb3 1
  have hbw3 := Only.below hbw2 ho3 (Nat.le_refl _) (by have := hb2.lt; omega)
  clear hl1 hl2 hb1 hb2 ho3 hbw2
  go_wp2_with fail
  refine (sync_any g _ _ w3 hl3).mono ?_
  rintro e w4 ⟨rfl, hl4, ho4⟩
  rw [lb_dsize] at hl4
  have hb4 : Blk w4 gl 140 #[.string s, .pointer (some ⟨g, 0, none⟩)] := (ho4.block gl hb3.lt (fun e => by injection e; omega)).trans hb3
  go_wp2
  go_ret2
  refine ⟨gl, g, rfl, ⟨hb4, ?_, ⟨LStep.base s hs, trivial⟩, rfl, Nat.le_refl _, by rw [Hlen.out]; omega⟩, by rw [Hg.out]; omega, by rw [Hg.out]; exact Nat.le_refl _, by rw [Hg.out]; exact Only.below hbw3 ho4 (Nat.le_refl _) (by have := hb3.lt; omega)⟩
  have e1 : (recs [(98 :: s.data.toList, s)]).take 1 = recs [(98 :: s.data.toList, s)] := rfl
  rw [e1]; exact hl4

/-- What Edit answers, and leaves. -/
def leafE (t : ByteArray) (H : LH) (l : List Ed) : Int := if checkE t.size l ≠ 0 then checkE t.size l else if 4000 < (framesL (recs H)).length + ((writeL l).length + 7) then 11 else 0
def leafT (t : ByteArray) (H : LH) (l : List Ed) : ByteArray := if leafE t H l = 0 then ⟨(app t.data.toList 0 l).toArray⟩ else t
def leafH (t : ByteArray) (H : LH) (l : List Ed) : LH := if leafE t H l = 0 then H ++ [(101 :: writeL l, leafT t H l)] else H
theorem leafE_zero {t : ByteArray} {H : LH} {l : List Ed} (h : leafE t H l = 0) : checkE t.size l = 0 ∧ (framesL (recs H)).length + ((writeL l).length + 7) ≤ 4000 := by
  unfold leafE at h
  by_cases h1 : checkE t.size l ≠ 0
  · rw [if_pos h1] at h; exact absurd h h1
  · rw [if_neg h1] at h
    by_cases h2 : 4000 < (framesL (recs H)).length + ((writeL l).length + 7)
    · rw [if_pos h2] at h; cases h
    · exact ⟨by omega, by omega⟩
theorem app_size (t : ByteArray) (l : List Ed) (h : checkE t.size l = 0) : (app t.data.toList 0 l).length ≤ 200 := by
  obtain ⟨h0, h1, h2, h3, h4⟩ := checkE_ok h
  have := app_length (s := t.data.toList) (l := l) (f := true) (e := 0) h3 (fun _ => rfl) (Nat.zero_le _)
  have e : t.data.toList.length = t.size := rfl
  omega
theorem leafH_len (t : ByteArray) (H : LH) (l : List Ed) : H.length ≤ (leafH t H l).length := by unfold leafH; split <;> simp
theorem leafH_take {t : ByteArray} {H : LH} {l : List Ed} {j : Nat} (h : j ≤ H.length) : (recs (leafH t H l)).take j = (recs H).take j := by
  unfold leafH
  split
  · rw [recs_app, List.take_append_of_le_length (by rw [recs_len]; exact h)]
  · rfl

set_option maxRecDepth 100000 in
set_option maxHeartbeats 2000000 in
theorem leafEdit (gl g j : Nat) (t : ByteArray) (H : LH) (A : Option Addr) (n c : Nat) (l : List Ed) (w : World) (ht : Tab w) (h : LeafAt w gl g t H j) (hl : EdsAt w A n c l) :
    Calls Tryz.prog 93 #[.pointer (some ⟨gl, 0, none⟩), .slice A n c] w fun e w' => e = .returned (.int .i64 (leafE t H l)) ∧ LeafAt w' gl g (leafT t H l) (leafH t H l) j ∧ Only2 gl g w w' := by
  have c0 := h.c0
  have hts := h.tsize
  by_cases h1 : checkE t.size l = 0
  case neg =>
    have e1 : leafE t H l = checkE t.size l := by unfold leafE; rw [if_pos h1]
    have e2 : leafT t H l = t := by unfold leafT; rw [if_neg (by rw [e1]; exact h1)]
    have e3 : leafH t H l = H := by unfold leafH; rw [if_neg (by rw [e1]; exact h1)]
    rw [e1, e2, e3]
    have P := Lib.hid (apply_no t (by omega) A n c w.heap.size l hl.small hl.len hl.ok _ rfl h1 w hl.at_ (Nat.le_refl _))
    generalize checkE t.size l = E at *
    have q1 : (E != 0) = true := by simpa using h1
    clear e1 e2 e3
    go_enter Tryz.func93, Tryz.ntmps93
    go_wp2_with fail
    refine P.out.mono ?_
    rintro e w1 ⟨rfl, hb1⟩
    go_wp2
    go_ret
    exact ⟨rfl, h.after hb1, Only2.of_below hb1⟩
  have P := Lib.hid (apply_ok t A n c w.heap.size l hl.len h1 w hl.at_ (Nat.le_refl _))
  have hwr := check_wr h1
  have hwl := write_len53 hwr.2
  have hwl2 := hwr.1
  have happ := app_size t l h1
  have Hapl := Lib.hid (show (ByteArray.mk (app t.data.toList 0 l).toArray).data.toList = app t.data.toList 0 l from rfl)
  have Happ := Lib.hid happ
  clear happ
  go_enter Tryz.func93, Tryz.ntmps93
  go_wp2_with fail
  refine P.out.mono ?_
  rintro e w1 ⟨rfl, hb1⟩
  go_wp2_with fail
  refine (write_one w1 (ht.after hb1) (hl.after hb1)).mono ?_
  rintro e w2 ⟨b, E, rfl, hw, hb2⟩
  rcases hw with ⟨rfl, _, hb⟩ | ⟨_, hno, _⟩
  case inr => exact absurd hwr hno
  have hb12 := chain hb2 hb1
  have h2 := h.after hb12
  have c1 := h2.c1
  have hbz : b.size = (writeL l).length := by rw [← hb]; rfl
  have hbl := app98 101 b
  rw [hb] at hbl
  have hls : ((⟨#[101]⟩ : ByteArray) ++ b).size = (writeL l).length + 1 := by rw [ByteArray.size_append, hbz]; show 1 + _ = _; omega
  have hca : ∀ w, (Op.stringOp .add ⟨#[101]⟩ b).run Tryz.prog w = .ok (.string ((⟨#[101]⟩ : ByteArray) ++ b)) w := fun w => run_string_add_sum w _ _ (by show 1 + b.size ≤ _; omega)
  have hd := h.disk
  clear P hb1 hb2 hb
  by_cases hf : (framesL (recs H)).length + ((writeL l).length + 7) ≤ 4000
  case neg =>
    have e1 : leafE t H l = 11 := by unfold leafE; rw [if_neg (by simpa using h1), if_pos (by omega)]
    have e2 : leafT t H l = t := by unfold leafT; rw [if_neg (by rw [e1]; decide)]
    have e3 : leafH t H l = H := by unfold leafH; rw [if_neg (by rw [e1]; decide)]
    have E1 := Lib.hid e1
    have E2 := Lib.hid e2
    have E3 := Lib.hid e3
    have Ap := Lib.hid (append_full g _ (lb (framesL (recs H))) ((⟨#[101]⟩ : ByteArray) ++ b) (by omega) (by rw [lb_dsize]; omega) (by rw [lb_dsize]; omega) w2 h2.log)
    clear e1 e2 e3 hls hbz hbl
    go_wp2_with fail
    refine Ap.out.mono ?_
    rintro e w3 ⟨rfl, hl3, ho3⟩
    go_wp2
    go_ret
    rw [E1.out, E2.out, E3.out]
    exact ⟨rfl, ⟨(ho3.block gl h2.lt.1 (fun e => h.ne (by injection e))).trans h2.blk, hl3, h.hist, h.text, h.jle, h.disk⟩, (Only2.of_below hb12).trans (Only2.of_only ho3)⟩
  have e1 : leafE t H l = 0 := by unfold leafE; rw [if_neg (by simpa using h1), if_neg (by omega)]
  have e2 : leafT t H l = ⟨(app t.data.toList 0 l).toArray⟩ := by unfold leafT; rw [if_pos e1]
  have e3 : leafH t H l = H ++ [(101 :: writeL l, leafT t H l)] := by unfold leafH; rw [if_pos e1]
  have Ap := Lib.hid (append_ok g _ (lb (framesL (recs H))) ((⟨#[101]⟩ : ByteArray) ++ b) (by omega) (by rw [lb_dsize]; omega) w2 h2.log)
  have hrec : recs (leafH t H l) = recs H ++ [101 :: writeL l] := by rw [e3, recs_app]; rfl
  have hdisk : lb (framesL (recs H)) ++ lb (frameL ((⟨#[101]⟩ : ByteArray) ++ b).data.toList) = lb (framesL (recs (leafH t H l))) := ba_ext (by
    rw [list_app, lb_list, lb_list, lb_list, hbl, hrec, frames_snoc])
  rw [hdisk] at Ap
  have hlt := leafH_take (t := t) (l := l) h.jle
  have hd2 : (framesL (recs (leafH t H l))).length ≤ 4000 := by rw [hrec, frames_snoc, List.length_append, frame_len, List.length_cons]; omega
  have E1 := Lib.hid e1
  have E2 := Lib.hid e2
  have E3 := Lib.hid e3
  have Hlt := Lib.hid hlt
  have Hd2 := Lib.hid hd2
  clear e1 e2 e3 hls hbz hbl hrec hdisk hlt hd2
  go_wp2_with fail
  refine Ap.out.mono ?_
  rintro e w3 ⟨rfl, hl3, ho3⟩
  have hb3 : Blk w3 gl 140 #[.string t, .pointer (some ⟨g, 0, none⟩)] := (ho3.block gl h2.lt.1 (fun e => h.ne (by injection e))).trans h2.blk
  have f0 := Blk.frozen hb3 0
  have d0 : w3.cell? ⟨gl, 0, none⟩ = some (.string t) := Blk.cell hb3 0
  clear Ap hca
  go_wp2
  go_ret
  refine ⟨by rw [E1.out]; rfl, ⟨?_, ?_, ?_, ?_, Nat.le_trans h.jle (leafH_len _ _ _), Hd2.out⟩, ((Only2.of_below hb12).trans (Only2.of_only ho3)).trans (Only2.set 0 (.string ⟨(app t.data.toList 0 l).toArray⟩))⟩
  · rw [E2.out]; exact Blk.set_ hb3 0 (.string ⟨(app t.data.toList 0 l).toArray⟩)
  · rw [Hlt.out]; exact Blk.far hl3 (fun e => h.ne e.symm) _
  · rw [E3.out]
    refine hist_snoc h.hist ?_
    rw [← h.text]
    exact LStep.edit l h1 _ (by rw [E2.out]) (by rw [E2.out]; exact Happ.out)
  · rw [E3.out, endT_snoc]
end Go.Proofs.YtaogegpfapfchaaGreatDoor

/- The walks of a leaf's read, Crash and Pack. -/
namespace Go.Proofs.YtaogegpfapfchaaGreatDoor
open Go.RowKit
set_option linter.unusedVariables false

/-- A string of a list that lies there. -/
theorem strs_cell {w : World} {B N : Nat} {b o : Nat} {L : List ByteArray} (h : Reads w B (some ⟨b, o, none⟩) N 1 (L.flatMap cStr)) (hN : L.length = N) (j : Nat) (hj : j < N) : w.cell? ⟨b, o + j, none⟩ = some (.string (L.getD j ByteArray.empty)) := by
  obtain ⟨b', o', hA, _, hc⟩ := h.2 (by omega)
  injection hA with hA
  injection hA with e1 e2
  subst e1 e2
  have c0 := hc (j * 1 + 0) (by rw [flat_length cStr 1 cStr_len, hN]; omega)
  rw [flat_getD cStr 1 cStr_len ByteArray.empty L j _ (by rw [hN]; exact hj) (by omega)] at c0
  simpa only [cStr, List.getD_cons_zero, Nat.mul_one, Nat.add_zero] using c0
theorem lb_cons (c : UInt8) (b : ByteArray) : lb (c :: b.data.toList) = (⟨#[c]⟩ : ByteArray) ++ b := ba_ext (by rw [lb_list, app98])
theorem lb_tail (c : UInt8) (l : List UInt8) : (lb (c :: l)).extract 1 (lb (c :: l)).size = lb l := ba_ext (by
  rw [Lib.extract_data, lb_list, lb_list, List.drop_succ_cons, List.drop_zero, List.take_of_length_le]
  rw [lb_dsize, List.length_cons]; omega)

set_option maxRecDepth 100000 in
set_option maxHeartbeats 4000000 in
theorem leafRead (gl g k : Nat) (t : ByteArray) (H : LH) (hh : Hist ⟨#[]⟩ H) (hd : (framesL (recs H)).length ≤ 4000) (w : World) (hne : gl ≠ g) (hb : Blk w gl 140 #[.string t, .pointer (some ⟨g, 0, none⟩)]) (hl : LogAt w g (lb (framesL (recs H))) k) :
    Calls Tryz.prog 103 #[.pointer (some ⟨gl, 0, none⟩)] w fun e w' => e = .returned (.tuple #[]) ∧ Blk w' gl 140 #[.string (endT ⟨#[]⟩ H), .pointer (some ⟨g, 0, none⟩)] ∧ LogAt w' g (lb (framesL (recs H))) k ∧ Only2 gl g w w' := by
  have c1 : w.cell? ⟨gl, 1, none⟩ = some (.pointer (some ⟨g, 0, none⟩)) := Blk.cell hb 1
  have Al := Lib.hid (all_any g k (lb (framesL (recs H))) hd w hl)
  have hsc : Scans (lb (framesL (recs H))).data.toList (recs H) (framesL (recs H)).length := by rw [lb_list]; exact scans_all _ (hist_len hh)
  have Hsc := Lib.hid hsc
  clear hsc
  go_enter Tryz.func103, Tryz.ntmps103
  go_wp2_with fail
  refine Al.out.mono ?_
  rintro e w1 ⟨L, n, A, c, hs, rfl, hr, hb1, hLc⟩
  obtain ⟨rfl, _⟩ := scans_one hs Hsc.out
  rw [recs_len] at hr ⊢
  have hn700 : H.length ≤ 700 := by
    have := scans_bound Hsc.out
    rw [lb_list, recs_len] at this; omega
  obtain ⟨N, hN⟩ : ∃ N, H.length = N := ⟨_, rfl⟩
  rw [hN] at hr hn700 ⊢
  have HN := Lib.hid hN
  clear hs hLc Hsc Al hN
  go_wp2
  go_loopw [2, 4, 5, 6, 13] (fun sv _ _ _ kv wr => ∃ j : Nat, j ≤ N ∧ kv = .int .i64 j ∧ sv = .string (endT ⟨#[]⟩ (H.take j)) ∧ Below w1.heap.size w1 wr) (fun _ _ _ _ kv _ => N - (intOf kv).toNat)
  case atStart => exact ⟨0, Nat.zero_le _, rfl, rfl, Below.refl _ _⟩
  case round =>
    obtain ⟨j, hj, rfl, rfl, hbr⟩ := hrel
    by_cases hlt : j < N
    · have hjH : j < H.length := by rw [HN.out]; exact hlt
      obtain ⟨b, o, rfl, hbB, _⟩ := (hr.below hbr).2 (by omega)
      have ci := strs_cell (hr.below hbr) (by rw [List.length_map, recs_len, HN.out]) j hlt
      have e0 : ((recs H).map lb).getD j ByteArray.empty = lb (H[j]'hjH).1 := by
        rw [getD_some _ _ _ (by rw [List.length_map, recs_len]; exact hjH), List.getElem_map]
        congr 1
        simp [recs]
      rw [e0] at ci
      have hst := hist_at hh hjH
      have hnx := endT_succ ⟨#[]⟩ H hjH
      have hps : (endT ⟨#[]⟩ (H.take j)).size ≤ 200 := endT_size (hist_take hh j) (by decide)
      rw [← hnx] at hst
      have hrl := hst.len
      generalize (H[j]'hjH).1 = r at *
      generalize hT2 : endT ⟨#[]⟩ (H.take (j + 1)) = t2 at *
      have HT2 := Lib.hid hT2
      clear hT2
      generalize hp : endT ⟨#[]⟩ (H.take j) = p at *
      clear e0 hnx
      obtain ⟨R, hR⟩ : ∃ R, R = lb r := ⟨_, rfl⟩
      rw [← hR] at ci
      have hRs : R.size ≤ 1100 := by rw [hR, lb_dsize]; exact hrl
      cases hst with
      | base _ hs2 =>
        have htl : R.extract 1 R.size = t2 := by rw [hR]; exact (lb_tail _ _).trans (ba_ext (lb_list _))
        have hsz : 0 < R.size := by rw [hR, lb_dsize, List.length_cons]; omega
        have hsz' : (1 : Int) ≤ R.size := by omega
        have hR0 : R[0]'hsz = 98 := by
          have e := getD_bytes R 0 hsz
          rw [← e, hR, lb_list]; rfl
        have q1 : ((R[0].toNat : Int) == 98) = true := by rw [hR0]; rfl
        have hp2 := hp.symm
        subst hp2
        have Htl := Lib.hid htl
        clear hR hR0 htl hrl
        go_wp2
        go_roundw
        case rel => exact ⟨j + 1, by omega, by go_num, by rw [Htl.out, HT2.out], hbr⟩
        case measure => simp only [intOf]; omega
      | edit l hck _ ht2 hs2 =>
        have hwr := check_wr hck
        have htl : (R.extract 1 R.size).data.toList = writeL l := by rw [hR, lb_tail, lb_list]
        have hsz : 0 < R.size := by rw [hR, lb_dsize, List.length_cons]; omega
        have hsz' : (1 : Int) ≤ R.size := by omega
        have hR0 : R[0]'hsz = 101 := by
          have e := getD_bytes R 0 hsz
          rw [← e, hR, lb_list]; rfl
        have q1 : ((R[0].toNat : Int) == 98) = false := by rw [hR0]; rfl
        have hxs : (R.extract 1 R.size).size ≤ 1100 := by simp; omega
        have Hp := Lib.hid hp
        have Ht2 := Lib.hid ht2
        have Htl := Lib.hid htl
        clear hR hR0 htl hrl ht2 hp
        go_wp2_with fail
        refine (read_one (R.extract 1 R.size) (by omega) _).mono ?_
        rintro e w4 ⟨A4, c4, m, E4, rfl, hrd, hm4, hb4⟩
        rcases hrd with ⟨rfl, hrd⟩ | ⟨_, hno, _⟩
        case inr => exact absurd ⟨Htl.out, hwr.1, hwr.2⟩ (hno l)
        obtain rfl : l = m := read_uniq ⟨Htl.out, hwr.1, hwr.2⟩ hrd
        go_wp2_with fail
        refine (apply_ok p A4 l.length c4 w4.heap.size l rfl hck w4 hm4.at_ (Nat.le_refl _)).mono ?_
        rintro e w5 ⟨rfl, hb5⟩
        have et2 : (⟨(app p.data.toList 0 l).toArray⟩ : ByteArray) = t2 := ba_ext Ht2.out.symm
        have Het := Lib.hid et2
        clear et2
        go_wp2
        go_roundw
        case rel => exact ⟨j + 1, by omega, by go_num, by rw [Het.out, HT2.out], hbr.trans ((hb4.mono hbr.size).trans (hb5.mono (Nat.le_trans hbr.size hb4.size)))⟩
        case measure => simp only [intOf]; omega
    · obtain rfl : j = N := by omega
      have hT : H.take j = H := by rw [← HN.out, List.take_length]
      rw [hT]
      have hbw := chain hbr hb1
      have hb3 := Blk.after hb hbw
      have d0 : wr.cell? ⟨gl, 0, none⟩ = some (.string t) := Blk.cell hb3 0
      have f0 := Blk.frozen hb3 0
      have hl3 := hl.after hbw
      clear c1 hT
      go_wp2
      go_end0
      exact ⟨rfl, Blk.set_ hb3 0 (.string (endT ⟨#[]⟩ H)), Blk.far hl3 (fun e => hne e.symm) _, (Only2.of_below hbw).trans (Only2.set 0 (.string (endT ⟨#[]⟩ H)))⟩
set_option maxHeartbeats 1000000 in
theorem leafCrash_no (gl g j : Nat) (t : ByteArray) (H : LH) (keep : Int) (hkeep : -9223372036854775808 ≤ keep ∧ keep ≤ 9223372036854775807) (w : World) (h : LeafAt w gl g t H j)
    (hbad : keep < 0 ∨ ((framesL (recs H)).length : Int) - ((framesL ((recs H).take j)).length : Int) < keep) :
    Calls Tryz.prog 61 #[.pointer (some ⟨gl, 0, none⟩), .int .i64 keep] w fun e w' => e = .returned (.int .i64 1) ∧ LeafAt w' gl g t H j ∧ Only2 gl g w w' := by
  have c1 := h.c1
  have hle := frames_take_le (recs H) j
  have S := Lib.hid (crash_no g _ (lb (framesL (recs H))) keep h.disk (by rw [lb_dsize]; exact hle) hkeep (by rw [lb_dsize]; exact hbad) w h.log)
  clear hbad hle hkeep
  go_enter Tryz.func61, Tryz.ntmps61
  go_wp2_with fail
  refine S.out.mono ?_
  rintro e w1 ⟨rfl, hl, ho⟩
  go_wp2
  go_ret
  refine ⟨rfl, ⟨?_, hl, h.hist, h.text, h.jle, h.disk⟩, Only2.of_only ho⟩
  exact (ho.block gl h.lt.1 (fun e => h.ne (by injection e))).trans h.blk

/-- So many records are whole. -/
def WholeTo (H : LH) (p i : Nat) : Prop := i ≤ H.length ∧ (framesL ((recs H).take i)).length ≤ p ∧ (i < H.length → p < (framesL ((recs H).take (i + 1))).length)
theorem whole_to (H : LH) (p : Nat) : ∃ i, WholeTo H p i := by
  obtain ⟨i, h1, h2, h3⟩ := whole_frames (recs H) p (recs H).length (Nat.le_refl _)
  rw [recs_len] at h1 h3
  exact ⟨i, h1, h2, h3⟩
theorem WholeTo.ge {H : LH} {p i j : Nat} (h : WholeTo H p i) (hj : j ≤ H.length) (hp : (framesL ((recs H).take j)).length ≤ p) : j ≤ i := by
  rcases Nat.lt_or_ge i j with g | g
  · have h1 := h.2.2 (by omega)
    have h2 := frames_take_mono (recs H) (i + 1) j g
    omega
  · exact g
theorem WholeTo.at_ {H : LH} {j i : Nat} (h : WholeTo H (framesL ((recs H).take j)).length i) (hj : j ≤ H.length) : i = j := by
  have h1 := h.ge hj (Nat.le_refl _)
  rcases Nat.lt_or_ge j i with g | g
  · have := frames_lt (recs H) j i g (by rw [recs_len]; exact h.1)
    have := h.2.1
    omega
  · omega
theorem WholeTo.all {H : LH} {i : Nat} (h : WholeTo H (framesL (recs H)).length i) : i = H.length := by
  have e : (recs H).take H.length = recs H := by rw [← recs_len, List.take_length]
  have := WholeTo.at_ (H := H) (j := H.length) (i := i) (by rw [e]; exact h) (Nat.le_refl _)
  exact this

set_option maxHeartbeats 1000000 in
theorem leafCrash_ok (gl g j m i : Nat) (t : ByteArray) (H : LH) (w : World) (h : LeafAt w gl g t H j) (hm : (framesL ((recs H).take j)).length + m ≤ (framesL (recs H)).length) (hi : WholeTo H ((framesL ((recs H).take j)).length + m) i) :
    Calls Tryz.prog 61 #[.pointer (some ⟨gl, 0, none⟩), .int .i64 (m : Int)] w fun e w' => e = .returned (.int .i64 0) ∧ LeafAt w' gl g (endT ⟨#[]⟩ (H.take i)) (H.take i) i ∧ Only2 gl g w w' := by
  have c1 := h.c1
  obtain ⟨hi1, hi2, hi3⟩ := hi
  have hsc : Scans ((lb (framesL (recs H))).data.toList.take ((framesL ((recs H).take j)).length + m)) ((recs H).take i) (framesL ((recs H).take i)).length := by
    have := scans_frames (recs H) [] ((framesL ((recs H).take j)).length + m) i (hist_len h.hist) hm (by rw [recs_len]; exact hi1) hi2 (fun g => hi3 (by rw [recs_len] at g; exact g))
    rw [lb_list]
    simpa using this
  have S := Lib.hid (crash_ok g _ m (lb (framesL (recs H))) h.disk (by rw [lb_dsize]; exact hm) _ _ hsc w h.log)
  rw [← recs_take] at S
  have hd2 : (framesL (recs (H.take i))).length ≤ 4000 := by
    have := frames_take_le (recs H) i
    rw [recs_take]; have := h.disk; omega
  have hht := hist_take h.hist i
  clear hsc hm hi2 hi3
  go_enter Tryz.func61, Tryz.ntmps61
  go_wp2_with fail
  refine S.out.mono ?_
  rintro e w1 ⟨rfl, hl1, ho1⟩
  have hb1 : Blk w1 gl 140 #[.string t, .pointer (some ⟨g, 0, none⟩)] := (ho1.block gl h.lt.1 (fun e => h.ne (by injection e))).trans h.blk
  go_wp2_with fail
  refine (leafRead gl g _ t (H.take i) hht hd2 w1 h.ne hb1 hl1).mono ?_
  rintro e w2 ⟨rfl, hb2, hl2, ho2⟩
  go_wp2
  go_ret
  have hlen : (H.take i).length = i := by rw [List.length_take]; omega
  have e1 : (recs (H.take i)).take i = recs (H.take i) := by
    rw [List.take_of_length_le]; rw [recs_len, hlen]; exact Nat.le_refl _
  exact ⟨rfl, ⟨hb2, by rw [e1]; exact hl2, hht, rfl, by rw [hlen]; exact Nat.le_refl _, hd2⟩, (Only2.of_only ho1).trans ho2⟩
end Go.Proofs.YtaogegpfapfchaaGreatDoor

/- The walk of the laws' helper good: no error among those given. -/
namespace Go.Proofs.YtaogegpfapfchaaGreatDoor
open Go.RowKit
set_option linter.unusedVariables false

end Go.Proofs.YtaogegpfapfchaaGreatDoor

