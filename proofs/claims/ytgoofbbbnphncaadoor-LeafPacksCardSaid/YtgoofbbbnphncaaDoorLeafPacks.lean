/- LeafPacks' walk: compaction preserves the text durably, and a crash during compaction leaves the saved or the current text. -/
import Derived.Test.YtgoofbbbnphncaaDoorLeafPack
import Derived.Test.YtgoofbbbnphncaaDoorKeep
namespace Go.Proofs.YtgoofbbbnphncaaDoor
open Go.RowKit
set_option linter.unusedVariables false

theorem leafCrash_full (gl g : Nat) (t : ByteArray) (H : LH) (w : World) (h : LeafAt w gl g t H H.length) :
    Calls Tryd.prog 18 #[.pointer (some ⟨gl, 0, none⟩), .int .i64 0] w fun e w' => e = .returned (.int .i64 0) ∧ LeafAt w' gl g t H H.length ∧ Only2 gl g w w' := by
  have hle := frames_take_le (recs H) H.length
  have := leafCrash_ok gl g H.length 0 H.length t H w h (by omega) (whole_self (Nat.le_refl _))
  rw [List.take_length, ← h.text] at this
  exact this
theorem leafSize_full (gl g : Nat) (t : ByteArray) (H : LH) (n : Nat) (hn : (framesL (recs H)).length = n) (w : World) (h : LeafAt w gl g t H H.length) :
    Calls Tryd.prog 16 #[.pointer (some ⟨gl, 0, none⟩)] w fun e w' => e = .returned (.tuple #[.int .i64 (n : Int), .int .i64 (n : Int)]) ∧ LeafAt w' gl g t H H.length ∧ Only2 gl g w w' := by
  have := leafSize gl g H.length t H w h
  have e5 : ((recs H).take H.length) = recs H := by rw [← recs_len, List.take_length]
  rw [e5, hn] at this
  exact this
/-- A Pack, whole. -/
def PackTo (gl : Nat) (t T : ByteArray) (w : World) (n : Nat) : Ending → World → Prop := fun e w' => e = .returned (.int .i64 0) ∧ ∃ g' H', LeafAt w' gl g' T H' H'.length ∧ (framesL (recs H')).length = n ∧ w.heap.size ≤ g' ∧ Below w.heap.size w w'

set_option maxRecDepth 100000 in
set_option maxHeartbeats 4000000 in
theorem leafPacks_walk (s : ByteArray) (A : Option Addr) (len cap : Nat) (l : List EdRow) (sv st : Int) {w : World} (hs : s.size ≤ 140737488351232) (hl : EditssIn w A len cap l) (hsv : (Lit.int .i64 sv).wf = true) (hst : (Lit.int .i64 st).wf = true) (ht : Tab w) :
    Calls Tryd.prog 6 #[.string s, .slice A len cap, .int .i64 sv, .int .i64 st] w fun e w' => e = .returned (.bool true) ∧ Below w.heap.size w w' := by
  have hlen : len ≤ 5864062014634 := by have := hl.2.2.1; omega
  by_cases h200 : s.size ≤ 200
  case neg =>
    have N1 := Lib.hid (leafNew_no s (by omega))
    go_enter Tryd.func6, Tryd.ntmps6
    go_wp2_with fail
    refine (leaves_any _ ht).mono ?_
    rintro e w1 ⟨rfl, hb1⟩
    go_wp2_with fail
    refine (N1.out _).mono ?_
    rintro e w2 ⟨rfl, rfl⟩
    have q1 : decide ((200 : Int) < (s.size : Int)) = true := decide_eq_true (by omega)
    go_wp2
    go_ret
    exact ⟨rfl, hb1⟩
  have N1 := Lib.hid (leafNew_ok s h200)
  have hwi : ∃ x : Int, (x = 0 ∨ x = 1 ∨ x = 2 ∨ x = 3) ∧ ∀ w, Calls Tryd.prog 21 #[.int .i64 st, .int .i64 4] w fun e w' => e = .returned (.int .i64 x) ∧ w = w' :=
    ⟨st % 4, by omega, fun w => within_any st 4 (by omega) (by omega) w⟩
  obtain ⟨x, hx, hwi⟩ := hwi
  have W := Lib.hid hwi
  have hx := Lib.hid hx
  clear hwi
  go_enter Tryd.func6, Tryd.ntmps6
  go_wp2_with fail
  refine (leaves_any _ ht).mono ?_
  rintro e w1 ⟨rfl, hb1⟩
  go_wp2_with fail
  refine (N1.out _).mono ?_
  rintro e w2 ⟨gl, g, rfl, hl2, hgl, hgg, hb2⟩
  have hb2' := chain hb2 hb1
  have hgl' : w.heap.size ≤ gl := Nat.le_trans hb1.size hgl
  have hgg' : w.heap.size ≤ g := Nat.le_trans hb1.size hgg
  clear hb1 hb2 hgl hgg
  go_wp2
  go_loopw [11, 12, 13, 37] (fun sdv _ _ kv wr => ∃ (k : Nat) (t : ByteArray) (H : LH) (j : Nat), k ≤ len ∧ kv = .int .i64 k ∧ sdv = .string (endT ⟨#[]⟩ (H.take j)) ∧ LeafAt wr gl g t H j ∧ Below w.heap.size w wr) (fun _ _ _ kv _ => len - (intOf kv).toNat)
  case atStart => exact ⟨0, _, _, _, Nat.zero_le _, rfl, rfl, hl2, hb2'⟩
  case round =>
    clear hl2 hb2'
    obtain ⟨k, t, H, j, hk, rfl, rfl, hlf, hbr⟩ := hrel
    by_cases hlt : k < len
    · obtain ⟨b, o, X, n, c, L, rfl, ck, he, _⟩ := editss_at hl hbr k hlt
      have hE := Lib.hid (leafEdit gl g j t H X n c L wr (ht.after hbr) hlf he)
      have e2 : (leafH t H L).take j = H.take j := by
        unfold leafH
        split
        · rw [List.take_append_of_le_length hlf.jle]
        · rfl
      have E2 := Lib.hid e2
      clear he e2
      by_cases hsk : (k : Int) = sv
      · have q1 : ((k : Int) == sv) = true := by rw [hsk]; simp
        clear hsk
        go_wp2_with fail
        refine hE.out.mono ?_
        rintro e w3 ⟨rfl, hl3, ho3⟩
        have hb3 := ho3.below hbr hgl' hgg' hbr.size
        clear ck
        go_wp2_with fail
        refine (leafSave gl g j _ _ w3 hl3).mono ?_
        rintro e w4 ⟨rfl, hl4, ho4⟩
        have hb4 := ho4.below hb3 hgl' hgg' hb3.size
        go_wp2_with fail
        refine (leafText gl g _ _ _ w4 hl4).mono ?_
        rintro e w5 ⟨rfl, rfl⟩
        go_wp2
        go_roundw
        case rel => exact ⟨k + 1, _, _, _, by omega, by go_num, by rw [List.take_length, ← hl4.text], hl4, hb4⟩
        case measure => simp only [intOf]; omega
      · have q1 : ((k : Int) == sv) = false := by simpa using hsk
        clear hsk
        go_wp2_with fail
        refine hE.out.mono ?_
        rintro e w3 ⟨rfl, hl3, ho3⟩
        have hb3 := ho3.below hbr hgl' hgg' hbr.size
        clear ck
        go_wp2
        go_roundw
        case rel => exact ⟨k + 1, _, _, _, by omega, by go_num, by rw [E2.out], hl3, hb3⟩
        case measure => simp only [intOf]; omega
    · have P1 := Lib.hid (fun (x : Int) (hx : x = 1 ∨ x = 2) => (leafPack_stay gl g j t H x hx wr hlf))
      have P2 := Lib.hid (fun (x : Int) (hx : x = 0 ∨ x = 3) => (leafPack_new gl g j t H x hx wr hlf))
      have hlen2 : (H.take j).length = j := by rw [List.length_take]; have := hlf.jle; omega
      have Hlen2 := Lib.hid hlen2
      have hts := hlf.tsize
      have Hts := Lib.hid hts
      have Hbl := Lib.hid (base_len t)
      clear hlen2 hts
      obtain ⟨T1, hT1⟩ : ∃ T1, endT ⟨#[]⟩ (H.take j) = T1 := ⟨_, rfl⟩
      rw [hT1] at P1
      rw [hT1]
      clear hT1
      obtain ⟨b, hb⟩ : ∃ b, (T1.toList != t.toList) = b := ⟨_, rfl⟩
      have q6 : (t.toList != t.toList) = false := by simp
      have q7 : (T1.toList != T1.toList) = false := by simp
      rcases hx.out with rfl | rfl | rfl | rfl
      · go_wp2_with fail
        refine (leafText gl g j t H wr hlf).mono ?_
        rintro e w3 ⟨rfl, rfl⟩
        go_wp2_with fail
        refine (W.out _).mono ?_
        rintro e w3 ⟨rfl, rfl⟩
        go_wp2_with fail
        refine (P2.out 0 (by decide)).mono ?_
        rintro e w3 ⟨rfl, g2, hl3, hg2, ho3⟩
        have hg3 := Nat.le_trans hbr.size hg2
        have hb3 := ho3.below hbr hgl' hgl' hbr.size
        obtain ⟨n, hn⟩ : ∃ n, (framesL (recs [(98 :: t.data.toList, t)])).length = n := ⟨_, rfl⟩
        have hnt : n = t.size + 7 := by rw [← hn, Hbl.out]
        have hl3 : LeafAt w3 gl g2 t [(98 :: t.data.toList, t)] [(98 :: t.data.toList, t)].length := hl3
        generalize [(98 :: t.data.toList, t)] = H1 at *
        have S := Lib.hid (fun w h => leafSize_full gl g2 t H1 n hn w h)
        clear hn hlf
        go_wp2_with fail
        refine (leafText gl _ _ _ _ w3 hl3).mono ?_
        rintro e w4 ⟨rfl, rfl⟩
        go_wp2_with fail
        refine (leafCrash_full gl _ _ _ w3 hl3).mono ?_
        rintro e w4 ⟨rfl, hl4, ho4⟩
        have hb4 := ho4.below hb3 hgl' hg3 hb3.size
        go_wp2_with fail
        refine (leafText gl _ _ _ _ w4 hl4).mono ?_
        rintro e w5 ⟨rfl, rfl⟩
        go_wp2_with fail
        refine (S.out w4 hl4).mono ?_
        rintro e w5 ⟨rfl, hl5, ho5⟩
        have hb5 := ho5.below hb4 hgl' hg3 hb4.size
        have q8 : ((n : Int) == (n : Int)) = true := by simp
        have q9 : ((n : Int) == (t.size : Int) + 7) = true := by rw [hnt]; simp
        have h200t := Hts.out
        clear hb
        go_wp2
        go_ret
        exact ⟨rfl, hb5⟩
      · go_wp2_with fail
        refine (leafText gl g j t H wr hlf).mono ?_
        rintro e w3 ⟨rfl, rfl⟩
        go_wp2_with fail
        refine (W.out _).mono ?_
        rintro e w3 ⟨rfl, rfl⟩
        go_wp2_with fail
        refine (P1.out 1 (by decide)).mono ?_
        rintro e w3 ⟨rfl, hl3, ho3⟩
        have hb3 := ho3.below hbr hgl' hgg' hbr.size
        have hg3 := hgg'
        obtain ⟨n, hn⟩ : ∃ n, (framesL (recs (H.take j))).length = n := ⟨_, rfl⟩
        have hl3 : LeafAt w3 gl g T1 (H.take j) (H.take j).length := by rw [Hlen2.out]; exact hl3
        generalize H.take j = H1 at *
        have S := Lib.hid (fun w h => leafSize_full gl g T1 H1 n hn w h)
        clear hn hlf
        go_wp2_with fail
        refine (leafText gl _ _ _ _ w3 hl3).mono ?_
        rintro e w4 ⟨rfl, rfl⟩
        go_wp2_with fail
        refine (leafCrash_full gl _ _ _ w3 hl3).mono ?_
        rintro e w4 ⟨rfl, hl4, ho4⟩
        have hb4 := ho4.below hb3 hgl' hg3 hb3.size
        go_wp2_with fail
        refine (leafText gl _ _ _ _ w4 hl4).mono ?_
        rintro e w5 ⟨rfl, rfl⟩
        go_wp2_with fail
        refine (S.out w4 hl4).mono ?_
        rintro e w5 ⟨rfl, hl5, ho5⟩
        have hb5 := ho5.below hb4 hgl' hg3 hb4.size
        have q8 : ((n : Int) == (n : Int)) = true := by simp
        cases b
        all_goals
          go_wp2
          all_goals
            go_ret
            exact ⟨rfl, hb5⟩
      · go_wp2_with fail
        refine (leafText gl g j t H wr hlf).mono ?_
        rintro e w3 ⟨rfl, rfl⟩
        go_wp2_with fail
        refine (W.out _).mono ?_
        rintro e w3 ⟨rfl, rfl⟩
        go_wp2_with fail
        refine (P1.out 2 (by decide)).mono ?_
        rintro e w3 ⟨rfl, hl3, ho3⟩
        have hb3 := ho3.below hbr hgl' hgg' hbr.size
        have hg3 := hgg'
        obtain ⟨n, hn⟩ : ∃ n, (framesL (recs (H.take j))).length = n := ⟨_, rfl⟩
        have hl3 : LeafAt w3 gl g T1 (H.take j) (H.take j).length := by rw [Hlen2.out]; exact hl3
        generalize H.take j = H1 at *
        have S := Lib.hid (fun w h => leafSize_full gl g T1 H1 n hn w h)
        clear hn hlf
        go_wp2_with fail
        refine (leafText gl _ _ _ _ w3 hl3).mono ?_
        rintro e w4 ⟨rfl, rfl⟩
        go_wp2_with fail
        refine (leafCrash_full gl _ _ _ w3 hl3).mono ?_
        rintro e w4 ⟨rfl, hl4, ho4⟩
        have hb4 := ho4.below hb3 hgl' hg3 hb3.size
        go_wp2_with fail
        refine (leafText gl _ _ _ _ w4 hl4).mono ?_
        rintro e w5 ⟨rfl, rfl⟩
        go_wp2_with fail
        refine (S.out w4 hl4).mono ?_
        rintro e w5 ⟨rfl, hl5, ho5⟩
        have hb5 := ho5.below hb4 hgl' hg3 hb4.size
        have q8 : ((n : Int) == (n : Int)) = true := by simp
        cases b
        all_goals
          go_wp2
          all_goals
            go_ret
            exact ⟨rfl, hb5⟩
      · go_wp2_with fail
        refine (leafText gl g j t H wr hlf).mono ?_
        rintro e w3 ⟨rfl, rfl⟩
        go_wp2_with fail
        refine (W.out _).mono ?_
        rintro e w3 ⟨rfl, rfl⟩
        go_wp2_with fail
        refine (P2.out 3 (by decide)).mono ?_
        rintro e w3 ⟨rfl, g2, hl3, hg2, ho3⟩
        have hg3 := Nat.le_trans hbr.size hg2
        have hb3 := ho3.below hbr hgl' hgl' hbr.size
        obtain ⟨n, hn⟩ : ∃ n, (framesL (recs [(98 :: t.data.toList, t)])).length = n := ⟨_, rfl⟩
        have hnt : n = t.size + 7 := by rw [← hn, Hbl.out]
        have hl3 : LeafAt w3 gl g2 t [(98 :: t.data.toList, t)] [(98 :: t.data.toList, t)].length := hl3
        generalize [(98 :: t.data.toList, t)] = H1 at *
        have S := Lib.hid (fun w h => leafSize_full gl g2 t H1 n hn w h)
        clear hn hlf
        go_wp2_with fail
        refine (leafText gl _ _ _ _ w3 hl3).mono ?_
        rintro e w4 ⟨rfl, rfl⟩
        go_wp2_with fail
        refine (leafCrash_full gl _ _ _ w3 hl3).mono ?_
        rintro e w4 ⟨rfl, hl4, ho4⟩
        have hb4 := ho4.below hb3 hgl' hg3 hb3.size
        go_wp2_with fail
        refine (leafText gl _ _ _ _ w4 hl4).mono ?_
        rintro e w5 ⟨rfl, rfl⟩
        go_wp2_with fail
        refine (S.out w4 hl4).mono ?_
        rintro e w5 ⟨rfl, hl5, ho5⟩
        have hb5 := ho5.below hb4 hgl' hg3 hb4.size
        have q8 : ((n : Int) == (n : Int)) = true := by simp
        have q9 : ((n : Int) == (t.size : Int) + 7) = true := by rw [hnt]; simp
        have h200t := Hts.out
        clear hb
        go_wp2
        go_ret
        exact ⟨rfl, hb5⟩
end Go.Proofs.YtgoofbbbnphncaaDoor
