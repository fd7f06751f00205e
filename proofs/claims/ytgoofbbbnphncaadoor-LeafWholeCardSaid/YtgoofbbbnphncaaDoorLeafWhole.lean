/- LeafWhole's walk: if a crash keeps all bytes, nothing is lost, and the rest is durable. -/
import Derived.Test.YtgoofbbbnphncaaDoorLeafRows
namespace Go.Proofs.YtgoofbbbnphncaaDoor
open Go.RowKit
set_option linter.unusedVariables false

set_option maxRecDepth 100000 in
set_option maxHeartbeats 4000000 in
theorem leafWhole_walk (s : ByteArray) (A : Option Addr) (len cap : Nat) (l : List EdRow) (sv : Int) {w : World} (hs : s.size ≤ 140737488351232) (hl : EditssIn w A len cap l) (hsv : (Lit.int .i64 sv).wf = true) (ht : Tab w) :
    Calls Tryd.prog 4 #[.string s, .slice A len cap, .int .i64 sv] w fun e w' => e = .returned (.bool true) ∧ Below w.heap.size w w' := by
  have hlen : len ≤ 8796093022208 := by have := hl.2.2.1; omega
  by_cases h200 : s.size ≤ 200
  case neg =>
    have N1 := Lib.hid (leafNew_no s (by omega))
    go_enter Tryd.func4, Tryd.ntmps4
    go_wp2_with fail
    refine (leaves_any _ ht).mono ?_
    rintro e w1 ⟨rfl, hb1⟩
    go_wp2_with fail
    refine (N1.out _).mono ?_
    rintro e w2 ⟨rfl, rfl⟩
    have q1 : decide ((200 : Int) < (s.size : Int)) = true := decide_eq_true (by omega)
    go_wp2
    go_ret
    exact ⟨rfl, hb1⟩
  have N1 := Lib.hid (leafNew_ok s h200)
  go_enter Tryd.func4, Tryd.ntmps4
  go_wp2_with fail
  refine (leaves_any _ ht).mono ?_
  rintro e w1 ⟨rfl, hb1⟩
  go_wp2_with fail
  refine (N1.out _).mono ?_
  rintro e w2 ⟨gl, g, rfl, hl2, hgl, hgg, hb2⟩
  have hb2' := chain hb2 hb1
  have hgl' : w.heap.size ≤ gl := Nat.le_trans hb1.size hgl
  have hgg' : w.heap.size ≤ g := Nat.le_trans hb1.size hgg
  clear hb1 hb2 hgl hgg
  go_wp2
  go_loopw [9, 10, 35] (fun _ _ kv wr => ∃ (k : Nat) (t : ByteArray) (H : LH) (j : Nat), k ≤ len ∧ kv = .int .i64 k ∧ LeafAt wr gl g t H j ∧ Below w.heap.size w wr) (fun _ _ kv _ => len - (intOf kv).toNat)
  case atStart => exact ⟨0, _, _, _, Nat.zero_le _, rfl, hl2, hb2'⟩
  case round =>
    clear hl2 hb2'
    obtain ⟨k, t, H, j, hk, rfl, hlf, hbr⟩ := hrel
    by_cases hlt : k < len
    · obtain ⟨b, o, X, n, c, L, rfl, ck, he, _⟩ := editss_at hl hbr k hlt
      go_wp2_with fail
      refine (leafEdit gl g j t H X n c L wr (ht.after hbr) hlf he).mono ?_
      rintro e w3 ⟨rfl, hl3, ho3⟩
      have hb3 := ho3.below hbr hgl' hgg' hbr.size
      clear ck he
      by_cases hsk : (k : Int) = sv
      · have q1 : ((k : Int) == sv) = true := by rw [hsk]; simp
        clear hsk
        go_wp2_with fail
        refine (leafSave gl g j _ _ w3 hl3).mono ?_
        rintro e w4 ⟨rfl, hl4, ho4⟩
        have hb4 := ho4.below hb3 hgl' hgg' hb3.size
        go_wp2
        go_roundw
        case rel => exact ⟨k + 1, _, _, _, by omega, by go_num, hl4, hb4⟩
        case measure => simp only [intOf]; omega
      · have q1 : ((k : Int) == sv) = false := by simpa using hsk
        clear hsk
        go_wp2
        go_roundw
        case rel => exact ⟨k + 1, _, _, _, by omega, by go_num, hl3, hb3⟩
        case measure => simp only [intOf]; omega
    · have hle := frames_take_le (recs H) j
      have hd := hlf.disk
      obtain ⟨i, hi⟩ := whole_to H ((framesL ((recs H).take j)).length + ((framesL (recs H)).length - (framesL ((recs H).take j)).length))
      obtain rfl : i = H.length := by
        refine WholeTo.all ?_
        have e : (framesL ((recs H).take j)).length + ((framesL (recs H)).length - (framesL ((recs H).take j)).length) = (framesL (recs H)).length := by omega
        rw [e] at hi; exact hi
      have C1 := Lib.hid (fun w2 h => leafCrash_no gl g j t H (((framesL (recs H)).length : Int) - ((framesL ((recs H).take j)).length : Int) + 1) (by omega) w2 h (.inr (by omega)))
      have C2 := Lib.hid (fun w2 h => leafCrash_ok gl g j ((framesL (recs H)).length - (framesL ((recs H).take j)).length) H.length t H w2 h (by omega) hi)
      rw [List.take_length] at C2
      have htx := hlf.text
      rw [← htx] at C2
      have S1 := Lib.hid (fun w2 h => leafSize gl g j t H w2 h)
      have S2 := Lib.hid (fun w2 h => leafSize gl g H.length t H w2 h)
      have e5 : ((recs H).take H.length) = recs H := by rw [← recs_len, List.take_length]
      rw [e5] at S2
      obtain ⟨n, hn⟩ : ∃ n, (framesL (recs H)).length = n := ⟨_, rfl⟩
      obtain ⟨m, hm⟩ : ∃ m, (framesL ((recs H).take j)).length = m := ⟨_, rfl⟩
      rw [hn, hm] at C1 C2 S1
      rw [hn] at S2 hd
      rw [hn, hm] at hle
      have hcast : (n : Int) - (m : Int) = ((n - m : Nat) : Int) := by omega
      rw [← hcast] at C2
      clear hn hm htx hi e5 hcast
      go_wp2_with fail
      refine (leafText gl g j t H wr hlf).mono ?_
      rintro e w3 ⟨rfl, rfl⟩
      go_wp2_with fail
      refine (S1.out _ hlf).mono ?_
      rintro e w4 ⟨rfl, hl4, ho4⟩
      have hb4 := ho4.below hbr hgl' hgg' hbr.size
      go_wp2_with fail
      refine (C1.out _ hl4).mono ?_
      rintro e w5 ⟨rfl, hl5, ho5⟩
      have hb5 := ho5.below hb4 hgl' hgg' hb4.size
      go_wp2_with fail
      refine (leafText gl g j t H w5 hl5).mono ?_
      rintro e w6 ⟨rfl, rfl⟩
      have q2 : (t.toList != t.toList) = false := by simp
      have q3 : (t.toList == t.toList) = true := by simp
      have q4 : ((n : Int) == (n : Int)) = true := by simp
      go_wp2_with fail
      refine (C2.out _ hl5).mono ?_
      rintro e w7 ⟨rfl, hl7, ho7⟩
      have hb7 := ho7.below hb5 hgl' hgg' hb5.size
      go_wp2_with fail
      refine (S2.out _ hl7).mono ?_
      rintro e w8 ⟨rfl, hl8, ho8⟩
      have hb8 := ho8.below hb7 hgl' hgg' hb7.size
      go_wp2_with fail
      refine (leafText gl g _ t H w8 hl8).mono ?_
      rintro e w9 ⟨rfl, rfl⟩
      go_wp2
      go_ret
      exact ⟨rfl, hb8⟩
end Go.Proofs.YtgoofbbbnphncaaDoor
