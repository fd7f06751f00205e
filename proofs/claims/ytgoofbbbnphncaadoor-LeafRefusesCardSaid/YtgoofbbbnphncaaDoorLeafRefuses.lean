/- LeafRefuses' walk: a call that returns an error changes neither the text nor the result of a later crash. -/
import Derived.Test.YtgoofbbbnphncaaDoorLeafRows
namespace Go.Proofs.YtgoofbbbnphncaaDoor
open Go.RowKit
set_option linter.unusedVariables false

set_option maxRecDepth 100000 in
set_option maxHeartbeats 4000000 in
theorem leafRefuses_walk (s : ByteArray) (A : Option Addr) (len cap : Nat) (l : List EdRow) (X : Option Addr) (nx cx : Nat) (x : List Ed) {w : World} (hs : s.size ≤ 140737488351232) (hl : EditssIn w A len cap l) (hx0 : EditsIn w X nx cx x) (ht : Tab w) :
    Calls Tryd.prog 3 #[.string s, .slice A len cap, .slice X nx cx] w fun e w' => e = .returned (.bool true) ∧ Below w.heap.size w w' := by
  have hlen : len ≤ 8796093022208 := by have := hl.2.2.1; omega
  have hx := edsAt_of hx0
  clear hx0
  by_cases h200 : s.size ≤ 200
  case neg =>
    have N1 := Lib.hid (leafNew_no s (by omega))
    go_enter Tryd.func3, Tryd.ntmps3
    go_wp2_with fail
    refine (leaves_any _ ht).mono ?_
    rintro e w1 ⟨rfl, hb1⟩
    go_wp2_with fail
    refine (N1.out _).mono ?_
    rintro e w2 ⟨rfl, rfl⟩
    go_wp2_with fail
    refine (N1.out _).mono ?_
    rintro e w2 ⟨rfl, rfl⟩
    have q1 : decide ((200 : Int) < (s.size : Int)) = true := decide_eq_true (by omega)
    go_wp2
    go_ret
    exact ⟨rfl, hb1⟩
  have N1 := Lib.hid (leafNew_ok s h200)
  go_enter Tryd.func3, Tryd.ntmps3
  go_wp2_with fail
  refine (leaves_any _ ht).mono ?_
  rintro e w1 ⟨rfl, hb1⟩
  go_wp2_with fail
  refine (N1.out _).mono ?_
  rintro e w2 ⟨gl, g, rfl, hl2, hgl, hgg, hb2⟩
  have hb2' := chain hb2 hb1
  have hgl' : w.heap.size ≤ gl := Nat.le_trans hb1.size hgl
  have hgg' : w.heap.size ≤ g := Nat.le_trans hb1.size hgg
  go_wp2_with fail
  refine (N1.out _).mono ?_
  rintro e w3 ⟨gm, h, rfl, hm3, hgm, hgh, hb3⟩
  have hb3' := chain hb3 hb2'
  have hl3 := hl2.after hb3
  have hgm' : w.heap.size ≤ gm := Nat.le_trans hb2'.size hgm
  have hgh' : w.heap.size ≤ h := Nat.le_trans hb2'.size hgh
  have n1 : gl ≠ gm := by have := hl2.lt; omega
  have n2 : gl ≠ h := by have := hl2.lt; omega
  have n3 : g ≠ gm := by have := hl2.lt; omega
  have n4 : g ≠ h := by have := hl2.lt; omega
  have N := Lib.hid (And.intro n1 (And.intro n2 (And.intro n3 n4)))
  clear hb1 hb2 hb3 hgl hgg hgm hgh hl2 hb2' n1 n2 n3 n4 N1
  go_wp2
  go_loopw [12, 53] (fun _ kv wr => ∃ (k : Nat) (t : ByteArray) (H : LH) (j : Nat), k ≤ len ∧ kv = .int .i64 k ∧ LeafAt wr gl g t H j ∧ LeafAt wr gm h t H j ∧ Below w.heap.size w wr) (fun _ kv _ => len - (intOf kv).toNat)
  case atStart => exact ⟨0, _, _, _, Nat.zero_le _, rfl, hl3, hm3, hb3'⟩
  case round =>
    clear hl3 hm3 hb3'
    obtain ⟨k, t, H, j, hk, rfl, hla, hlb, hbr⟩ := hrel
    by_cases hlt : k < len
    · obtain ⟨b, o, Y, n, c, L, rfl, ck, he, hi⟩ := editss_at hl hbr k hlt
      go_wp2_with fail
      refine (leafEdit gl g j t H Y n c L wr (ht.after hbr) hla he).mono ?_
      rintro e w3 ⟨rfl, hl3, ho3⟩
      have hb3 := ho3.below hbr hgl' hgg' hbr.size
      have hm3 := hlb.apart ho3 N.out.1.symm N.out.2.2.1.symm N.out.2.1.symm N.out.2.2.2.symm
      have he3 : EdsAt w3 Y n c L := editss_row hl hb3 hi
      clear ck he hi
      go_wp2_with fail
      refine (leafEdit gm h j t H Y n c L w3 (ht.after hb3) hm3 he3).mono ?_
      rintro e w4 ⟨rfl, hm4, ho4⟩
      have hb4 := ho4.below hb3 hgm' hgh' hb3.size
      have hl4 := hl3.apart ho4 N.out.1 N.out.2.1 N.out.2.2.1 N.out.2.2.2
      go_wp2
      go_roundw
      case rel => exact ⟨k + 1, _, _, _, by omega, by go_num, hl4, hm4, hb4⟩
      case measure => simp only [intOf]; omega
    · go_wp2_with fail
      refine (leafEdit gl g j t H X nx cx x wr (ht.after hbr) hla (hx.after hbr)).mono ?_
      rintro e w3 ⟨rfl, hl3, ho3⟩
      have hb3 := ho3.below hbr hgl' hgg' hbr.size
      have hm3 := hlb.apart ho3 N.out.1.symm N.out.2.2.1.symm N.out.2.1.symm N.out.2.2.2.symm
      by_cases hE : leafE t H x = 0
      · rw [hE]
        go_wp2
        go_ret
        exact ⟨rfl, hb3⟩
      have e2 : leafT t H x = t := by unfold leafT; rw [if_neg hE]
      have e3 : leafH t H x = H := by unfold leafH; rw [if_neg hE]
      rw [e2, e3] at hl3
      have q1 : (leafE t H x == 0) = false := by simpa using hE
      generalize leafE t H x = E at *
      have hle := frames_take_le (recs H) j
      have hd := hl3.disk
      obtain ⟨i, hi⟩ := whole_to H ((framesL ((recs H).take j)).length + ((framesL (recs H)).length - (framesL ((recs H).take j)).length))
      have C := Lib.hid (fun gl g w2 h => leafCrash_ok gl g j ((framesL (recs H)).length - (framesL ((recs H).take j)).length) i t H w2 h (by omega) hi)
      have S := Lib.hid (fun gl g w2 h => leafSize gl g j t H w2 h)
      obtain ⟨n, hn⟩ : ∃ n, (framesL (recs H)).length = n := ⟨_, rfl⟩
      obtain ⟨m, hm⟩ : ∃ m, (framesL ((recs H).take j)).length = m := ⟨_, rfl⟩
      rw [hn, hm] at C S
      rw [hn] at hd
      rw [hn, hm] at hle
      have hcast : (n : Int) - (m : Int) = ((n - m : Nat) : Int) := by omega
      rw [← hcast] at C
      clear hn hm hi hcast e2 e3 hE hla hlb ho3
      go_wp2_with fail
      refine (S.out gl g _ hl3).mono ?_
      rintro e w4 ⟨rfl, hl4, ho4⟩
      have hb4 := ho4.below hb3 hgl' hgg' hb3.size
      have hm4 := hm3.apart ho4 N.out.1.symm N.out.2.2.1.symm N.out.2.1.symm N.out.2.2.2.symm
      go_wp2_with fail
      refine (S.out gm h _ hm4).mono ?_
      rintro e w5 ⟨rfl, hm5, ho5⟩
      have hb5 := ho5.below hb4 hgm' hgh' hb4.size
      have hl5 := hl4.apart ho5 N.out.1 N.out.2.1 N.out.2.2.1 N.out.2.2.2
      go_wp2_with fail
      refine (leafText gl g j t H w5 hl5).mono ?_
      rintro e w6 ⟨rfl, rfl⟩
      go_wp2_with fail
      refine (leafText gm h j t H w5 hm5).mono ?_
      rintro e w6 ⟨rfl, rfl⟩
      have q3 : (t.toList == t.toList) = true := by simp
      have q4 : ((n : Int) == (n : Int)) = true := by simp
      have q5 : ((m : Int) == (m : Int)) = true := by simp
      go_wp2_with fail
      refine (C.out gl g _ hl5).mono ?_
      rintro e w7 ⟨rfl, hl7, ho7⟩
      have hb7 := ho7.below hb5 hgl' hgg' hb5.size
      have hm7 := hm5.apart ho7 N.out.1.symm N.out.2.2.1.symm N.out.2.1.symm N.out.2.2.2.symm
      go_wp2_with fail
      refine (C.out gm h _ hm7).mono ?_
      rintro e w8 ⟨rfl, hm8, ho8⟩
      have hb8 := ho8.below hb7 hgm' hgh' hb7.size
      have hl8 := hl7.apart ho8 N.out.1 N.out.2.1 N.out.2.2.1 N.out.2.2.2
      generalize endT ⟨#[]⟩ (H.take i) = T at *
      have q6 : (T.toList == T.toList) = true := by simp
      go_wp2_with fail
      refine (leafText gl g _ T _ w8 hl8).mono ?_
      rintro e w9 ⟨rfl, rfl⟩
      go_wp2_with fail
      refine (leafText gm h _ T _ w8 hm8).mono ?_
      rintro e w9 ⟨rfl, rfl⟩
      go_wp2
      go_ret
      exact ⟨rfl, hb8⟩
end Go.Proofs.YtgoofbbbnphncaaDoor
