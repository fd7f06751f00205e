/- LeafKeeps' walk: after a crash the text is the last saved one or a later one. -/
import Derived.Test.YtgoofbbbnphncaaDoorLeafRows
import Derived.Test.YtgoofbbbnphncaaDoorStrs
import Derived.Test.YtgoofbbbnphncaaDoorAppendAll
import Derived.BigQuiet
namespace Go.Proofs.YtgoofbbbnphncaaDoor
open Go.RowKit
set_option linter.unusedVariables false

/-- All texts from the saved one on are there, the newest last. -/
structure TextsAt (H : LH) (j : Nat) (t : ByteArray) (z : Nat) (T : List ByteArray) : Prop where
  last : T.getD z ByteArray.empty = t
  all : ∀ i, j ≤ i → i ≤ H.length → endT ⟨#[]⟩ (H.take i) ∈ T
theorem TextsAt.ok {H : LH} {j z : Nat} {t t' : ByteArray} {T : List ByteArray} {r : List UInt8} (h : TextsAt H j t z T) (hz : T.length = z + 1) : TextsAt (H ++ [(r, t')]) j t' (z + 1) (T ++ [t']) := by
  refine ⟨?_, fun i hj hi => ?_⟩
  · rw [getD_app_right _ _ _ _ (by omega), hz, Nat.sub_self]; rfl
  · rw [List.length_append, List.length_singleton] at hi
    rcases Nat.lt_or_ge H.length i with g | g
    · obtain rfl : i = H.length + 1 := by omega
      rw [List.take_of_length_le (by simp), endT_snoc]; simp
    · rw [List.take_append_of_le_length g]
      exact List.mem_append_left _ (h.all i hj g)
theorem TextsAt.saved {H : LH} {j z : Nat} {t : ByteArray} {T : List ByteArray} (h : TextsAt H j t z T) (hz : T.length = z + 1) (ht : t = endT ⟨#[]⟩ H) : TextsAt H H.length t 0 (T.drop z) := by
  have e : T.drop z = [t] := by rw [drop_getD T z ByteArray.empty (by omega), h.last, List.drop_of_length_le (by omega)]
  rw [e]
  refine ⟨rfl, fun i h1 h2 => ?_⟩
  rw [List.take_of_length_le h1, ← ht]; simp

set_option maxRecDepth 100000 in
set_option maxHeartbeats 4000000 in
theorem leafKeeps_walk (s : ByteArray) (A : Option Addr) (len cap : Nat) (l : List EdRow) (sv kp : Int) {w : World} (hs : s.size ≤ 140737488351232) (hl : EditssIn w A len cap l) (hsv : (Lit.int .i64 sv).wf = true) (hkp : (Lit.int .i64 kp).wf = true) (ht : Tab w) :
    Calls Tryd.prog 5 #[.string s, .slice A len cap, .int .i64 sv, .int .i64 kp] w fun e w' => e = .returned (.bool true) ∧ Below w.heap.size w w' := by
  have hlen : len ≤ 5864062014634 := by have := hl.2.2.1; omega
  have hkp2 : -9223372036854775808 ≤ kp ∧ kp ≤ 9223372036854775807 := by
    have := bounds_i64 hkp; omega
  by_cases h200 : s.size ≤ 200
  case neg =>
    have N1 := Lib.hid (leafNew_no s (by omega))
    go_enter Tryd.func5, Tryd.ntmps5
    go_wp2_with fail
    refine (leaves_any _ ht).mono ?_
    rintro e w1 ⟨rfl, hb1⟩
    go_wp2_with fail
    refine (N1.out _).mono ?_
    rintro e w2 ⟨rfl, rfl⟩
    have q1 : decide ((200 : Int) < (s.size : Int)) = true := decide_eq_true (by omega)
    go_wp2
    go_ret
    exact ⟨rfl, hb1⟩
  have N1 := Lib.hid (leafNew_ok s h200)
  obtain ⟨B, hB⟩ : ∃ B, B = w.heap.size := ⟨_, rfl⟩
  have HB := Lib.hid hB
  clear hB
  go_enter Tryd.func5, Tryd.ntmps5
  go_wp2_with fail
  refine (leaves_any _ ht).mono ?_
  rintro e w1 ⟨rfl, hb1⟩
  go_wp2_with fail
  refine (N1.out _).mono ?_
  rintro e w2 ⟨gl, g, rfl, hl2, hgl, hgg, hb2⟩
  have hb2' := chain hb2 hb1
  have hgl' : w.heap.size ≤ gl := Nat.le_trans hb1.size hgl
  have hgg' : w.heap.size ≤ g := Nat.le_trans hb1.size hgg
  clear hb1 hb2 hgl hgg
  obtain ⟨K, hKd⟩ : ∃ K : Nat → Prop, K = fun k => k < w.heap.size ∨ k = gl ∨ k = g := ⟨_, rfl⟩
  have hK0 : ∀ k, k < w.heap.size → K k := fun k hk => by rw [hKd]; exact .inl hk
  have hK1 : K gl := by rw [hKd]; exact .inr (.inl rfl)
  have hK2 : K g := by rw [hKd]; exact .inr (.inr rfl)
  have hKlt : ∀ (wr : World), Below w.heap.size w wr → gl < wr.heap.size ∧ g < wr.heap.size → ∀ k, K k → k < wr.heap.size := fun wr hb hg k hk => by
    rw [hKd] at hk
    have := hb.size
    rcases hk with hk | hk | hk <;> omega
  have HK := Lib.hid (And.intro hK0 (And.intro hK1 hK2))
  have HKlt := Lib.hid hKlt
  clear hKd hK0 hK1 hK2 hKlt
  go_wp2
  go_loopw [11, 12, 13, 34] (fun tv _ _ kv wr => ∃ (k : Nat) (t : ByteArray) (H : LH) (j : Nat) (z tb to c' : Nat) (T : List ByteArray), k ≤ len ∧ z ≤ k ∧ kv = .int .i64 k ∧ tv = .slice (some ⟨tb, to, none⟩) (z + 1) c' ∧ LeafAt wr gl g t H j ∧ OwnS wr K (some ⟨tb, to, none⟩) (z + 1) c' T ∧ TextsAt H j t z T ∧ Below w.heap.size w wr) (fun _ _ _ kv _ => len - (intOf kv).toNat)
  case atStart =>
    refine ⟨0, _, _, _, 0, w2.heap.size, 0, 1, [s], Nat.zero_le _, Nat.le_refl _, rfl, rfl, hl2.after ((Below.refl _ _).alloc (Nat.le_refl _) _), ?_, ?_, hb2'.alloc hb2'.size _⟩
    · exact ⟨rfl, .inr ⟨w2.heap.size, 0, _, rfl, fun hk => Nat.lt_irrefl _ (HKlt.out _ hb2' hl2.lt _ hk), Blk.new w2 _ _, Nat.le_refl _, by decide, rfl, rfl⟩⟩
    · refine ⟨rfl, fun i h1 h2 => ?_⟩
      obtain rfl : i = 1 := by have : i ≤ 1 := h2; omega
      simp [endT]
  case round =>
    clear hl2 hb2'
    obtain ⟨k, t, H, j, z, tb, to, c', T, hk, hzk, rfl, rfl, hlf, hown, htx, hbr⟩ := hrel
    by_cases hlt : k < len
    · obtain ⟨b, o, X, n, c, L, rfl, ck, he, _⟩ := editss_at hl hbr k hlt
      have hca := leafEdit gl g j t H X n c L wr (ht.after hbr) hlf he
      have Hca := Lib.hid hca
      have Hown := Lib.hid hown
      have Htl := Lib.hid hown.1
      clear hca he hown
      have hcase : (∃ t' H', leafE t H L = 0 ∧ leafT t H L = t' ∧ leafH t H L = H' ∧ TextsAt H' j t' (z + 1) (T ++ [t'])) ∨ (∃ E, leafE t H L = E ∧ (E == 0) = false ∧ leafT t H L = t ∧ leafH t H L = H) := by
        by_cases hE : leafE t H L = 0
        · have e2 : leafH t H L = H ++ [(101 :: writeL L, leafT t H L)] := by unfold leafH; rw [if_pos hE]
          exact .inl ⟨_, _, hE, rfl, rfl, by rw [e2]; exact htx.ok Htl.out⟩
        · exact .inr ⟨_, rfl, by simpa using hE, by unfold leafT; rw [if_neg hE], by unfold leafH; rw [if_neg hE]⟩
      have H8 := Lib.hid (show z + 1 ≤ 8000000000000 by omega)
      have Hw := Lib.hid (show IntKind.i64.wrap (((z + 1 + 1 : Nat) : Int) - 1) = ((z + 1 : Nat) : Int) ∧ IntKind.i64.wrap (((z + 1 : Nat) : Int) - 1) = ((z : Nat) : Int) by rw [IntKind.wrap_i64, IntKind.wrap_i64]; omega)
      rcases hcase with ⟨t', H', e1, e2, e3, htx3⟩ | ⟨E, e1, q5, e2, e3⟩
      · have Hcb := Hca.out
        rw [e1, e2, e3] at Hcb
        have Hca := Lib.hid Hcb
        clear Hcb e1 e2 e3
        by_cases hsk : (k : Int) = sv
        · have q1 : ((k : Int) == sv) = true := by rw [hsk]; simp
          clear hsk
          go_wp2_with fail
          refine Hca.out.mono ?_
          rintro e w3 ⟨rfl, hl3, ho3⟩
          have hb3 := ho3.below hbr hgl' hgg' hbr.size
          have hown3 : OwnS w3 K (some ⟨tb, to, none⟩) (z + 1) c' T := Hown.out.keep fun k hk _ hlt => ho3.block k hlt (fun e => hk (by rw [e]; exact HK.out.2.1)) (fun e => hk (by rw [e]; exact HK.out.2.2))
          go_wp2_with fail
          refine (leafText gl g j t' H' w3 hl3).mono ?_
          rintro e w4 ⟨rfl, rfl⟩
          go_wp2_with (first | (at_builtin; go_must (refine wpList_append_one w3 (.tmp 43) (.tmp 46) 36 rfl rfl K infoStrE Tryd.underlying36 (some ⟨tb, to, none⟩) (z + 1) c' T rfl hown3 1 t' rfl H8.out (HKlt.out _ hb3 hl3.lt) ?_); intro A4 c4 w4 hown4 hk4))
          have hl4 := hl3.keep (hk4.block gl HK.out.2.1) (hk4.block g HK.out.2.2)
          have hb4 : Below w.heap.size w w4 := hb3.trans (hk4.weak HK.out.1).below
          obtain ⟨tb4, to4, rfl, _⟩ := hown4.shape (by omega)
          have hc4 := hown4.cap.1
          have htxz := htx3
          go_wp2_with fail
          refine (leafSave gl g j _ _ w4 hl4).mono ?_
          rintro e w5 ⟨rfl, hl5, ho5⟩
          have hb5 := ho5.below hb4 hgl' hgg' hb4.size
          have hown5 : OwnS w5 K (some ⟨tb4, to4, none⟩) (z + 1 + 1) c4 (T ++ [t']) := hown4.keep fun k hk _ hlt => ho5.block k hlt (fun e => hk (by rw [e]; exact HK.out.2.1)) (fun e => hk (by rw [e]; exact HK.out.2.2))
          have q2 := Hw.out.1
          go_wp2
          go_roundw
          case rel =>
            refine ⟨k + 1, _, _, _, 0, _, _, _, _, by omega, Nat.zero_le _, by go_num, rfl, hl5, ?_, htxz.saved hown5.1 hl5.text, hb5⟩
            have := hown5.back (z + 1) (by omega)
            rw [Nat.add_sub_cancel_left] at this
            exact this
          case measure => simp only [intOf]; omega
        · have q1 : ((k : Int) == sv) = false := by simpa using hsk
          clear hsk
          go_wp2_with fail
          refine Hca.out.mono ?_
          rintro e w3 ⟨rfl, hl3, ho3⟩
          have hb3 := ho3.below hbr hgl' hgg' hbr.size
          have hown3 : OwnS w3 K (some ⟨tb, to, none⟩) (z + 1) c' T := Hown.out.keep fun k hk _ hlt => ho3.block k hlt (fun e => hk (by rw [e]; exact HK.out.2.1)) (fun e => hk (by rw [e]; exact HK.out.2.2))
          go_wp2_with fail
          refine (leafText gl g j t' H' w3 hl3).mono ?_
          rintro e w4 ⟨rfl, rfl⟩
          go_wp2_with (first | (at_builtin; go_must (refine wpList_append_one w3 (.tmp 43) (.tmp 46) 36 rfl rfl K infoStrE Tryd.underlying36 (some ⟨tb, to, none⟩) (z + 1) c' T rfl hown3 1 t' rfl H8.out (HKlt.out _ hb3 hl3.lt) ?_); intro A4 c4 w4 hown4 hk4))
          have hl4 := hl3.keep (hk4.block gl HK.out.2.1) (hk4.block g HK.out.2.2)
          have hb4 : Below w.heap.size w w4 := hb3.trans (hk4.weak HK.out.1).below
          obtain ⟨tb4, to4, rfl, _⟩ := hown4.shape (by omega)
          have hc4 := hown4.cap.1
          have htxz := htx3
          go_wp2
          go_roundw
          case rel => exact ⟨k + 1, _, _, _, _, _, _, _, _, by omega, by omega, by go_num, rfl, hl4, hown4, htxz, hb4⟩
          case measure => simp only [intOf]; omega
      · have Hcb := Hca.out
        rw [e1, e2, e3] at Hcb
        have Hca := Lib.hid Hcb
        clear Hcb e1 e2 e3
        by_cases hsk : (k : Int) = sv
        · have q1 : ((k : Int) == sv) = true := by rw [hsk]; simp
          clear hsk
          go_wp2_with fail
          refine Hca.out.mono ?_
          rintro e w3 ⟨rfl, hl3, ho3⟩
          have hb3 := ho3.below hbr hgl' hgg' hbr.size
          have hown3 : OwnS w3 K (some ⟨tb, to, none⟩) (z + 1) c' T := Hown.out.keep fun k hk _ hlt => ho3.block k hlt (fun e => hk (by rw [e]; exact HK.out.2.1)) (fun e => hk (by rw [e]; exact HK.out.2.2))
          have hc3 := hown3.cap.1
          have htxz := htx
          go_wp2_with fail
          refine (leafSave gl g j _ _ w3 hl3).mono ?_
          rintro e w5 ⟨rfl, hl5, ho5⟩
          have hb5 := ho5.below hb3 hgl' hgg' hb3.size
          have hown5 : OwnS w5 K (some ⟨tb, to, none⟩) (z + 1) c' T := hown3.keep fun k hk _ hlt => ho5.block k hlt (fun e => hk (by rw [e]; exact HK.out.2.1)) (fun e => hk (by rw [e]; exact HK.out.2.2))
          have q2 := Hw.out.2
          go_wp2
          go_roundw
          case rel =>
            refine ⟨k + 1, _, _, _, 0, _, _, _, _, by omega, Nat.zero_le _, by go_num, rfl, hl5, ?_, htxz.saved hown5.1 hl5.text, hb5⟩
            have := hown5.back (z) (by omega)
            rw [Nat.add_sub_cancel_left] at this
            exact this
          case measure => simp only [intOf]; omega
        · have q1 : ((k : Int) == sv) = false := by simpa using hsk
          clear hsk
          go_wp2_with fail
          refine Hca.out.mono ?_
          rintro e w3 ⟨rfl, hl3, ho3⟩
          have hb3 := ho3.below hbr hgl' hgg' hbr.size
          have hown3 : OwnS w3 K (some ⟨tb, to, none⟩) (z + 1) c' T := Hown.out.keep fun k hk _ hlt => ho3.block k hlt (fun e => hk (by rw [e]; exact HK.out.2.1)) (fun e => hk (by rw [e]; exact HK.out.2.2))
          have hc3 := hown3.cap.1
          have htxz := htx
          go_wp2
          go_roundw
          case rel => exact ⟨k + 1, _, _, _, _, _, _, _, _, by omega, by omega, by go_num, rfl, hl3, hown3, htxz, hb3⟩
          case measure => simp only [intOf]; omega
    · obtain rfl : k = len := by omega
      clear hlt hk
      have hle := frames_take_le (recs H) j
      have hd := hlf.disk
      have Hp := Lib.hid hlf.hist
      have ct := hown.cell z (by omega)
      have hlast := htx.last
      rw [hlast] at ct
      have q2 : IntKind.i64.wrap (((z + 1 : Nat) : Int) - 1) = ((z : Nat) : Int) := by rw [IntKind.wrap_i64]; omega
      have q3 : (z : Int) < ((z + 1 : Nat) : Int) := by omega
      have q3b : (0 : Int) ≤ (z : Int) := by omega
      have q4 : (t.toList == t.toList) = true := by simp
      by_cases hbad : kp < 0 ∨ ((framesL (recs H)).length : Int) - ((framesL ((recs H).take j)).length : Int) < kp
      · have C := Lib.hid (leafCrash_no gl g j t H kp hkp2 wr hlf hbad)
        clear hbad hlast hle hd
        go_wp2_with fail
        refine C.out.mono ?_
        rintro e w3 ⟨rfl, hl3, ho3⟩
        have hb3 := ho3.below hbr hgl' hgg' hbr.size
        have ct3 := (cell_heap (ho3.block tb (hown.lt tb rfl).2 (fun e => (hown.lt tb rfl).1 (by rw [e]; exact HK.out.2.1)) (fun e => (hown.lt tb rfl).1 (by rw [e]; exact HK.out.2.2))) (to + z)).trans ct
        have Ht := Lib.hid (fun n => (leafText gl g j t H (w3.drewN n) (hl3.keep (w' := w3.drewN n) rfl rfl)))
        clear ct hlf hown htx C
        go_wp2
        go_quiet (exact Calls.quiet_of_same ((Ht.out _).mono fun e w' h => ⟨h.1, h.2.symm⟩))
        go_wp2
        go_ret
        exact ⟨rfl, below_drewN hb3 _⟩
      · obtain ⟨m, rfl⟩ : ∃ m : Nat, kp = (m : Int) := ⟨kp.toNat, by omega⟩
        obtain ⟨i, hi⟩ := whole_to H ((framesL ((recs H).take j)).length + m)
        have hji := hi.ge hlf.jle (by omega)
        have hiH := hi.1
        have C := Lib.hid (leafCrash_ok gl g j m i t H wr hlf (by omega) hi)
        have hm := htx.all i hji hiH
        clear hbad hlast hle hd hi ct
        go_wp2_with fail
        refine C.out.mono ?_
        rintro e w3 ⟨rfl, hl3, ho3⟩
        have hb3 := ho3.below hbr hgl' hgg' hbr.size
        have hown3 : OwnS w3 K (some ⟨tb, to, none⟩) (z + 1) c' T := hown.keep fun k hk _ hlt => ho3.block k hlt (fun e => hk (by rw [e]; exact HK.out.2.1)) (fun e => hk (by rw [e]; exact HK.out.2.2))
        obtain ⟨i2, hi2⟩ := whole_to (H.take i) ((framesL ((recs (H.take i)).take i)).length + 0)
        have hlen2 : (H.take i).length = i := by rw [List.length_take]; omega
        obtain rfl : i2 = i := WholeTo.at_ hi2 (by rw [hlen2]; exact Nat.le_refl _)
        have C2 := Lib.hid (fun w h => leafCrash_ok gl g i2 0 i2 (endT ⟨#[]⟩ (H.take i2)) (H.take i2) w h (by have := frames_take_le (recs (H.take i2)) i2; omega) hi2)
        rw [List.take_take, Nat.min_self] at C2
        have hhas : hasB (endT ⟨#[]⟩ (H.take i2)) T = true := hasB_iff.2 hm
        have hz8 : z + 1 ≤ 140737488355328 := by omega
        have D := Lib.hid (fun w B h => containsStr_any (endT ⟨#[]⟩ (H.take i2)) (some ⟨tb, to, none⟩) (z + 1) c' B T w hz8 hown.1 h)
        rw [hhas] at D
        clear hi2 hhas hm hlf hown htx C hz8
        generalize endT ⟨#[]⟩ (H.take i2) = t2 at *
        go_wp2_with fail
        refine (leafText gl g _ _ _ w3 hl3).mono ?_
        rintro e w4 ⟨rfl, rfl⟩
        go_wp2_with fail
        refine (D.out _ _ hown3.reads).mono ?_
        rintro e w4 ⟨rfl, rfl⟩
        go_wp2_with fail
        refine (C2.out _ hl3).mono ?_
        rintro e w4 ⟨rfl, hl4, ho4⟩
        have hb4 := ho4.below hb3 hgl' hgg' hb3.size
        have hown4 : OwnS w4 K (some ⟨tb, to, none⟩) (z + 1) c' T := hown3.keep fun k hk _ hlt => ho4.block k hlt (fun e => hk (by rw [e]; exact HK.out.2.1)) (fun e => hk (by rw [e]; exact HK.out.2.2))
        go_wp2_with fail
        refine (leafText gl g _ _ _ w4 hl4).mono ?_
        rintro e w5 ⟨rfl, rfl⟩
        go_wp2_with fail
        refine (D.out _ _ hown4.reads).mono ?_
        rintro e w5 ⟨rfl, rfl⟩
        go_wp2
        go_ret
        exact ⟨rfl, hb4⟩
end Go.Proofs.YtgoofbbbnphncaaDoor
