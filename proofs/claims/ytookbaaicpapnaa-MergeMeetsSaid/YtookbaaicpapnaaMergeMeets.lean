/- MergeMeets' walk: applying either script and then the rest of the other one yields the merged result. -/
import Derived.Test.YtookbaaicpapnaaMergeSelf
import Derived.Test.YtookbaaicpapnaaMergeLaws
import Derived.Test.YtookbaaicpapnaaApply
namespace Go.Proofs.Ytookbaaicpapnaa
open Go.RowKit
set_option linter.unusedVariables false

/-- The text after a script. -/
def apE (s : ByteArray) (l : List Ed) : ByteArray := ⟨(app s.data.toList 0 l).toArray⟩
theorem both_parts {n : Int} {a b : List Ed} (h : bothE n a b = 0) : checkE n a = 0 ∧ checkE n b = 0 ∧ (∀ x ∈ a, ∀ y ∈ b, ¬ Clash x y) ∧ checkE n (mergeE a b) = 0 := by
  have hcm : checkM n a b = 0 := by
    unfold bothE at h
    by_cases hh : checkM n a b = 0
    · exact hh
    · rw [if_pos hh] at h; exact absurd h hh
  have hca : checkE n a = 0 := by
    unfold checkM at hcm
    by_cases hh : checkE n a = 0
    · exact hh
    · rw [if_pos hh] at hcm; exact hcm
  have hcb : checkE n b = 0 := by
    unfold checkM at hcm
    rw [if_neg (by simpa using hca)] at hcm; exact hcm
  unfold bothE at h
  rw [if_neg (by simpa using hcm)] at h
  by_cases hcl : ∃ x ∈ a, ∃ y ∈ b, Clash x y
  · rw [if_pos hcl] at h; cases h
  · rw [if_neg hcl] at h
    exact ⟨hca, hcb, fun x hx y hy hc => hcl ⟨x, hx, y, hy, hc⟩, h⟩
theorem both_swap {n : Int} {a b : List Ed} (h : bothE n a b = 0) : bothE n b a = 0 ∧ mergeE b a = mergeE a b := by
  obtain ⟨h1, h2, h3, h4⟩ := both_parts h
  obtain ⟨_, _, _, oka, _⟩ := checkE_ok h1
  obtain ⟨_, _, _, okb, _⟩ := checkE_ok h2
  have hm := merge_comm a b oka okb h3
  refine ⟨?_, hm.symm⟩
  unfold bothE checkM
  rw [h2, h1, ← hm, h4]
  have : ¬ ∃ x ∈ b, ∃ y ∈ a, Clash x y := fun ⟨x, hx, y, hy, hc⟩ => h3 y hy x hx hc.symm
  rw [if_neg this]
  simp
theorem meets_law (s : ByteArray) {a b : List Ed} (h : bothE s.size a b = 0) : checkE s.size a = 0 ∧ checkE s.size (mergeE a b) = 0 ∧ checkE (apE s a).size (behindE a b) = 0 ∧ apE (apE s a) (behindE a b) = apE s (mergeE a b) := by
  obtain ⟨h1, h2, h3, h4⟩ := both_parts h
  obtain ⟨z0, z1, z2, oka, za⟩ := checkE_ok h1
  obtain ⟨_, _, y2, okb, _⟩ := checkE_ok h2
  obtain ⟨_, _, _, okm, zm⟩ := checkE_ok h4
  have oka' : OkE s.data.toList.length true 0 a := oka
  have okb' : OkE s.data.toList.length true 0 b := okb
  have okm' : OkE s.data.toList.length true 0 (mergeE a b) := okm
  obtain ⟨m1, m2, m3⟩ := meets_all s.data.toList a oka' okb' h3
  have hu := app_length (e := 0) oka' (fun _ => rfl) (Nat.zero_le _)
  have hm := app_length (e := 0) okm' (fun _ => rfl) (Nat.zero_le _)
  have hok := m2 true 0 (fun h => by cases h)
  have hb := app_length (e := 0) hok (fun _ => rfl) (Nat.zero_le _)
  have hsz : (apE s a).size = (app s.data.toList 0 a).length := rfl
  have hs : s.data.toList.length = s.size := rfl
  have hbl : (behindE a b).length ≤ b.length := behind_len a b
  refine ⟨h1, h4, ?_, ?_⟩
  · rw [m3] at hb
    rw [hsz, checkE_full (by omega) (by omega) (by omega) hok, if_neg (by omega)]
  · show (⟨(app (app s.data.toList 0 a) 0 (behindE a b)).toArray⟩ : ByteArray) = _
    rw [m3]
    rfl
where behind_len (a : List Ed) : ∀ b : List Ed, (behindE a b).length ≤ b.length
  | [] => Nat.le_refl _
  | x :: b => by
    have := behind_len a b
    rw [behindE]
    split
    · rw [List.length_cons]; omega
    · rw [List.length_cons, List.length_cons]; omega

set_option maxRecDepth 100000 in
set_option maxHeartbeats 4000000 in
theorem mergeMeets_walk (s : ByteArray) (A : Option Addr) (la ca : Nat) (a : List Ed) (A' : Option Addr) (lb cb : Nat) (b : List Ed) (hs : s.size ≤ 140737488351232) (w : World) (ha : EditsIn w A la ca a) (hb : EditsIn w A' lb cb b) :
    Calls Try.prog 5 #[.string s, .slice A la ca, .slice A' lb cb] w fun e w' => e = .returned (.bool true) ∧ Below w.heap.size w w' := by
  have hn : -9223372036854775808 ≤ (s.size : Int) ∧ (s.size : Int) ≤ 9223372036854775807 := by omega
  obtain ⟨hla, ra, hlen, hok, hcap, hcapm, hnil⟩ := ha
  obtain ⟨hlb, rb, hlenb, hokb, hcapb, hcapmb, hnilb⟩ := hb
  have oa : OkEds a := hok
  have ob : OkEds b := hokb
  have hl4 : la ≤ 4398046511104 := by omega
  have hl5 : lb ≤ 4398046511104 := by omega
  have k1 := fun w1 (r : Reads w1 w.heap.size A la 3 (a.flatMap cEdit)) (r2 : Reads w1 w.heap.size A' lb 3 (b.flatMap cEdit)) (hB : w.heap.size ≤ w1.heap.size) => both_any s.size hn A A' la lb ca cb w.heap.size a b hl4 hl5 hla hlb oa ob w1 r r2 hB
  have k2 := fun w1 (r : Reads w1 w.heap.size A la 3 (a.flatMap cEdit)) (r2 : Reads w1 w.heap.size A' lb 3 (b.flatMap cEdit)) (hB : w.heap.size ≤ w1.heap.size) => both_any s.size hn A' A lb la cb ca w.heap.size b a hl5 hl4 hlb hla ob oa w1 r2 r hB
  by_cases hE : bothE s.size a b = 0
  · obtain ⟨hE2, hm⟩ := both_swap hE
    obtain ⟨p1, p2, p3, p4⟩ := meets_law s hE
    obtain ⟨q1, _, q3, q4⟩ := meets_law s hE2
    rw [hm] at q4
    have j1 : ∀ w1, Reads w1 w.heap.size A la 3 (a.flatMap cEdit) → Reads w1 w.heap.size A' lb 3 (b.flatMap cEdit) → w.heap.size ≤ w1.heap.size → Calls Try.prog 15 #[.int .i64 (s.size : Int), .slice A la ca, .slice A' lb cb] w1 fun e w' => Below w1.heap.size w1 w' ∧ ∃ A1 c1, e = .returned (.tuple #[.slice A1 (mergeE a b).length c1, .int .i64 0]) ∧ Reads w' w'.heap.size A1 (mergeE a b).length 3 ((mergeE a b).flatMap cEdit) := fun w1 r r2 hB =>
      (k1 w1 r r2 hB).mono fun e w' h => by
        obtain ⟨hb, A1, c1, h1, h2, _⟩ := both_ok hE h
        exact ⟨hb, A1, c1, h1, h2⟩
    have j2 : ∀ w1, Reads w1 w.heap.size A la 3 (a.flatMap cEdit) → Reads w1 w.heap.size A' lb 3 (b.flatMap cEdit) → w.heap.size ≤ w1.heap.size → Calls Try.prog 15 #[.int .i64 (s.size : Int), .slice A' lb cb, .slice A la ca] w1 fun e w' => Below w1.heap.size w1 w' ∧ ∃ A1 c1, e = .returned (.tuple #[.slice A1 (mergeE a b).length c1, .int .i64 0]) ∧ Reads w' w'.heap.size A1 (mergeE a b).length 3 ((mergeE a b).flatMap cEdit) := fun w1 r r2 hB =>
      (k2 w1 r r2 hB).mono fun e w' h => by
        obtain ⟨hb, A1, c1, h1, h2, _⟩ := both_ok hE2 h
        rw [hm] at h1 h2
        exact ⟨hb, A1, c1, h1, h2⟩
    have j3 : ∀ w1, Reads w1 w.heap.size A la 3 (a.flatMap cEdit) → Reads w1 w.heap.size A' lb 3 (b.flatMap cEdit) → w.heap.size ≤ w1.heap.size → Calls Try.prog 16 #[.int .i64 (s.size : Int), .slice A la ca, .slice A' lb cb] w1 fun e w' => Below w1.heap.size w1 w' ∧ ∃ A1 c1, e = .returned (.tuple #[.slice A1 (behindE a b).length c1, .int .i64 0]) ∧ Reads w' w'.heap.size A1 (behindE a b).length 3 ((behindE a b).flatMap cEdit) := fun w1 r r2 hB =>
      (behind_any s.size hn A A' la lb ca cb w.heap.size a b hl4 hl5 hla hlb oa ob w1 r r2 hB).mono fun e w' h => by
        obtain ⟨hb, A1, c1, h1, h2, _⟩ := behind_ok hE h
        exact ⟨hb, A1, c1, h1, h2⟩
    have j4 : ∀ w1, Reads w1 w.heap.size A la 3 (a.flatMap cEdit) → Reads w1 w.heap.size A' lb 3 (b.flatMap cEdit) → w.heap.size ≤ w1.heap.size → Calls Try.prog 16 #[.int .i64 (s.size : Int), .slice A' lb cb, .slice A la ca] w1 fun e w' => Below w1.heap.size w1 w' ∧ ∃ A1 c1, e = .returned (.tuple #[.slice A1 (behindE b a).length c1, .int .i64 0]) ∧ Reads w' w'.heap.size A1 (behindE b a).length 3 ((behindE b a).flatMap cEdit) := fun w1 r r2 hB =>
      (behind_any s.size hn A' A lb la cb ca w.heap.size b a hl5 hl4 hlb hla ob oa w1 r2 r hB).mono fun e w' h => by
        obtain ⟨hb, A1, c1, h1, h2, _⟩ := behind_ok hE2 h
        exact ⟨hb, A1, c1, h1, h2⟩
    have ap : ∀ (t : ByteArray) (l : List Ed) (hc : checkE t.size l = 0) (A : Option Addr) (c B0 : Nat) (w : World), Reads w B0 A l.length 3 (l.flatMap cEdit) → B0 ≤ w.heap.size → Calls Try.prog 21 #[.string t, .slice A l.length c] w fun e w' => e = .returned (.tuple #[.string (apE t l), .int .i64 0]) ∧ Below w.heap.size w w' := fun t l hc A c B0 w r hB =>
      apply_ok t A l.length c B0 l rfl hc w r hB
    have a1 := ap s (mergeE a b) p2
    have a2 := ap s a p1
    have a3 := ap s b q1
    have a4 := ap (apE s a) (behindE a b) p3
    have a5 := ap (apE s b) (behindE b a) q3
    rw [p4] at a4
    rw [q4] at a5
    rw [hla] at a2
    rw [hlb] at a3
    have hml : (mergeE a b).length ≤ 20 := (checkE_ok p2).2.2.1
    generalize mergeE a b = M at *
    generalize behindE a b = X at *
    generalize behindE b a = Y at *
    generalize apE s M = T at *
    generalize apE s a = U at *
    generalize apE s b = V at *
    have J1 := Lib.hid j1
    have J2 := Lib.hid j2
    have J3 := Lib.hid j3
    have J4 := Lib.hid j4
    have A1' := Lib.hid a1
    have A2' := Lib.hid a2
    have A3' := Lib.hid a3
    have A4' := Lib.hid a4
    have A5' := Lib.hid a5
    generalize hM : M.length = lm at *
    have HM := Lib.hid hM
    generalize X.length = lx at *
    generalize Y.length = ly at *
    have qs : (T.toList == T.toList) = true := by simp
    clear j1 j2 j3 j4 a1 a2 a3 a4 a5 ap k1 k2 hE hE2 hm p1 p2 p3 p4 q1 q3 q4 oa ob hok hokb hla hlb hM hcap hcapm hnil hcapb hcapmb hnilb
    go_enter Try.func5, Try.ntmps5
    go_wp2_with fail
    refine (merges_any _).mono ?_
    rintro e w1 ⟨rfl, hb1⟩
    go_wp2_with fail
    refine (edits_any _).mono ?_
    rintro e w2 ⟨rfl, hb2⟩
    have b2 := chain hb2 hb1
    go_wp2_with fail
    refine (J1.out w2 (ra.below b2) (rb.below b2) b2.size).mono ?_
    rintro e w3 ⟨hb3, L1, c1, rfl, rL⟩
    have b3 := chain hb3 b2
    go_wp2_with fail
    refine (J2.out w3 (ra.below b3) (rb.below b3) b3.size).mono ?_
    rintro e w4 ⟨hb4, L2, c2, rfl, rM⟩
    have b4 := chain hb4 b3
    have rL := rL.after hb4
    go_wp2_with fail
    refine (J3.out w4 (ra.below b4) (rb.below b4) b4.size).mono ?_
    rintro e w5 ⟨hb5, L3, c3, rfl, rX⟩
    have b5 := chain hb5 b4
    have rL := rL.after hb5
    have rM := rM.after hb5
    go_wp2_with fail
    refine (J4.out w5 (ra.below b5) (rb.below b5) b5.size).mono ?_
    rintro e w6 ⟨hb6, L4, c4, rfl, rY⟩
    have b6 := chain hb6 b5
    have rL := rL.after hb6
    have rM := rM.after hb6
    have rX := rX.after hb6
    go_wp2_with fail
    refine (A1'.out L1 c1 _ w6 rL (Nat.le_refl _)).mono ?_
    rintro e w7 ⟨rfl, hb7⟩
    have b7 := chain hb7 b6
    have rL := rL.after hb7
    have rM := rM.after hb7
    have rX := rX.after hb7
    have rY := rY.after hb7
    go_wp2_with fail
    refine (A2'.out A ca _ w7 (ra.below b7) b7.size).mono ?_
    rintro e w8 ⟨rfl, hb8⟩
    have b8 := chain hb8 b7
    have rL := rL.after hb8
    have rM := rM.after hb8
    have rX := rX.after hb8
    have rY := rY.after hb8
    go_wp2_with fail
    refine (A3'.out A' cb _ w8 (rb.below b8) b8.size).mono ?_
    rintro e w9 ⟨rfl, hb9⟩
    have b9 := chain hb9 b8
    have rL := rL.after hb9
    have rM := rM.after hb9
    have rX := rX.after hb9
    have rY := rY.after hb9
    go_wp2_with fail
    refine (A4'.out L3 c3 _ w9 rX (Nat.le_refl _)).mono ?_
    rintro e w10 ⟨rfl, hb10⟩
    have b10 := chain hb10 b9
    have rL := rL.after hb10
    have rM := rM.after hb10
    have rY := rY.after hb10
    go_wp2_with fail
    refine (A5'.out L4 c4 _ w10 rY (Nat.le_refl _)).mono ?_
    rintro e w11 ⟨rfl, hb11⟩
    have b11 := chain hb11 b10
    have rL := rL.after hb11
    have rM := rM.after hb11
    clear J1 J2 J3 J4 A1' A2' A3' A4' A5' hb1 hb2 hb3 hb4 hb5 hb6 hb7 hb8 hb9 hb10 hb11 b2 b3 b4 b5 b6 b7 b8 b9 b10 rX rY
    go_wp2_with fail
    refine (good_fresh [0, 0, 0, 0, 0, 0, 0] 7 7 rfl (by decide) _ _).mono ?_
    rintro e w12 ⟨rfl, hb12⟩
    have q0 : ([0, 0, 0, 0, 0, 0, 0] : List Int).all (· == 0) = true := by decide
    have b12 := chain hb12 b11
    have rL := rL.after hb12
    have rM := rM.after hb12
    go_wp2_with fail
    refine (equalEdit_any L1 L2 lm lm c1 c2 _ _ M M w12 (by omega) (by omega) HM.out HM.out rL rM).mono ?_
    rintro e w13 ⟨rfl, hb13⟩
    have b13 := chain hb13 b12
    rw [decide_eq_true (rfl : M = M)]
    go_wp2
    go_ret
    exact ⟨by simp, b13⟩
  · have hE2 : bothE s.size b a ≠ 0 := fun h => hE (both_swap h).1
    have j1 := fun w1 r r2 hB => (k1 w1 r r2 hB).mono fun e w' h => both_bad hE h
    have j2 := fun w1 r r2 hB => (k2 w1 r r2 hB).mono fun e w' h => both_bad hE2 h
    generalize bothE s.size a b = E1 at *
    generalize bothE s.size b a = E2 at *
    have q1 : (E1 != 0) = true := by simpa using hE
    have q2 : (E2 != 0) = true := by simpa using hE2
    have J1 := Lib.hid j1
    have J2 := Lib.hid j2
    clear j1 j2 k1 k2 hE hE2 oa ob hok hokb hla hlb hcap hcapm hnil hcapb hcapmb hnilb
    go_enter Try.func5, Try.ntmps5
    go_wp2_with fail
    refine (merges_any _).mono ?_
    rintro e w1 ⟨rfl, hb1⟩
    go_wp2_with fail
    refine (edits_any _).mono ?_
    rintro e w2 ⟨rfl, hb2⟩
    have b2 := chain hb2 hb1
    go_wp2_with fail
    refine (J1.out w2 (ra.below b2) (rb.below b2) b2.size).mono ?_
    rintro e w3 ⟨hb3, rfl⟩
    have b3 := chain hb3 b2
    go_wp2_with fail
    refine (J2.out w3 (ra.below b3) (rb.below b3) b3.size).mono ?_
    rintro e w4 ⟨hb4, rfl⟩
    go_wp2
    go_ret
    exact ⟨by simp, chain hb4 b3⟩
end Go.Proofs.Ytookbaaicpapnaa
