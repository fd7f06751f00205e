/- DistNear's walk: the results are near, more are found with a greater limit, and the triangle inequality holds for them. -/
import Derived.Test.YtccbfhaoepomnaaNear
import Derived.Test.YtccbfhaoepomnaaContains
import Derived.Test.YtccbfhaoepomnaaEqual
import Derived.Test.YtccbfhaoepomnaaKeep
import Derived.Test.YtccbfhaoepomnaaGood
import Derived.Test.YtccbfhaoepomnaaArgs
namespace Go.Proofs.Ytccbfhaoepomnaa
open Go.RowKit
set_option linter.unusedVariables false

theorem near_known : nearI ⟨#[97, 98]⟩ [⟨#[97, 98, 99]⟩, ⟨#[98]⟩, ⟨#[120, 121, 122]⟩] 1 3 = [0, 1] := by decide +kernel
theorem near_known_ok : NearOk ⟨#[97, 98]⟩ [⟨#[97, 98, 99]⟩, ⟨#[98]⟩, ⟨#[120, 121, 122]⟩] := ⟨by decide, by decide, fun t ht => by
  simp at ht
  rcases ht with rfl | rfl | rfl <;> decide⟩

set_option maxRecDepth 100000 in
set_option maxHeartbeats 4000000 in
theorem distNear_walk (s t : ByteArray) (A : Option Addr) (len cap : Nat) (l : List ByteArray) (most0 more0 : Int) (hs0 : s.size ≤ 140737488351232) (ht0 : t.size ≤ 140737488351232) (w : World) (hl : StrsIn w A len cap l)
    (hmost0 : (Lit.int .i64 most0).wf = true) (hmore0 : (Lit.int .i64 more0).wf = true) :
    Calls Try.prog 12 #[.string s, .string t, .slice A len cap, .int .i64 most0, .int .i64 more0] w fun e w' => e = .returned (.bool true) ∧ Below w.heap.size w w' := by
  obtain ⟨hll, hrd, hlen, _⟩ := hl
  have Hll := Lib.hid hll
  have c1 : ∀ w, Calls Try.prog 31 #[.string ⟨#[97, 98]⟩, .slice (some ⟨w.heap.size, 0, none⟩) 3 3, .int .i64 1] (w.alloc (.cells #[.string ⟨#[97, 98, 99]⟩, .string ⟨#[98]⟩, .string ⟨#[120, 121, 122]⟩] 9)) fun e w' =>
      ∃ A c, e = .returned (.tuple #[.slice A 2 c, .int .i64 0]) ∧ Reads w' w'.heap.size A 2 1 [.int .i64 0, .int .i64 1] ∧ Below w.heap.size w w' := fun w => by
    refine (near_any ⟨#[97, 98]⟩ (some ⟨w.heap.size, 0, none⟩) 3 3 _ [⟨#[97, 98, 99]⟩, ⟨#[98]⟩, ⟨#[120, 121, 122]⟩] 1 _ (by decide) rfl (Reads.of_fresh w #[.string ⟨#[97, 98, 99]⟩, .string ⟨#[98]⟩, .string ⟨#[120, 121, 122]⟩] _ 3 1 rfl) (by simp)).mono ?_
    rintro e w' ⟨hb, ⟨_, A', c', he, hr⟩ | ⟨hno, _⟩⟩
    · rw [near_known] at he hr
      exact ⟨A', c', he, hr, ((Below.refl _ _).alloc (Nat.le_refl _) _).trans (hb.mono (by simp))⟩
    · exact absurd near_known_ok hno
  have C1 := Lib.hid c1
  clear c1 hll
  obtain ⟨mo, hmo, hmo0, hmo1⟩ : ∃ mo : Int, most0 % 100 = mo ∧ 0 ≤ mo ∧ mo < 100 := ⟨_, rfl, Int.emod_nonneg _ (by omega), Int.emod_lt_of_pos _ (by omega)⟩
  obtain ⟨mr, hmr, hmr0, hmr1⟩ : ∃ mr : Int, more0 % 100 = mr ∧ 0 ≤ mr ∧ mr < 100 := ⟨_, rfl, Int.emod_nonneg _ (by omega), Int.emod_lt_of_pos _ (by omega)⟩
  have w1 : ∀ w, Calls Try.prog 32 #[.int .i64 most0, .int .i64 100] w fun e w' => e = .returned (.int .i64 mo) ∧ w = w' := fun w => by
    have := within_any most0 100 (by omega) (by omega) w
    rwa [hmo] at this
  have w2 : ∀ w, Calls Try.prog 32 #[.int .i64 more0, .int .i64 100] w fun e w' => e = .returned (.int .i64 mr) ∧ w = w' := fun w => by
    have := within_any more0 100 (by omega) (by omega) w
    rwa [hmr] at this
  have W1 := Lib.hid w1
  have W2 := Lib.hid w2
  have hd := dist_any s t
  obtain ⟨hd0, hd1⟩ := dv_bd s t
  have hdz : de s t = 0 → s.size ≤ 200 ∧ t.size ≤ 200 := de_zero
  have hdn : de s t ≠ 0 → dv s t = 0 := dv_no
  have htri : de s t = 0 → ∀ u : ByteArray, u.size ≤ 200 → dv t u ≤ dv s u + dv s t := fun h u hu => by
    obtain ⟨g1, g2⟩ := de_zero h
    rw [dv_ok g2 hu, dv_ok g1 hu, dv_ok g1 g2]
    have := lev_tri t.data.toList s.data.toList u.data.toList
    rw [lev_comm t.data.toList s.data.toList] at this
    omega
  have Hd := Lib.hid hd
  have Hdz := Lib.hid hdz
  have Hdn := Lib.hid hdn
  have Htri := Lib.hid htri
  clear w1 w2 hmo hmr hd hdz hdn htri
  have hsum : ∀ x, mo ≤ x → ∀ k, k ∈ nearI s l mo len → k ∈ nearI s l x len := fun x hx k hk => by
    obtain ⟨j, h1, h2, h3⟩ := (mem_nearI _ _ _ _ _).1 hk
    exact (mem_nearI _ _ _ _ _).2 ⟨j, h1, h2, by omega⟩
  have Hsum := Lib.hid hsum
  clear hsum
  generalize dv s t = D at *
  generalize de s t = E at *
  go_enter Try.func12, Try.ntmps12
  go_wp2_with fail
  refine (C1.out _).mono ?_
  rintro e w1 ⟨A1, c1, rfl, hr1, hb1⟩
  go_wp2_with fail
  refine (equalInt_any A1 _ 2 2 c1 2 _ _ [0, 1] [0, 1] _ (by decide) (by decide) rfl rfl (hr1.alloc (Nat.le_refl _) _) (Reads.of_fresh w1 #[.int .i64 0, .int .i64 1] _ 2 1 rfl)).mono ?_
  rintro e w2 ⟨rfl, hb2⟩
  have hbw2 : Below w.heap.size w w2 := (hb1.alloc hb1.size _).trans (hb2.mono (by have := hb1.size; simp; omega))
  clear hb1 hb2 hr1
  have q0 : decide (([0, 1] : List Int) = [0, 1]) = true := by decide
  go_wp2_with fail
  refine (dists_any _).mono ?_
  rintro e w3 ⟨rfl, hb3⟩
  have hbw3 := chain hb3 hbw2
  clear hb3 hbw2
  go_wp2_with fail
  refine (Hd.out _).mono ?_
  rintro e w4 ⟨rfl, hb4⟩
  have hbw4 := chain hb4 hbw3
  clear hb4 hbw3
  go_wp2_with fail
  refine (W1.out _).mono ?_
  rintro e w5 ⟨rfl, rfl⟩
  go_wp2_with fail
  refine (W2.out _).mono ?_
  rintro e w5 ⟨rfl, rfl⟩
  have hrd4 := hrd.below hbw4
  go_wp2_with fail
  refine (near_any s A len cap w.heap.size l mo _ (by omega) Hll.out hrd4 hbw4.size).mono ?_
  rintro e w5 ⟨hb5, hres1⟩
  have hbw5 := chain hb5 hbw4
  have hrd5 := hrd.below hbw5
  rcases hres1 with ⟨hok, A5, c5, rfl, hr5⟩ | ⟨hno, E1, hE1, rfl⟩
  · go_wp2_with fail
    refine (near_any s A len cap w.heap.size l (mo + mr) _ (by omega) Hll.out hrd5 hbw5.size).mono ?_
    rintro e w6 ⟨hb6, hres2⟩
    have hbw6 := chain hb6 hbw5
    have hrd6 := hrd.below hbw6
    rcases hres2 with ⟨_, A6, c6, rfl, hr6⟩ | ⟨hno, _⟩
    case inr => exact absurd hok hno
    go_wp2_with fail
    refine (near_any t A len cap w.heap.size l (mo + D) _ (by omega) Hll.out hrd6 hbw6.size).mono ?_
    rintro e w7 ⟨hb7, hres3⟩
    have hbw7 := chain hb7 hbw6
    by_cases hE : E = 0
    · obtain ⟨hs, ht⟩ := Hdz.out hE
      have hok3 : NearOk t l := ⟨ht, hok.2.1, hok.2.2⟩
      rcases hres3 with ⟨_, A7, c7, rfl, hr7⟩ | ⟨hno, _⟩
      case inr => exact absurd hok3 hno
      have hr5' := (hr5.after hb6).after hb7
      have hr6' := hr6.after hb7
      have hl5 := nearI_length s l mo len
      have hl6 := nearI_length s l (mo + mr) len
      have hl7 := nearI_length t l (mo + D) len
      have hm1 := Hsum.out (mo + mr) (by omega)
      have hm2 : ∀ k, k ∈ nearI s l mo len → k ∈ nearI t l (mo + D) len := fun k hk => by
        obtain ⟨j, h1, h2, h3⟩ := (mem_nearI _ _ _ _ _).1 hk
        refine (mem_nearI _ _ _ _ _).2 ⟨j, h1, h2, ?_⟩
        have := Htri.out hE (l.getD j ByteArray.empty) (hok.2.2 _ (by rw [getD_some _ _ _ (by rw [Hll.out]; exact h1)]; exact List.getElem_mem _))
        omega
      have hlen200 : len ≤ 200 := by have := hok.2.1; rw [Hll.out] at this; exact this
      have Hm1 := Lib.hid hm1
      have Hm2 := Lib.hid hm2
      have HE := Lib.hid hE
      subst hE
      clear hm1 hm2 hok hok3 hr5 hr6 hb5 hb6 hb7 hrd5 hrd6 hrd4 hs ht
      generalize nearI s l mo len = L5 at *
      generalize nearI s l (mo + mr) len = L6 at *
      generalize nearI t l (mo + D) len = L7 at *
      go_wp2
      go_loop [22, 89] (fun _ iv => ∃ k : Nat, k ≤ L5.length ∧ iv = .int .i64 k) (fun _ iv => L5.length - (intOf iv).toNat)
      case atStart => exact ⟨0, Nat.zero_le _, rfl⟩
      case round =>
        obtain ⟨k, hk, rfl⟩ := hrel
        by_cases hlt : k < L5.length
        · obtain ⟨b, o, rfl, hbB, hc⟩ := hr5'.2 (by omega)
          have c0 := hc (k * 1 + 0) (by rw [flat_length cInt 1 cInt_len]; omega)
          rw [flat_getD cInt 1 cInt_len 0 L5 k _ (by omega) (by omega)] at c0
          simp only [cInt, List.getD_cons_zero, Nat.mul_one, Nat.add_zero] at c0
          have hmem : L5.getD k 0 ∈ L5 := by rw [getD_some _ _ _ hlt]; exact List.getElem_mem _
          have k1 := Hm1.out _ hmem
          have k2 := Hm2.out _ hmem
          generalize L5.getD k 0 = x at *
          have n1 : ∀ w, Reads w w7.heap.size A6 L6.length 1 (L6.flatMap cInt) → Calls Try.prog 33 #[.slice A6 L6.length c6, .int .i64 x] w fun e w' => e = .returned (.bool true) ∧ w = w' := fun w h => by
            have := containsInt_any x A6 L6.length c6 _ L6 w (by omega) rfl h
            rwa [hasB_iff.2 k1] at this
          have n2 : ∀ w, Reads w w7.heap.size A7 L7.length 1 (L7.flatMap cInt) → Calls Try.prog 33 #[.slice A7 L7.length c7, .int .i64 x] w fun e w' => e = .returned (.bool true) ∧ w = w' := fun w h => by
            have := containsInt_any x A7 L7.length c7 _ L7 w (by omega) rfl h
            rwa [hasB_iff.2 k2] at this
          have N1 := Lib.hid (n1 _ hr6')
          have N2 := Lib.hid (n2 _ hr7)
          clear n1 n2 k1 k2 hmem hc
          go_wp2_with fail
          refine N1.out.mono ?_
          rintro e w8 ⟨rfl, rfl⟩
          go_wp2_with fail
          refine N2.out.mono ?_
          rintro e w8 ⟨rfl, rfl⟩
          go_wp2
          go_round
          case rel => exact ⟨k + 1, by omega, by go_num⟩
          case measure => simp [intOf]; omega
        · go_wp2_with fail
          refine (good_fresh [0, 0] 2 2 rfl (by decide) _ _).mono ?_
          rintro e w9 ⟨rfl, hb9⟩
          go_wp2
          go_ret
          exact ⟨by simp, chain hb9 hbw7⟩
    · have q1 : (E != 0) = true := by simpa using hE
      have q1' : (E == 0) = false := by simpa using hE
      have hD := Hdn.out hE
      subst hD
      rcases hres3 with ⟨_, A7, c7, rfl, hr7⟩ | ⟨hno, E3, hE3, rfl⟩
      · go_wp2
        go_ret
        exact ⟨by simp, hbw7⟩
      · go_wp2
        go_ret
        exact ⟨by simp, hbw7⟩
  · have q1 : (E1 != 0) = true := by simpa using hE1
    go_wp2_with fail
    refine (near_any s A len cap w.heap.size l (mo + mr) _ (by omega) Hll.out hrd5 hbw5.size).mono ?_
    rintro e w6 ⟨hb6, hres2⟩
    have hbw6 := chain hb6 hbw5
    have hrd6 := hrd.below hbw6
    rcases hres2 with ⟨hok, _⟩ | ⟨_, E2, hE2, rfl⟩
    · exact absurd hok hno
    go_wp2_with fail
    refine (near_any t A len cap w.heap.size l (mo + D) _ (by omega) Hll.out hrd6 hbw6.size).mono ?_
    rintro e w7 ⟨hb7, hres3⟩
    have hbw7 := chain hb7 hbw6
    by_cases hE : E = 0
    · subst hE
      rcases hres3 with ⟨_, A7, c7, rfl, hr7⟩ | ⟨_, E3, hE3, rfl⟩
      · go_wp2
        go_ret
        exact ⟨by simp, hbw7⟩
      · go_wp2
        go_ret
        exact ⟨by simp, hbw7⟩
    · have q2 : (E != 0) = true := by simpa using hE
      have q2' : (E == 0) = false := by simpa using hE
      have hD := Hdn.out hE
      subst hD
      rcases hres3 with ⟨_, A7, c7, rfl, hr7⟩ | ⟨_, E3, hE3, rfl⟩
      · go_wp2
        go_ret
        exact ⟨by simp, hbw7⟩
      · go_wp2
        go_ret
        exact ⟨by simp, hbw7⟩

end Go.Proofs.Ytccbfhaoepomnaa
