/- EditPlaces' walk: surviving bytes are at their reported positions and keep their order. -/
import Derived.Test.YtppbjomobbaeaaaPlaceWalk
import Derived.Test.YtppbjomobbaeaaaEditLaws
import Derived.Test.YtppbjomobbaeaaaGood
namespace Go.Proofs.Ytppbjomobbaeaaa
open Go.RowKit
set_option linter.unusedVariables false

theorem places_known : checkE 5 [(0, 1, ⟨#[]⟩), (3, 0, ⟨#[120, 121]⟩)] = 0 ∧ plc 3 0 [(0, 1, ⟨#[]⟩), (3, 0, ⟨#[120, 121]⟩)] = (4, true) := by decide +kernel

set_option maxRecDepth 100000 in
set_option maxHeartbeats 4000000 in
theorem editPlaces_walk (s : ByteArray) (A : Option Addr) (len cap : Nat) (l : List Ed) (at0 oth0 : Int) (hs : s.size ≤ 140737488351232) (w : World) (hl : EditsIn w A len cap l) (hat : (Lit.int .i64 at0).wf = true) (hoth : (Lit.int .i64 oth0).wf = true) :
    Calls Try.prog 12 #[.string s, .slice A len cap, .int .i64 at0, .int .i64 oth0] w fun e w' => e = .returned (.bool true) ∧ Below w.heap.size w w' := by
  obtain ⟨hll, hrd, hlen, hok, hcap, hcapm, hnil⟩ := hl
  have c1 : ∀ w A c, Reads w w.heap.size A 2 3 [.int .i64 0, .int .i64 1, .string ⟨#[]⟩, .int .i64 3, .int .i64 0, .string ⟨#[120, 121]⟩] → Calls Try.prog 40 #[.int .i64 5, .slice A 2 c, .int .i64 3] w fun e w' => e = .returned (.tuple #[.int .i64 4, .bool true, .int .i64 0]) ∧ Below w.heap.size w w' := fun w A c h => by
    have := place_ok 5 A 2 c w.heap.size [(0, 1, ⟨#[]⟩), (3, 0, ⟨#[120, 121]⟩)] rfl places_known.1 3 (by decide) w h (Nat.le_refl _)
    rw [show ((3 : Nat) : Int) = 3 from rfl, places_known.2] at this
    exact this
  have C1 := Lib.hid c1
  have hwin : ∀ x : Int, ∃ k : Nat, k ≤ s.size ∧ ∀ w, Calls Try.prog 18 #[.int .i64 x, .int .i64 ((s.size : Int) + 1)] w fun e w' => e = .returned (.int .i64 (k : Int)) ∧ w = w' := fun x => by
    have h1 := Int.emod_nonneg x (show ((s.size : Int) + 1) ≠ 0 by omega)
    have h2 := Int.emod_lt_of_pos x (show 0 < ((s.size : Int) + 1) by omega)
    obtain ⟨k, hk⟩ : ∃ k : Nat, x % ((s.size : Int) + 1) = k := ⟨(x % ((s.size : Int) + 1)).toNat, by omega⟩
    refine ⟨k, by omega, fun w => ?_⟩
    have := within_any x ((s.size : Int) + 1) (by omega) (by omega) w
    rwa [hk] at this
  obtain ⟨p, hp, hwp⟩ := hwin at0
  obtain ⟨q, hq, hwq⟩ := hwin oth0
  obtain ⟨a, hmin, hap, haq⟩ : ∃ a : Nat, (∀ (ats : Array TypeId) (t : TypeId) (w : World), (Builtin.min_ ats t #[.int .i64 (p : Int), .int .i64 (q : Int)]).run Try.prog w = .ok (.int .i64 (a : Int)) w) ∧ a ≤ p ∧ a = min p q :=
    ⟨min p q, fun ats t w => by rw [run_min_int2]; congr 2; omega, by omega, rfl⟩
  obtain ⟨b, hmax, hbp, hbq⟩ : ∃ b : Nat, (∀ (ats : Array TypeId) (t : TypeId) (w : World), (Builtin.max_ ats t #[.int .i64 (p : Int), .int .i64 (q : Int)]).run Try.prog w = .ok (.int .i64 (b : Int)) w) ∧ p ≤ b ∧ b = max p q :=
    ⟨max p q, fun ats t w => by rw [run_max_int2]; congr 2; omega, by omega, rfl⟩
  have hab : a ≤ b := by omega
  have hbs : b ≤ s.size := by omega
  have Hwp := Lib.hid hwp
  have Hwq := Lib.hid hwq
  have Hll := Lib.hid hll
  have Hok := Lib.hid hok
  clear hcap hcapm hnil c1 hwin hwp hwq hap haq hbp hbq hll hok hp hq
  have hbd := buildEdit
  go_enter Try.func12, Try.ntmps12
  go_wp2_with fail
  refine (C1.out _ _ _ (Reads.made w #[.int .i64 0, .int .i64 1, .string ⟨#[]⟩, .int .i64 3, .int .i64 0, .string ⟨#[120, 121]⟩] _ 2 3 rfl)).mono ?_
  rintro e w0 ⟨rfl, hb0⟩
  have hbw0 : Below w.heap.size w w0 := ((Below.refl _ _).alloc (Nat.le_refl _) _).trans (hb0.mono (by simp))
  clear hb0
  go_wp2_with fail
  refine (edits_any _).mono ?_
  rintro e w1 ⟨rfl, hb1⟩
  have hbw1 := chain hb1 hbw0
  have hrd1 := hrd.below hbw1
  clear hb1 hbw0
  by_cases hE : checkE s.size l = 0
  case neg =>
    have q5 : (checkE s.size l != 0) = true := by simpa using hE
    go_wp2_with fail
    refine (apply_no s (by omega) A len cap w.heap.size l (by omega) Hll.out Hok.out (checkE s.size l) rfl hE w1 hrd1 hbw1.size).mono ?_
    rintro e w2 ⟨rfl, hb2⟩
    have hbw2 := chain hb2 hbw1
    have hrd2 := hrd.below hbw2
    go_wp2_with fail
    refine (Hwp.out _).mono ?_
    rintro e w3 ⟨rfl, rfl⟩
    go_wp2_with fail
    refine (Hwq.out _).mono ?_
    rintro e w3 ⟨rfl, rfl⟩
    go_wp2_with fail
    refine (place_no s.size (by omega) A len cap w.heap.size l (by omega) Hll.out Hok.out (checkE s.size l) rfl hE a w2 hrd2 hbw2.size).mono ?_
    rintro e w3 ⟨rfl, hb3⟩
    have hbw3 := chain hb3 hbw2
    have hrd3 := hrd.below hbw3
    go_wp2_with fail
    refine (place_no s.size (by omega) A len cap w.heap.size l (by omega) Hll.out Hok.out (checkE s.size l) rfl hE b w3 hrd3 hbw3.size).mono ?_
    rintro e w4 ⟨rfl, hb4⟩
    have hbw4 := chain hb4 hbw3
    generalize checkE s.size l = E at *
    clear hE
    have q6 : (E == E) = true := by simp
    go_wp2
    go_ret
    exact ⟨by simp, hbw4⟩
  obtain ⟨h0, h1, h2, h3, h4⟩ := checkE_ok hE
  have a1 := apply_ok s A len cap w.heap.size l Hll.out hE w1 hrd1 hbw1.size
  have pb := fun w' h hB => place_ok s.size A len cap w.heap.size l Hll.out hE b (by omega) w' h hB
  have pa := fun w' h hB => place_ok s.size A len cap w.heap.size l Hll.out hE a (by omega) w' h hB
  obtain ⟨x, gx, gx1, gx2⟩ := plc_spec (s := s.data.toList) (l := l) (f := true) (e := 0) (m := 0) (a := a) h3 (fun _ => rfl) (Nat.zero_le _) (by show a ≤ s.size; omega)
  obtain ⟨y, gy, gy1, _⟩ := plc_spec (s := s.data.toList) (l := l) (f := true) (e := 0) (m := 0) (a := b) h3 (fun _ => rfl) (Nat.zero_le _) (by show b ≤ s.size; omega)
  obtain ⟨m1, m2⟩ := plc_mono (s := s.data.toList) (l := l) (f := true) (e := 0) (m := 0) (a := a) (b := b) h3 (fun _ => rfl) (Nat.zero_le _) hab (by show b ≤ s.size; omega)
  have gx : (plc a 0 l).1 = (x : Int) := by rw [gx]; omega
  have gy : (plc b 0 l).1 = (y : Int) := by rw [gy]; omega
  rw [gx] at pa
  rw [gy] at pb
  rw [gx, gy] at m1 m2
  generalize (plc a 0 l).2 = ia at *
  generalize (plc b 0 l).2 = ib at *
  have ht : (ByteArray.mk (app s.data.toList 0 l).toArray).data.toList = app s.data.toList 0 l := rfl
  rw [← ht] at gx1 gx2 gy1
  generalize (ByteArray.mk (app s.data.toList 0 l).toArray) = t at *
  have gx1 : x ≤ t.size := gx1
  have gy1 : y ≤ t.size := gy1
  have gx3 : ia = true → (a = s.size → x = t.size) ∧ (a < s.size → x < t.size ∧ t.data.toList.getD x 0 = s.data.toList.getD a 0) := gx2
  have A1 := Lib.hid a1
  have PA := Lib.hid pa
  have PB := Lib.hid pb
  have GX := Lib.hid gx3
  have M2 := Lib.hid m2
  have hs200 : s.size ≤ 200 := by omega
  have m1 : x ≤ y := by omega
  clear a1 pa pb gx gy gx2 gx3 m2 ht h0 h1 h2 h3 h4 hE
  go_wp2_with fail
  refine (A1.out).mono ?_
  rintro e w2 ⟨rfl, hb2⟩
  have hbw2 := chain hb2 hbw1
  have hrd2 := hrd.below hbw2
  go_wp2_with fail
  refine (Hwp.out _).mono ?_
  rintro e w3 ⟨rfl, rfl⟩
  go_wp2_with fail
  refine (Hwq.out _).mono ?_
  rintro e w3 ⟨rfl, rfl⟩
  go_wp2_with fail
  refine (PA.out w2 hrd2 hbw2.size).mono ?_
  rintro e w3 ⟨rfl, hb3⟩
  have hbw3 := chain hb3 hbw2
  have hrd3 := hrd.below hbw3
  go_wp2_with fail
  refine (PB.out w3 hrd3 hbw3.size).mono ?_
  rintro e w4 ⟨rfl, hb4⟩
  have hbw4 := chain hb4 hbw3
  go_wp2_with fail
  refine (good_fresh [0, 0] 2 2 rfl (by decide) _ _).mono ?_
  rintro e w5 ⟨rfl, hb5⟩
  have q0 : ([0, 0] : List Int).all (· == 0) = true := by decide
  have hbw5 := chain hb5 hbw4
  clear hb2 hb3 hb4 hb5 hbw1 hbw2 hbw3 hbw4 hrd1 hrd2 hrd3 A1 PA PB Hwp Hwq C1 hrd hmin hmax hbd
  have r1 : decide ((x : Int) < 0) = false := decide_eq_false (by omega)
  have r2 : decide ((y : Int) < (x : Int)) = false := decide_eq_false (by omega)
  have r2n : decide (y < x) = false := decide_eq_false (by omega)
  have r3 : decide ((t.size : Int) < (y : Int)) = false := decide_eq_false (by omega)
  have r3n : decide (t.size < y) = false := decide_eq_false (by omega)
  cases ia with
  | false =>
    go_wp2
    go_quiet (fail)
    go_wp2
    go_ret
    exact ⟨by simp, below_drewN hbw5 _⟩
  | true =>
    obtain ⟨g1, g2⟩ := GX.out rfl
    have M3 := Lib.hid (M2.out rfl)
    clear GX M2
    have hcase : ib = false ∨ (ib = true ∧ a < b) ∨ (ib = true ∧ ¬ a < b) := by
      cases ib
      · exact .inl rfl
      · by_cases h : a < b
        · exact .inr (.inl ⟨rfl, h⟩)
        · exact .inr (.inr ⟨rfl, h⟩)
    rcases Nat.lt_or_ge a s.size with hlt | hge
    · obtain ⟨g3, g4⟩ := g2 hlt
      have g5 : t[x] = s[a] := by rw [← getD_bytes _ x g3, ← getD_bytes _ a hlt]; exact g4
      have s1 : ((t[x].toNat : Int) == (s[a].toNat : Int)) = true := by rw [g5]; simp
      have s2 : ((a : Int) == (s.size : Int)) = false := by rw [beq_eq_false_iff_ne]; omega
      have s3 : decide ((a : Int) < (s.size : Int)) = true := decide_eq_true (by omega)
      have s3n : decide (a < s.size) = true := decide_eq_true hlt
      have s4 : decide ((x : Int) < (t.size : Int)) = true := decide_eq_true (by omega)
      have s4n : decide (x < t.size) = true := decide_eq_true g3
      have g3' : (x : Int) < t.size := by omega
      have hlt' : (a : Int) < s.size := by omega
      clear g1 g2 g4 g5
      rcases hcase with rfl | ⟨rfl, hc⟩ | ⟨rfl, hc⟩
      · clear M3
        go_wp2
        go_quiet (fail)
        go_wp2
        go_ret
        exact ⟨by simp, below_drewN hbw5 _⟩
      · have u1 : decide ((a : Int) < (b : Int)) = true := decide_eq_true (by omega)
        have u1n : decide (a < b) = true := decide_eq_true hc
        have u2 : decide ((y : Int) ≤ (x : Int)) = false := decide_eq_false (by have := M3.out hc; omega)
        have u2n : decide (y ≤ x) = false := decide_eq_false (by have := M3.out hc; omega)
        clear M3
        go_wp2
        go_quiet (fail)
        go_wp2
        go_ret
        exact ⟨by simp, below_drewN hbw5 _⟩
      · have u1 : decide ((a : Int) < (b : Int)) = false := decide_eq_false (by omega)
        have u1n : decide (a < b) = false := decide_eq_false hc
        clear M3
        go_wp2
        go_quiet (fail)
        go_wp2
        go_ret
        exact ⟨by simp, below_drewN hbw5 _⟩
    · have ea : a = s.size := by omega
      have ex := g1 ea
      have s2 : ((a : Int) == (s.size : Int)) = true := by rw [ea]; simp
      have s5 : ((x : Int) == (t.size : Int)) = true := by rw [ex]; simp
      have Hea := Lib.hid ea
      have Hex := Lib.hid ex
      clear g1 g2 ea ex
      rcases hcase with rfl | ⟨rfl, hc⟩ | ⟨rfl, hc⟩
      · clear M3
        go_wp2
        go_quiet (fail)
        go_wp2
        go_ret
        exact ⟨by simp, below_drewN hbw5 _⟩
      · have u1 : decide ((a : Int) < (b : Int)) = true := decide_eq_true (by omega)
        have u1n : decide (a < b) = true := decide_eq_true hc
        have u2 : decide ((y : Int) ≤ (x : Int)) = false := decide_eq_false (by have := M3.out hc; omega)
        have u2n : decide (y ≤ x) = false := decide_eq_false (by have := M3.out hc; omega)
        clear M3
        go_wp2
        go_quiet (fail)
        go_wp2
        go_ret
        exact ⟨by simp, below_drewN hbw5 _⟩
      · have u1 : decide ((a : Int) < (b : Int)) = false := decide_eq_false (by omega)
        have u1n : decide (a < b) = false := decide_eq_false hc
        clear M3
        go_wp2
        go_quiet (fail)
        go_wp2
        go_ret
        exact ⟨by simp, below_drewN hbw5 _⟩

end Go.Proofs.Ytppbjomobbaeaaa
