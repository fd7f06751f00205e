/- SuffixUnlike's walk: how the number of unlike texts in a word changes. -/
import Derived.Test.YtpaodbkdmiedfaaUnlikeWalk
import Derived.Test.YtpaodbkdmiedfaaBack
import Derived.Test.YtpaodbkdmiedfaaLaidRepeat
import Derived.Test.YtpaodbkdmiedfaaKeep
import Derived.OpenShut
namespace Go.Proofs.Ytpaodbkdmiedfaa
open Go.RowKit
set_option linter.unusedVariables false

theorem unl_known : unlN ⟨#[97, 97, 98]⟩ = 5 := by
  have h := (sOrd_is [97, 97, 98]).unique (o' := [0, 1, 2]) ⟨by decide, by unfold ltS; decide⟩
  show unl [97, 97, 98] (sOrd [97, 97, 98]) = 5
  rw [h]
  decide
theorem snoc_list (s : ByteArray) (b : UInt8) : (s ++ ⟨#[b]⟩ : ByteArray).data.toList = s.data.toList ++ [b] := by simp [ByteArray.data_append]
theorem unl_snoc (s : ByteArray) (b : UInt8) : unlN s ≤ unlN (s ++ ⟨#[b]⟩) ∧ unlN (s ++ ⟨#[b]⟩) ≤ unlN s + s.size + 1 := by
  have := unlN_many (s ++ ⟨#[b]⟩)
  rw [snoc_list] at this
  exact many_snoc (unlN_many s) this
theorem unl_ge (s : ByteArray) : s.size ≤ unlN s := many_ge (unlN_many s)
theorem unl_back (s : ByteArray) : unlN ⟨s.data.toList.reverse.toArray⟩ = unlN s := many_back (unlN_many s) (unlN_many ⟨s.data.toList.reverse.toArray⟩)
theorem unl_run (n : Nat) : unlN ⟨(List.replicate n (97 : UInt8)).toArray⟩ = n := many_run (unlN_many ⟨(List.replicate n (97 : UInt8)).toArray⟩)
theorem repeat_a (n : Nat) (hn : n ≤ 100) (w : World) : Calls Try.prog 33 #[.string ⟨#[97]⟩, .int .i64 (n : Int)] w fun e w' => e = .returned (.string ⟨(List.replicate n (97 : UInt8)).toArray⟩) ∧ RowKit.Below w.heap.size w w' := by
  have h := repeat_any ⟨#[97]⟩ n w (by omega) (by rw [show (⟨#[97]⟩ : ByteArray).size = 1 from rfl]; omega)
  have hx : (⟨#[97]⟩ : ByteArray).data.toList = List.replicate 1 97 := rfl
  rw [hx, Lib.repeatL_replicate, Nat.mul_one] at h
  exact h

set_option maxRecDepth 100000 in
set_option maxHeartbeats 4000000 in
theorem suffixUnlike_core (s0 : ByteArray) (b : UInt8) (hs0 : s0.size ≤ 140737488351232) (w : World) :
    Calls Try.prog 8 #[.string s0, .int .u8 (b.toNat : Int)] w fun e w' => e = .returned (.bool true) ∧ Below w.heap.size w w' := by
  have H0 := Lib.hid (suffixUnlike_ok ⟨#[97, 97, 98]⟩ (by decide))
  rw [unl_known] at H0
  have HC := Lib.hid (cut_any s0 100 (by decide) hs0)
  have hsz : (s0.extract 0 100).size ≤ 100 := by simp; omega
  generalize s0.extract 0 100 = s at *
  have HB := Lib.hid (back_any s (by omega))
  have HR := Lib.hid (repeat_a s.size hsz)
  have hls : s.data.toList.length = s.size := rfl
  have H1 := Lib.hid (suffixUnlike_ok s (by omega))
  have H2 := Lib.hid (suffixUnlike_ok (s ++ ⟨#[b]⟩) (by rw [ByteArray.size_append]; show s.size + 1 ≤ 200; omega))
  have H3 := Lib.hid (suffixUnlike_ok ⟨s.data.toList.reverse.toArray⟩ (by show s.data.toList.reverse.toArray.size ≤ 200; rw [List.size_toArray, List.length_reverse]; omega))
  have H4 := Lib.hid (suffixUnlike_ok ⟨(List.replicate s.size (97 : UInt8)).toArray⟩ (by show (List.replicate s.size (97 : UInt8)).toArray.size ≤ 200; rw [List.size_toArray, List.length_replicate]; omega))
  rw [unl_back] at H3
  rw [unl_run] at H4
  obtain ⟨g1, g2⟩ := unl_snoc s b
  have g3 := unl_ge s
  have hub : unlN s ≤ 20100 := by
    have := (sOrd_is s.data.toList).unl_eq.1
    have h1 : s.size * (s.size + 1) ≤ 100 * 101 := Nat.mul_le_mul hsz (by omega)
    rw [show s.data.toList.length = s.size from rfl] at this
    unfold unlN
    omega
  have hca : ∀ w, (Op.stringOp .add s ⟨#[b]⟩).run Try.prog w = .ok (.string (s ++ ⟨#[b]⟩)) w := fun w => run_string_add_sum w _ _ (by show s.size + 1 ≤ _; omega)
  have hcv := fun w2 : World => run_string_of (P := Try.prog) (w2.alloc (Obj.cells #[.int .u8 (b.toNat : Int)] 5)) 47 9 5 ⟨w2.heap.size, 0, none⟩ 1 1 [b] rfl Try.underlying47 Try.underlying5 Try.underlying9 (fun j hj => by
    obtain rfl : j = 0 := by simpa using hj
    rw [add_zero, World.cell?_alloc_mark]; rfl)
  have G := Lib.hid (fun w => good_fresh [0, 0, 0, 0] 4 4 rfl (by decide) w 24)
  clear hls
  generalize hSB : s ++ ⟨#[b]⟩ = sb at *
  generalize unlN s = n at *
  generalize unlN sb = m at *
  have f1 : (s.size : Int) ≤ n := by omega
  have f2 : (n : Int) < (m : Int) + 1 := by omega
  have f3 : (m : Int) ≤ (n : Int) + s.size + 1 := by omega
  have q1 : decide ((s.size : Int) ≤ n) = true := decide_eq_true f1
  have q1' : decide (s.size ≤ n) = true := decide_eq_true (by omega)
  have q2 : decide ((n : Int) < (m : Int) + 1) = true := decide_eq_true f2
  have q3 : decide ((m : Int) ≤ (n : Int) + s.size + 1) = true := decide_eq_true f3
  have q4 : ((n : Int) == (n : Int)) = true := by simp
  have q5 : ((s.size : Int) == (s.size : Int)) = true := by simp
  clear f1 f2 f3
  go_enter Try.func8, Try.ntmps8
  go_wp2_with fail
  refine (H0.out _).mono ?_
  rintro e w1 ⟨rfl, hb1⟩
  go_wp2_with fail
  refine (HC.out _).mono ?_
  rintro e w2 ⟨rfl, rfl⟩
  go_wp2_with fail
  refine (H1.out _).mono ?_
  rintro e w3 ⟨rfl, hb3⟩
  have hb3 := chain hb3 hb1
  have hcv3 := hcv w3
  have hb4 := hb3.alloc hb3.size (Obj.cells #[.int .u8 (b.toNat : Int)] 5)
  go_wp2_with fail
  refine (H2.out _).mono ?_
  rintro e w5 ⟨rfl, hb5⟩
  have hb5 := chain hb5 hb4
  clear hcv3 hcv hca
  go_wp2_with fail
  refine (HB.out _).mono ?_
  rintro e w6 ⟨rfl, hb6⟩
  have hb6 := chain hb6 hb5
  go_wp2_with fail
  refine (H3.out _).mono ?_
  rintro e w7 ⟨rfl, hb7⟩
  have hb7 := chain hb7 hb6
  go_wp2_with fail
  refine (HR.out _).mono ?_
  rintro e w8 ⟨rfl, hb8⟩
  have hb8 := chain hb8 hb7
  go_wp2_with fail
  refine (H4.out _).mono ?_
  rintro e w9 ⟨rfl, hb9⟩
  have hb9 := chain hb9 hb8
  go_wp2_with fail
  refine (G.out _).mono ?_
  rintro e wA ⟨rfl, hbA⟩
  have hbA := chain hbA hb9
  go_wp2
  all_goals (go_ret; exact ⟨by simp, hbA⟩)
theorem suffixUnlike_walk (s0 : ByteArray) (x : Int) (hs0 : s0.size ≤ 140737488351232) (hx : (Lit.int .u8 x).wf = true) (w : World) :
    Calls Try.prog 8 #[.string s0, .int .u8 x] w fun e w' => e = .returned (.bool true) ∧ Below w.heap.size w w' := by
  obtain ⟨b, rfl⟩ : ∃ b : UInt8, x = (b.toNat : Int) := by
    obtain ⟨h1, h2⟩ := bounds_u8 hx
    exact ⟨UInt8.ofNat x.toNat, by rw [UInt8.toNat_ofNat']; omega⟩
  exact suffixUnlike_core s0 b hs0 w
end Go.Proofs.Ytpaodbkdmiedfaa
