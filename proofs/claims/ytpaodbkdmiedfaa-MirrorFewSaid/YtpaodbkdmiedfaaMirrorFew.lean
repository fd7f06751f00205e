/- MirrorFew's walk: no more unlike palindromes than bytes; a byte more brings at most one. -/
import Derived.Test.YtpaodbkdmiedfaaMirrorUnl
import Derived.Test.YtpaodbkdmiedfaaBack
import Derived.Test.YtpaodbkdmiedfaaGood
import Derived.OpenShut
namespace Go.Proofs.Ytpaodbkdmiedfaa
open Go.RowKit Go.Sort
set_option linter.unusedVariables false

def abF (k : Nat) : Nat := ([0, 1, 0, 3, 0, 1, 2, 1, 0] : List Nat).getD k 0
theorem abaa_pal : Many (Pal [97, 98, 97, 97]) 4 := by
  have h : ∀ y : List UInt8, y ∈ [[97], [98], [97, 98, 97], [97, 97]] ↔ Pal [97, 98, 97, 97] y := fun y => by
    have h2 := palA_mem (s := [97, 98, 97, 97]) (f := abF) (by decide) (y := y)
    rw [← h2]
    have e : palA [97, 98, 97, 97] abF (2 * ([97, 98, 97, 97] : List UInt8).length + 1) = [[97], [97, 98, 97], [98], [97], [97, 97], [97]] := by decide
    rw [e]
    simp only [List.mem_cons, List.not_mem_nil, or_false]
    constructor
    · rintro (h | h | h | h) <;> simp [h]
    · rintro (h | h | h | h | h | h) <;> simp [h]
  exact ⟨_, by decide, h, rfl⟩
theorem abaa_long {f : Nat → Nat} {a n : Nat} (hf : ∀ k, k < 2 * 4 + 1 → IsArm [97, 98, 97, 97] k (f k)) (hb : BestArm f (2 * 4 + 1) a n) : a = 0 ∧ n = 3 := by
  have hk : ∀ k, k < 9 → f k = abF k := fun k hk => isArm_unique (hf k hk) ((show ∀ k, k < 9 → IsArm [97, 98, 97, 97] k (abF k) by decide) k hk)
  have h3 := hb.most 3 (by omega)
  rw [hk 3 (by omega)] at h3
  have h3 : 3 ≤ n := h3
  rcases hb.at_ with ⟨h1, _⟩ | ⟨j, h1, h2, h4⟩
  · omega
  · rw [hk j h1] at h2
    have key : ∀ j, j < 9 → 3 ≤ abF j → j = 3 := by decide
    have hj := key j h1 (by rw [h2]; exact h3)
    subst hj
    have h2 : 3 = n := h2
    omega

set_option maxRecDepth 100000 in
set_option maxHeartbeats 2000000 in
theorem mirrors_any (w : World) : Calls Try.prog 34 #[] w fun e w' => e = .returned (.bool true) ∧ Below w.heap.size w w' := by
  have H1 := Lib.hid (unlike_ok ⟨#[97, 98, 97, 97]⟩ (by decide))
  have H2 := Lib.hid (longest_ok ⟨#[97, 98, 97, 97]⟩ (by decide))
  go_enter Try.func34, Try.ntmps34
  go_wp2_with fail
  refine (H1.out _).mono ?_
  rintro e w1 ⟨n, hn, rfl, hb1⟩
  obtain rfl := hn.eq abaa_pal
  clear hn
  go_wp2_with fail
  refine (H2.out _).mono ?_
  rintro e w2 ⟨f, a, n, hf, hb, rfl, hb2⟩
  obtain ⟨rfl, rfl⟩ := abaa_long hf hb
  have hb2 := chain hb2 hb1
  have e1 : (⟨#[97, 98, 97, 97]⟩ : ByteArray).extract 0 (0 + 3) = ⟨#[97, 98, 97]⟩ := by decide
  rw [e1]
  clear hf hb e1 hb1
  go_wp2_with fail
  refine (good_fresh [0, 0] 2 2 rfl (by decide) _ _).mono ?_
  rintro e w3 ⟨rfl, hb3⟩
  have hb3 := chain hb3 hb2
  go_wp2
  all_goals (go_ret; exact ⟨by first | rfl | simp, hb3⟩)

theorem snoc_listM (s : ByteArray) (b : UInt8) : (s ++ ⟨#[b]⟩ : ByteArray).data.toList = s.data.toList ++ [b] := by simp [ByteArray.data_append]
set_option maxRecDepth 100000 in
set_option maxHeartbeats 2000000 in
theorem mirrorFew_core (s0 : ByteArray) (b : UInt8) (hs0 : s0.size ≤ 140737488351232) (w : World) :
    Calls Try.prog 9 #[.string s0, .int .u8 (b.toNat : Int)] w fun e w' => e = .returned (.bool true) ∧ Below w.heap.size w w' := by
  have HC := Lib.hid (cut_any s0 199 (by decide) hs0)
  have hsz : (s0.extract 0 199).size ≤ 199 := by simp; omega
  generalize s0.extract 0 199 = s at *
  have H1 := Lib.hid (unlike_ok s (by omega))
  have H2 := Lib.hid (unlike_ok (s ++ ⟨#[b]⟩) (by rw [ByteArray.size_append]; show s.size + 1 ≤ 200; omega))
  have hca : ∀ w, (Op.stringOp .add s ⟨#[b]⟩).run Try.prog w = .ok (.string (s ++ ⟨#[b]⟩)) w := fun w => run_string_add_sum w _ _ (by show s.size + 1 ≤ _; omega)
  have hcv := fun w2 : World => run_string_of (P := Try.prog) (w2.alloc (Obj.cells #[.int .u8 (b.toNat : Int)] 5)) 47 9 5 ⟨w2.heap.size, 0, none⟩ 1 1 [b] rfl Try.underlying47 Try.underlying5 Try.underlying9 (fun j hj => by
    obtain rfl : j = 0 := by simpa using hj
    rw [add_zero, World.cell?_alloc_mark]; rfl)
  have G := Lib.hid (fun w => good_fresh [0, 0] 2 2 rfl (by decide) w 24)
  have hsn := snoc_listM s b
  generalize hSB : s ++ ⟨#[b]⟩ = sb at *
  have Hsn := Lib.hid hsn
  have Hsz := Lib.hid hsz
  clear hsn hSB
  go_enter Try.func9, Try.ntmps9
  go_wp2_with fail
  refine (mirrors_any _).mono ?_
  rintro e w1 ⟨rfl, hb1⟩
  go_wp2_with fail
  refine (HC.out _).mono ?_
  rintro e w2 ⟨rfl, rfl⟩
  go_wp2_with fail
  refine (H1.out _).mono ?_
  rintro e w3 ⟨n, hn, rfl, hb3⟩
  have hb3 := chain hb3 hb1
  have hcv3 := hcv w3
  have hb4 := hb3.alloc hb3.size (Obj.cells #[.int .u8 (b.toNat : Int)] 5)
  have hle := pal_few _ s.data.toList n rfl hn
  have hle : n ≤ s.size := hle
  have Hn := Lib.hid hn
  clear hn
  go_wp2_with fail
  refine (H2.out _).mono ?_
  rintro e w5 ⟨m, hm, rfl, hb5⟩
  have hb5 := chain hb5 hb4
  rw [Hsn.out] at hm
  obtain ⟨g1, g2⟩ := pal_snoc Hn.out hm
  have q1 : decide ((n : Int) ≤ (s.size : Int)) = true := decide_eq_true (by omega)
  have q1' : decide (n ≤ s.size) = true := decide_eq_true hle
  have q2 : decide ((n : Int) ≤ (m : Int)) = true := decide_eq_true (by omega)
  have q2' : decide (n ≤ m) = true := decide_eq_true g1
  have q3 : decide ((m : Int) ≤ (n : Int) + 1) = true := decide_eq_true (by omega)
  clear hm hcv hcv3 hca
  go_wp2_with fail
  refine (G.out _).mono ?_
  rintro e w6 ⟨rfl, hb6⟩
  have hb6 := chain hb6 hb5
  go_wp2
  all_goals (go_ret; exact ⟨by simp, hb6⟩)
theorem mirrorFew_walk (s0 : ByteArray) (x : Int) (hs0 : s0.size ≤ 140737488351232) (hx : (Lit.int .u8 x).wf = true) (w : World) :
    Calls Try.prog 9 #[.string s0, .int .u8 x] w fun e w' => e = .returned (.bool true) ∧ Below w.heap.size w w' := by
  obtain ⟨b, rfl⟩ : ∃ b : UInt8, x = (b.toNat : Int) := by
    obtain ⟨h1, h2⟩ := bounds_u8 hx
    exact ⟨UInt8.ofNat x.toNat, by rw [UInt8.toNat_ofNat']; omega⟩
  exact mirrorFew_core s0 b hs0 w
end Go.Proofs.Ytpaodbkdmiedfaa
