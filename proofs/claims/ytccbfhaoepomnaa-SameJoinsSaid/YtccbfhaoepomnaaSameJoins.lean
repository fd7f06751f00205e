/- SameJoins' walk: the length is superadditive under concatenation and grows by at most one per byte. -/
import Derived.Test.YtccbfhaoepomnaaSameLaws
import Derived.OpenShut
namespace Go.Proofs.Ytccbfhaoepomnaa
open Go.RowKit Go.ChangeShapes Go.WideShapes
set_option linter.unusedVariables false

theorem cut90_size (s : ByteArray) (n : Nat) : (s.extract 0 n).size ≤ n := by simp; omega

set_option maxRecDepth 100000 in
set_option maxHeartbeats 2000000 in
theorem sameJoins_core (a b c d a0 b0 c0 d0 : ByteArray) (x : UInt8) (ha : a.size ≤ 90) (hb : b.size ≤ 90) (hc : c.size ≤ 90) (hd : d.size ≤ 90)
    (ca : ∀ w, Calls Try.prog 19 #[.string a0, .int .i64 90] w fun e w' => e = .returned (.string a) ∧ w = w')
    (cb : ∀ w, Calls Try.prog 19 #[.string b0, .int .i64 90] w fun e w' => e = .returned (.string b) ∧ w = w')
    (cc : ∀ w, Calls Try.prog 19 #[.string c0, .int .i64 90] w fun e w' => e = .returned (.string c) ∧ w = w')
    (cd : ∀ w, Calls Try.prog 19 #[.string d0, .int .i64 90] w fun e w' => e = .returned (.string d) ∧ w = w') (w : World) :
    Calls Try.prog 4 #[.string a0, .string b0, .string c0, .string d0, .int .u8 (x.toNat : Int)] w fun e w' => e = .returned (.bool true) ∧ Below w.heap.size w w' := by
  have hj : ∀ p q r u : ByteArray, p.size ≤ 90 → q.size ≤ 90 → r.size ≤ 90 → u.size ≤ 90 → ∀ w, Calls Try.prog 20 #[.string (p ++ r), .string (q ++ u)] w fun e w' =>
      e = .returned (.tuple #[.int .i64 (lcs (p.data.toList ++ r.data.toList) (q.data.toList ++ u.data.toList) : Nat), .int .i64 0]) ∧ Below w.heap.size w w' := fun p q r u hp hq hr hu w => by
    have := long_ok (p ++ r) (q ++ u) (by simp [ByteArray.size_append]; omega) (by simp [ByteArray.size_append]; omega) w
    simpa using this
  have hx1 : (ByteArray.mk #[x]).size = 1 := rfl
  have h1 := hj a b c d ha hb hc hd
  have h2 : ∀ w, Calls Try.prog 20 #[.string (a ++ ⟨#[x]⟩), .string b] w fun e w' => e = .returned (.tuple #[.int .i64 (lcs (a.data.toList ++ [x]) b.data.toList : Nat), .int .i64 0]) ∧ Below w.heap.size w w' := fun w => by
    have := long_ok (a ++ ⟨#[x]⟩) b (by simp [ByteArray.size_append]; omega) (by omega) w
    simpa using this
  have h3 := hj a b ⟨#[x]⟩ ⟨#[x]⟩ ha hb (by omega) (by omega)
  rw [show (ByteArray.mk #[x]).data.toList = [x] from rfl, lcs_snoc_both] at h3
  have h4 := long_ok a b (by omega) (by omega)
  have h5 := long_ok c d (by omega) (by omega)
  have l1 := lcs_append a.data.toList b.data.toList c.data.toList d.data.toList
  obtain ⟨l2, l3⟩ := lcs_snoc a.data.toList b.data.toList x
  have l4 := lcs_le_left a.data.toList b.data.toList
  have l5 := lcs_le_left c.data.toList d.data.toList
  rw [show a.data.toList.length = a.size from rfl] at l4
  rw [show c.data.toList.length = c.size from rfl] at l5
  generalize lcs a.data.toList b.data.toList = N at *
  generalize lcs c.data.toList d.data.toList = M at *
  generalize lcs (a.data.toList ++ c.data.toList) (b.data.toList ++ d.data.toList) = K at *
  generalize lcs (a.data.toList ++ [x]) b.data.toList = L at *
  have H1 := Lib.hid h1
  have H2 := Lib.hid h2
  have H3 := Lib.hid h3
  have H4 := Lib.hid h4
  have H5 := Lib.hid h5
  have CA := Lib.hid ca
  have CB := Lib.hid cb
  have CC := Lib.hid cc
  have CD := Lib.hid cd
  have q1 : decide ((N : Int) + (M : Int) ≤ (K : Int)) = true := decide_eq_true (by omega)
  have q2 : decide (N ≤ L) = true := decide_eq_true l2
  have q2' : decide ((N : Int) ≤ (L : Int)) = true := decide_eq_true (by omega)
  have q3 : decide ((L : Int) ≤ (N : Int) + 1) = true := decide_eq_true (by omega)
  have q4 : (((N + 1 : Nat) : Int) == (N : Int) + 1) = true := by rw [beq_iff_eq]; omega
  have z1 : a.size + c.size ≤ 9223372036854775807 := by omega
  have z2 : b.size + d.size ≤ 9223372036854775807 := by omega
  have z3 : a.size + 1 ≤ 9223372036854775807 := by omega
  have z4 : b.size + 1 ≤ 9223372036854775807 := by omega
  have hcv := fun w : World => one_byte (P := Try.prog) w 27 9 5 x Try.underlying27 Try.underlying5 Try.underlying9
  have hcv2 : ∀ (w : World) (o : Obj), (convert 27 9 (.slice (some ⟨w.heap.size + 1, 0, none⟩) 1 1)).run Try.prog ((w.alloc o).alloc (.cells #[.int .u8 (x.toNat : Int)] 5)) = .ok (.string ⟨#[x]⟩) ((w.alloc o).alloc (.cells #[.int .u8 (x.toNat : Int)] 5)) := fun w o => by
    have := hcv (w.alloc o)
    rw [show (w.alloc o).heap.size = w.heap.size + 1 from by simp] at this
    exact this
  clear h1 h2 h3 h4 h5 hj ca cb cc cd l1 l2 l3
  go_enter Try.func4, Try.ntmps4
  go_wp2_with fail
  refine (sames_any _).mono ?_
  rintro e w1 ⟨rfl, hb1⟩
  go_wp2_with fail
  refine (CA.out _).mono ?_
  rintro e w2 ⟨rfl, rfl⟩
  go_wp2_with fail
  refine (CB.out _).mono ?_
  rintro e w2 ⟨rfl, rfl⟩
  go_wp2_with fail
  refine (CC.out _).mono ?_
  rintro e w2 ⟨rfl, rfl⟩
  go_wp2_with fail
  refine (CD.out _).mono ?_
  rintro e w2 ⟨rfl, rfl⟩
  go_wp2_with fail
  refine (H4.out _).mono ?_
  rintro e w2 ⟨rfl, hb2⟩
  go_wp2_with fail
  refine (H5.out _).mono ?_
  rintro e w3 ⟨rfl, hb3⟩
  go_wp2_with fail
  refine (H1.out _).mono ?_
  rintro e w4 ⟨rfl, hb4⟩
  have hbw4 := chain hb4 (chain hb3 (chain hb2 hb1))
  clear hb1 hb2 hb3 hb4
  go_wp2_with fail
  refine (H2.out _).mono ?_
  rintro e w5 ⟨rfl, hb5⟩
  have hbw5 := (hbw4.alloc hbw4.size _).trans (hb5.mono (by have := hbw4.size; simp; omega))
  clear hb5 hbw4
  go_wp2_with fail
  refine (H3.out _).mono ?_
  rintro e w6 ⟨rfl, hb6⟩
  have hbw6 := ((hbw5.alloc hbw5.size _).alloc (by have := hbw5.size; simp; omega) _).trans (hb6.mono (by have := hbw5.size; simp; omega))
  clear hb6 hbw5
  go_wp2_with fail
  refine (good_fresh [0, 0, 0, 0, 0] 5 5 rfl (by decide) _ _).mono ?_
  rintro e w7 ⟨rfl, hb7⟩
  have q0 : ([0, 0, 0, 0, 0] : List Int).all (· == 0) = true := by decide
  have hbw7 := chain hb7 hbw6
  go_wp2
  go_ret
  exact ⟨by simp, hbw7⟩

theorem sameJoins_walk (a b c d : ByteArray) (x : Int) (ha : a.size ≤ 140737488351232) (hb : b.size ≤ 140737488351232) (hc : c.size ≤ 140737488351232) (hd : d.size ≤ 140737488351232) (hx : (Lit.int .u8 x).wf = true) (w : World) :
    Calls Try.prog 4 #[.string a, .string b, .string c, .string d, .int .u8 x] w fun e w' => e = .returned (.bool true) ∧ Below w.heap.size w w' := by
  obtain ⟨y, rfl⟩ : ∃ y : UInt8, x = (y.toNat : Int) := by
    obtain ⟨h1, h2⟩ := bounds_u8 hx
    exact ⟨UInt8.ofNat x.toNat, by rw [UInt8.toNat_ofNat']; omega⟩
  exact sameJoins_core _ _ _ _ a b c d y (cut90_size a 90) (cut90_size b 90) (cut90_size c 90) (cut90_size d 90) (cut_any a 90 (by decide) ha) (cut_any b 90 (by decide) hb) (cut_any c 90 (by decide) hc) (cut_any d 90 (by decide) hd) w

end Go.Proofs.Ytccbfhaoepomnaa
