/- DistJoins' walk: common prefixes and suffixes do not change the distance, and it is subadditive under concatenation. -/
import Derived.Test.YtndnglaohjbapaaDist
import Derived.Test.YtndnglaohjbapaaBack
import Derived.Test.YtndnglaohjbapaaGood
import Derived.Deep.RegionHeld3
namespace Go.Proofs.Ytndnglaohjbapaa
open Go.RowKit
set_option linter.unusedVariables false

theorem cut_size (s : ByteArray) (n : Nat) : (s.extract 0 n).size ≤ n := by simp; omega

set_option maxHeartbeats 1000000 in
theorem distJoins_core (a b c d a0 b0 c0 d0 : ByteArray) (ha : a.size ≤ 90) (hb : b.size ≤ 90) (hc : c.size ≤ 90) (hd : d.size ≤ 90)
    (ca : ∀ w, Calls Try.prog 31 #[.string a0, .int .i64 90] w fun e w' => e = .returned (.string a) ∧ w = w')
    (cb : ∀ w, Calls Try.prog 31 #[.string b0, .int .i64 90] w fun e w' => e = .returned (.string b) ∧ w = w')
    (cc : ∀ w, Calls Try.prog 31 #[.string c0, .int .i64 90] w fun e w' => e = .returned (.string c) ∧ w = w')
    (cd : ∀ w, Calls Try.prog 31 #[.string d0, .int .i64 90] w fun e w' => e = .returned (.string d) ∧ w = w') (w : World) :
    Calls Try.prog 11 #[.string a0, .string b0, .string c0, .string d0] w fun e w' => e = .returned (.bool true) ∧ Below w.heap.size w w' := by
  have hj : ∀ x y z u : ByteArray, x.size ≤ 90 → y.size ≤ 90 → z.size ≤ 90 → u.size ≤ 90 → ∀ w, Calls Try.prog 22 #[.string (x ++ z), .string (y ++ u)] w fun e w' =>
      e = .returned (.tuple #[.int .i64 (lev (x.data.toList ++ z.data.toList) (y.data.toList ++ u.data.toList) : Nat), .int .i64 0]) ∧ Below w.heap.size w w' := fun x y z u hx hy hz hu w => by
    have := dist_ok (x ++ z) (y ++ u) (by simp [ByteArray.size_append]; omega) (by simp [ByteArray.size_append]; omega) w
    simpa using this
  have h1 := hj a b c d ha hb hc hd
  have h2 := hj c c a b hc hc ha hb
  have h3 := hj a b c c ha hb hc hc
  rw [lev_front] at h2
  rw [lev_behind] at h3
  have hle := lev_append a.data.toList b.data.toList c.data.toList d.data.toList
  have b1 := lev_le_add a.data.toList b.data.toList
  have b2 := lev_le_add c.data.toList d.data.toList
  have s1 : a.data.toList.length = a.size := rfl
  have s2 : b.data.toList.length = b.size := rfl
  have s3 : c.data.toList.length = c.size := rfl
  have s4 : d.data.toList.length = d.size := rfl
  have h4 := dist_ok a b (by omega) (by omega)
  have h5 := dist_ok c d (by omega) (by omega)
  have H1 := Lib.hid h1
  have H2 := Lib.hid h2
  have H3 := Lib.hid h3
  have H4 := Lib.hid h4
  have H5 := Lib.hid h5
  have CA := Lib.hid ca
  have CB := Lib.hid cb
  have CC := Lib.hid cc
  have CD := Lib.hid cd
  have q1 : a.size + c.size ≤ 9223372036854775807 := by omega
  have q2 : b.size + d.size ≤ 9223372036854775807 := by omega
  have q3 : c.size + a.size ≤ 9223372036854775807 := by omega
  have q4 : c.size + b.size ≤ 9223372036854775807 := by omega
  have q5 : b.size + c.size ≤ 9223372036854775807 := by omega
  have hx0 : (0 : Int) ≤ (lev a.data.toList b.data.toList : Nat) := by omega
  have hx1 : ((lev a.data.toList b.data.toList : Nat) : Int) ≤ 400 := by omega
  have hy0 : (0 : Int) ≤ (lev c.data.toList d.data.toList : Nat) := by omega
  have hy1 : ((lev c.data.toList d.data.toList : Nat) : Int) ≤ 400 := by omega
  have q6 : decide (((lev (a.data.toList ++ c.data.toList) (b.data.toList ++ d.data.toList) : Nat) : Int) ≤ (lev a.data.toList b.data.toList : Nat) + (lev c.data.toList d.data.toList : Nat)) = true := by simp; omega
  clear h1 h2 h3 h4 h5 hj ca cb cc cd hle b1 b2 s1 s2 s3 s4
  generalize ((lev a.data.toList b.data.toList : Nat) : Int) = x at *
  generalize ((lev c.data.toList d.data.toList : Nat) : Int) = y at *
  generalize ((lev (a.data.toList ++ c.data.toList) (b.data.toList ++ d.data.toList) : Nat) : Int) = z at *
  go_enter Try.func11, Try.ntmps11
  go_wp2_with fail
  refine (dists_any _).mono ?_
  rintro e w1 ⟨rfl, hb1⟩
  go_wp2_with fail
  refine (CA.out _).mono ?_
  rintro e w2 ⟨rfl, rfl⟩
  go_wp2_with fail
  refine (CB.out _).mono ?_
  rintro e w2 ⟨rfl, rfl⟩
  go_wp2_with fail
  refine (CC.out _).mono ?_
  rintro e w2 ⟨rfl, rfl⟩
  go_wp2_with fail
  refine (CD.out _).mono ?_
  rintro e w2 ⟨rfl, rfl⟩
  go_wp2_with fail
  refine (H4.out _).mono ?_
  rintro e w2 ⟨rfl, hb2⟩
  go_wp2_with fail
  refine (H5.out _).mono ?_
  rintro e w3 ⟨rfl, hb3⟩
  go_wp2_with fail
  refine (H1.out _).mono ?_
  rintro e w4 ⟨rfl, hb4⟩
  go_wp2_with fail
  refine (H2.out _).mono ?_
  rintro e w5 ⟨rfl, hb5⟩
  go_wp2_with fail
  refine (H3.out _).mono ?_
  rintro e w6 ⟨rfl, hb6⟩
  have hbw := chain hb6 (chain hb5 (chain hb4 (chain hb3 (chain hb2 hb1))))
  clear hb1 hb2 hb3 hb4 hb5 hb6
  go_wp2_with fail
  refine (good_fresh [0, 0, 0, 0, 0] 5 5 rfl (by decide) _ _).mono ?_
  rintro e w7 ⟨rfl, hb7⟩
  have q7 : (x == x) = true := by simp
  go_wp2
  go_ret
  exact ⟨by simp, chain hb7 hbw⟩

theorem distJoins_walk (a b c d : ByteArray) (ha : a.size ≤ 140737488351232) (hb : b.size ≤ 140737488351232) (hc : c.size ≤ 140737488351232) (hd : d.size ≤ 140737488351232) (w : World) :
    Calls Try.prog 11 #[.string a, .string b, .string c, .string d] w fun e w' => e = .returned (.bool true) ∧ Below w.heap.size w w' :=
  distJoins_core _ _ _ _ a b c d (cut_size a 90) (cut_size b 90) (cut_size c 90) (cut_size d 90) (cut_any a 90 (by decide) ha) (cut_any b 90 (by decide) hb) (cut_any c 90 (by decide) hc) (cut_any d 90 (by decide) hd) w

end Go.Proofs.Ytndnglaohjbapaa
