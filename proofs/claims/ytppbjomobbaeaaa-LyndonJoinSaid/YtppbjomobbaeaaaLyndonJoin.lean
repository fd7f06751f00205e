/- LyndonJoin's walk: two Lyndon words in a row are one just where the first one is the lesser. -/
import Derived.Test.YtppbjomobbaeaaaLyndonLaws
namespace Go.Proofs.Ytppbjomobbaeaaa
open Go.RowKit
set_option linter.unusedVariables false

theorem lyn_join_iff {u v : List UInt8} (hu : Lyn u) (hv : Lyn v) : Lyn (u ++ v) ↔ llt u v = true := by
  refine ⟨fun h => ?_, lyn_join hu hv⟩
  exact llt_trans (llt_prefix u v hv.1) (h.2 u v rfl hu.1 hv.1)

set_option maxRecDepth 100000 in
set_option maxHeartbeats 2000000 in
theorem lyndonJoin_core (a b a0 b0 : ByteArray) (ha : a.size ≤ 100) (hb : b.size ≤ 100)
    (ca : ∀ w, Calls Try.prog 19 #[.string a0, .int .i64 100] w fun e w' => e = .returned (.string a) ∧ w = w')
    (cb : ∀ w, Calls Try.prog 19 #[.string b0, .int .i64 100] w fun e w' => e = .returned (.string b) ∧ w = w') (w : World) :
    Calls Try.prog 4 #[.string a0, .string b0] w fun e w' => e = .returned (.bool true) ∧ Below w.heap.size w w' := by
  have h1 := is_ok a (by omega)
  have h2 := is_ok b (by omega)
  have h3 : ∀ w, Calls Try.prog 16 #[.string (a ++ b)] w (ToldIs (a.data.toList ++ b.data.toList) w) := fun w => by
    have := is_ok (a ++ b) (by simp [ByteArray.size_append]; omega) w
    simpa using this
  have CA := Lib.hid ca
  have CB := Lib.hid cb
  have H1 := Lib.hid h1
  have H2 := Lib.hid h2
  have H3 := Lib.hid h3
  have z1 : a.size + b.size ≤ 9223372036854775807 := by omega
  have hab : Op.bytesLess a.toList b.toList = llt a.data.toList b.data.toList := by rw [bless_eq, ByteArray.toList_eq, ByteArray.toList_eq]
  have Hab := Lib.hid hab
  clear ca cb h1 h2 h3 hab
  go_enter Try.func4, Try.ntmps4
  go_wp2_with fail
  refine (lyndons_any _).mono ?_
  rintro e w1 ⟨rfl, hb1⟩
  go_wp2_with fail
  refine (CA.out _).mono ?_
  rintro e w2 ⟨rfl, rfl⟩
  go_wp2_with fail
  refine (CB.out _).mono ?_
  rintro e w2 ⟨rfl, rfl⟩
  go_wp2_with fail
  refine (H1.out _).mono ?_
  rintro e w2 ⟨x, hx, rfl, hb2⟩
  go_wp2_with fail
  refine (H2.out _).mono ?_
  rintro e w3 ⟨y, hy, rfl, hb3⟩
  have hbw := chain hb3 (chain hb2 hb1)
  have Hx := Lib.hid hx
  have Hy := Lib.hid hy
  clear hb1 hb2 hb3 hx hy
  have q0 : ([0, 0] : List Int).all (· == 0) = true := by decide
  go_wp2_with fail
  refine (good_fresh [0, 0] 2 2 rfl (by decide) _ _).mono ?_
  rintro e w4 ⟨rfl, hb4⟩
  have hbw4 := chain hb4 hbw
  clear hb4 hbw
  by_cases hxy : x = true ∧ y = true
  · obtain ⟨rfl, rfl⟩ := hxy
    go_wp2_with fail
    refine (H3.out _).mono ?_
    rintro e w5 ⟨z, hz, rfl, hb5⟩
    have hbw5 := chain hb5 hbw4
    have q1 : (z == Op.bytesLess a.toList b.toList) = true := by
      rw [Hab.out, beq_iff_eq, Bool.eq_iff_iff, hz]
      exact lyn_join_iff (Hx.out.1 (by trivial)) (Hy.out.1 (by trivial))
    clear hz hb5 hbw4 Hx Hy
    go_wp2
    go_ret
    exact ⟨rfl, hbw5⟩
  · have hxy' : x = false ∨ (x = true ∧ y = false) := by
      cases x
      · exact .inl rfl
      · cases y
        · exact .inr ⟨rfl, rfl⟩
        · exact absurd ⟨rfl, rfl⟩ hxy
    clear hxy Hx Hy
    rcases hxy' with rfl | ⟨rfl, rfl⟩ <;> (
      go_wp2_with fail
      refine (good_fresh [0, 0] 2 2 rfl (by decide) _ _).mono ?_
      rintro e w5 ⟨rfl, hb5⟩
      have hbw5 := chain hb5 hbw4
      go_wp2
      go_ret
      exact ⟨by simp, hbw5⟩)

theorem cut100_size (s : ByteArray) (n : Nat) : (s.extract 0 n).size ≤ n := by simp; omega
theorem lyndonJoin_walk (a b : ByteArray) (ha : a.size ≤ 140737488351232) (hb : b.size ≤ 140737488351232) (w : World) :
    Calls Try.prog 4 #[.string a, .string b] w fun e w' => e = .returned (.bool true) ∧ Below w.heap.size w w' :=
  lyndonJoin_core _ _ a b (cut100_size a 100) (cut100_size b 100) (cut_any a 100 (by decide) ha) (cut_any b 100 (by decide) hb) w

end Go.Proofs.Ytppbjomobbaeaaa
