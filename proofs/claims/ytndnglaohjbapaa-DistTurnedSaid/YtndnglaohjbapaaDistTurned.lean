/- DistTurned's walk: reversal preserves the distance; turning both texts by k changes it by at most 2k. -/
import Derived.Test.YtndnglaohjbapaaDist
import Derived.Test.YtndnglaohjbapaaBack
import Derived.Test.YtndnglaohjbapaaKeep
import Derived.Deep.RegionHeld3
import Derived.Lib.IndexBytes
namespace Go.Proofs.Ytndnglaohjbapaa
open Go.RowKit
set_option linter.unusedVariables false

theorem dv_back (a b : ByteArray) : dv ⟨a.data.toList.reverse.toArray⟩ ⟨b.data.toList.reverse.toArray⟩ = dv a b ∧ de ⟨a.data.toList.reverse.toArray⟩ ⟨b.data.toList.reverse.toArray⟩ = de a b := by
  have h1 : (ByteArray.mk a.data.toList.reverse.toArray).size = a.size := by show a.data.toList.reverse.length = a.size; rw [List.length_reverse]; rfl
  have h2 : (ByteArray.mk b.data.toList.reverse.toArray).size = b.size := by show b.data.toList.reverse.length = b.size; rw [List.length_reverse]; rfl
  unfold dv de
  rw [h1, h2]
  refine ⟨?_, rfl⟩
  have : lev (ByteArray.mk a.data.toList.reverse.toArray).data.toList (ByteArray.mk b.data.toList.reverse.toArray).data.toList = lev a.data.toList b.data.toList := lev_reverse _ _
  rw [this]

/-- a turned by k places. -/
def turnB (a : ByteArray) (k : Nat) : ByteArray := a.extract k a.size ++ a.extract 0 k
theorem turnB_list (a : ByteArray) (k : Nat) : (turnB a k).data.toList = a.data.toList.drop k ++ a.data.toList.take k := by
  unfold turnB
  have h : (a.extract k a.size ++ a.extract 0 k).data.toList = (a.extract k a.size).data.toList ++ (a.extract 0 k).data.toList := by simp
  rw [h, Lib.extract_to_end, Lib.extract_data]; simp
theorem turnB_size (a : ByteArray) (k : Nat) (h : k ≤ a.size) : (turnB a k).size = a.size := by
  have : (turnB a k).data.toList.length = a.size := by
    rw [turnB_list, List.length_append, List.length_drop, List.length_take]
    have : a.data.toList.length = a.size := rfl
    omega
  exact this
theorem dv_turn (a b : ByteArray) (k : Nat) (ha : k ≤ a.size) (hb : k ≤ b.size) : dv (turnB a k) (turnB b k) ≤ dv a b + 2 * k ∧ de (turnB a k) (turnB b k) = de a b := by
  unfold dv de
  rw [turnB_size a k ha, turnB_size b k hb, turnB_list, turnB_list]
  refine ⟨?_, rfl⟩
  have := lev_turn a.data.toList b.data.toList k ha hb
  by_cases h : a.size ≤ 200 ∧ b.size ≤ 200
  · rw [if_pos h, if_pos h]; omega
  · rw [if_neg h, if_neg h]; omega

set_option maxHeartbeats 400000 in
theorem distTurned_walk (a b : ByteArray) (k0 : Int) (ha : a.size ≤ 140737488351232) (hb : b.size ≤ 140737488351232) (hk : (Lit.int .i64 k0).wf = true) (w : World) :
    Calls Try.prog 7 #[.string a, .string b, .int .i64 k0] w fun e w' => e = .returned (.bool true) ∧ Below w.heap.size w w' := by
  have hback : ∀ w, Calls Try.prog 22 #[.string ⟨a.data.toList.reverse.toArray⟩, .string ⟨b.data.toList.reverse.toArray⟩] w fun e w' => e = .returned (.tuple #[.int .i64 (dv a b), .int .i64 (de a b)]) ∧ Below w.heap.size w w' := fun w => by
    have := dist_any ⟨a.data.toList.reverse.toArray⟩ ⟨b.data.toList.reverse.toArray⟩ w
    rwa [(dv_back a b).1, (dv_back a b).2] at this
  have Hback := Lib.hid hback
  clear hback
  obtain ⟨m, hm, hma, hmb⟩ : ∃ m : Nat, (∀ (ats : Array TypeId) (t : TypeId) (w : World), (Builtin.min_ ats t #[.int .i64 (a.size : Int), .int .i64 (b.size : Int)]).run Try.prog w = .ok (.int .i64 (m : Int)) w) ∧ m ≤ a.size ∧ m ≤ b.size :=
    ⟨min a.size b.size, fun ats t w => by rw [run_min_int2]; congr 2; omega, by omega, by omega⟩
  obtain ⟨k, hk, hkm⟩ : ∃ k : Nat, k0 % ((m : Int) + 1) = k ∧ k ≤ m := by
    have h1 := Int.emod_nonneg k0 (show ((m : Int) + 1) ≠ 0 by omega)
    have h2 := Int.emod_lt_of_pos k0 (show 0 < ((m : Int) + 1) by omega)
    exact ⟨(k0 % ((m : Int) + 1)).toNat, by omega, by omega⟩
  have hturn := dv_turn a b k (by omega) (by omega)
  have Hturn := Lib.hid hturn
  clear hturn
  have hdt : ∀ w, Calls Try.prog 22 #[.string (turnB a k), .string (turnB b k)] w fun e w' => e = .returned (.tuple #[.int .i64 (dv (turnB a k) (turnB b k)), .int .i64 (de a b)]) ∧ Below w.heap.size w w' := fun w => by
    have := dist_any (turnB a k) (turnB b k) w
    rwa [Hturn.out.2] at this
  have Hdt := Lib.hid hdt
  clear hdt
  have hx := dv_bd a b
  have hy := dv_bd (turnB a k) (turnB b k)
  have hw1 : ∀ w, Calls Try.prog 19 #[.int .i64 k0, .int .i64 ((m : Int) + 1)] w fun e w' => e = .returned (.int .i64 (k : Int)) ∧ w = w' := fun w => by
    have := within_any k0 ((m : Int) + 1) (by omega) (by omega) w
    rwa [hk] at this
  have Hw1 := Lib.hid hw1
  clear hw1 hk
  have hka : (k : Int) ≤ a.size := by omega
  have hkb : (k : Int) ≤ b.size := by omega
  go_enter Try.func7, Try.ntmps7
  go_wp2_with fail
  refine (dists_any _).mono ?_
  rintro e w1 ⟨rfl, hb1⟩
  go_wp2_with fail
  refine (dist_any a b _).mono ?_
  rintro e w2 ⟨rfl, hb2⟩
  go_wp2_with fail
  refine (back_any a (by omega) _).mono ?_
  rintro e w3 ⟨rfl, hb3⟩
  go_wp2_with fail
  refine (back_any b (by omega) _).mono ?_
  rintro e w4 ⟨rfl, hb4⟩
  go_wp2_with fail
  refine (Hback.out _).mono ?_
  rintro e w5 ⟨rfl, hb5⟩
  go_wp2_with fail
  refine (Hw1.out _).mono ?_
  rintro e w6 ⟨rfl, rfl⟩
  have hbw := chain hb5 (chain hb4 (chain hb3 (chain hb2 hb1)))
  clear hb1 hb2 hb3 hb4 hb5
  have hca : ∀ w, (Op.stringOp .add (a.extract k a.size) (a.extract 0 k)).run Try.prog w = .ok (.string (turnB a k)) w := fun w => run_string_add_sum w _ _ (by simp; omega)
  have hcb : ∀ w, (Op.stringOp .add (b.extract k b.size) (b.extract 0 k)).run Try.prog w = .ok (.string (turnB b k)) w := fun w => run_string_add_sum w _ _ (by simp; omega)
  go_wp2_with fail
  go_region_held3 (fun w' => Below w.heap.size w w') (first | exact hbw.drew | assumption | exact chain (by assumption) (by assumption))
    ((go_at_call 22; refine (Hdt.out _).mono ?_; rintro e w6 ⟨rfl, hb6⟩))
  have hfin : dv (turnB a k) (turnB b k) ≤ dv a b + 2 * k := Hturn.out.1
  generalize dv (turnB a k) (turnB b k) = y at *
  generalize dv a b = x at *
  generalize de a b = e1 at *
  obtain ⟨hx0, hx1⟩ := hx
  obtain ⟨hy0, hy1⟩ := hy
  have q1 : (x == x) = true := by simp
  have q2 : (e1 == e1) = true := by simp
  have q3 : decide (y ≤ x + 2 * (k : Int)) = true := by simpa using hfin
  go_wp2
  go_ret
  exact ⟨by simp, by assumption⟩

end Go.Proofs.Ytndnglaohjbapaa
