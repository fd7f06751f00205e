/- The walks of package sum: what Of, Bytes and Right compute, for every string. -/
import Derived.Test.YtigbnldmjafgmaaDoorRows
import Derived.Test.YtigbnldmjafgmaaDoorSum
import Derived.Test.YtigbnldmjafgmaaDoorLib
import Derived.Deep.RegionHeld3
import Derived.Deep.QuietTactic
import Derived.BigQuiet
import Derived.Lib.Strings
import Derived.Lib.IndexBytes
import Derived.WalkSmall
namespace Go.Proofs.YtigbnldmjafgmaaDoor
open Go.RowKit
set_option linter.unusedVariables false

set_option maxHeartbeats 400000 in
theorem sumOf_any (s : ByteArray) (w : World) (hs : s.size ≤ maxLen) :
    Calls Tryd.prog 70 #[.string s] w fun e w' => e = .returned (.int .u32 (sumOf s.data.toList : Nat)) ∧ Below w.heap.size w w' := by
  have hcv := fun w s => run_bytes_of_string (P := Tryd.prog) w 9 95 5 s Tryd.underlying9 Tryd.underlying95 Tryd.underlying5
  unfold maxLen at hs
  go_enter Tryd.func70, Tryd.ntmps70
  go_wp2
  generalize hW : World.drew _ = W
  obtain ⟨hb, hz, hc⟩ := bytes_world _ _ _ _ _ _ hW
  clear hW
  generalize grownCap _ _ _ _ = cap
  go_loop [3, 9] (fun x i => ∃ k : Nat, k ≤ s.size ∧ i = .int .i64 k ∧ x = .int .u32 ((s.data.toList.take k).foldl upd 4294967295 : Nat)) (fun _ i => s.size - (intOf i).toNat)
  case atStart => exact ⟨0, Nat.zero_le _, rfl, rfl⟩
  case round =>
    obtain ⟨k, hk, rfl, rfl⟩ := hrel
    have hXl := fold_lt (s.data.toList.take k) 4294967295 (by decide)
    generalize hX : (s.data.toList.take k).foldl upd 4294967295 = X at hXl
    have HX := Lib.hid hX
    clear hX
    by_cases hlt : k < s.size
    · have hck := hc k hlt
      go_wp2
      have hcl := byte_lt s[k]
      go_loop [3, 17] (fun x i => ∃ j : Nat, j ≤ 8 ∧ i = .int .i64 j ∧ x = .int .u32 (stn j (X ^^^ s[k].toNat) : Nat)) (fun _ i => 8 - (intOf i).toNat)
      case atStart => exact ⟨0, by omega, by go_num, by rw [xor_byte _ _ hXl hcl]; rfl⟩
      case round =>
        obtain ⟨j, hj, rfl, rfl⟩ := hrel
        by_cases hj8 : j < 8
        · go_wp2
          go_round
          case rel => exact ⟨j+1, by omega, by go_num, by rw [step_bits _ (stn_lt _ _ (Nat.xor_lt_two_pow (n := 32) hXl (by omega)))]; rfl⟩
          case measure => simp [intOf]; omega
        · obtain rfl : j = 8 := by omega
          go_wp2
          go_round
          case rel => exact ⟨k+1, by omega, by go_num, by rw [take_succ_bytes s k hlt, List.foldl_append, HX.out]; rfl⟩
          case measure => simp [intOf]; omega
    · go_wp2
      go_ret
      refine ⟨?_, hb⟩
      have : X = s.data.toList.foldl upd 4294967295 := by rw [← HX.out, List.take_of_length_le (by simpa using hlt)]
      rw [xor_max _ hXl, this]
      rfl

set_option maxRecDepth 100000 in
set_option maxHeartbeats 1000000 in
theorem sumBytes_any (x : Nat) (hx : x < 4294967296) (w : World) :
    Calls Tryd.prog 69 #[.int .u32 x] w fun e w' => e = .returned (.string ⟨(bytes4 x).toArray⟩) ∧ Below w.heap.size w w' := by
  go_enter Tryd.func69, Tryd.ntmps69
  go_wp2
  rw [run_string_of _ 95 9 5 _ 4 4 (bytes4 x) rfl Tryd.underlying95 Tryd.underlying5 Tryd.underlying9 ?hc]
  case hc =>
    intro j hj
    have hj : j < 4 := hj
    rw [add_zero, World.cell?_alloc_mark]
    match j, hj with
    | 0, _ => simp [bytes4]
    | 1, _ => simp [bytes4]
    | 2, _ => simp [bytes4]
    | 3, _ => simp [bytes4]; omega
  go_wp2
  go_ret
  exact ⟨rfl, (Below.refl _ _).alloc (Nat.le_refl _) _⟩


set_option maxHeartbeats 400000 in
theorem sumRight_any (s : ByteArray) (w : World) (hs : s.size ≤ maxLen) :
    Calls Tryd.prog 71 #[.string s] w fun e w' => e = .returned (.bool (rightOf s.data.toList)) ∧ Below w.heap.size w w' := by
  unfold maxLen at hs
  by_cases h4 : 4 ≤ s.size
  · obtain ⟨m, hm⟩ : ∃ m, s.size = m + 4 := ⟨s.size - 4, by omega⟩
    have h0 : decide ((0 : Int) ≤ (m : Int)) = true := by simp
    have hle : (m : Int) ≤ (m : Int) + 4 := by omega
    have hle' : m ≤ m + 4 := by omega
    go_enter Tryd.func71, Tryd.ntmps71
    go_wp2
    go_region_held3 (fun _ => True) (trivial) (first | (go_at_call 70; refine (sumOf_any _ _ (by simp [maxLen]; omega)).mono ?_; rintro e w1 ⟨rfl, hb1⟩) | (go_at_call 69; refine (sumBytes_any _ (sumOf_lt _) _).mono ?_; rintro e w2 ⟨rfl, hb2⟩))
    go_wp2
    go_ret
    have hb : Below w.heap.size w w2 := ((Below.refl _ _).drew.trans hb1).trans (hb2.mono hb1.size)
    refine ⟨congrArg (fun b => Ending.returned (.bool b)) ?_, hb⟩
    have e1 : (s.extract m (m + 4)).toList = s.data.toList.drop m := by
      rw [← hm, ByteArray.toList_eq, Lib.extract_to_end]
    have e2 : s.data.toList.length = m + 4 := hm
    show (bytes4 (sumOf (List.take m s.data.toList)) == (s.extract m (m + 4)).toList) = _
    unfold rightOf
    rw [e1, e2]
    simp
  · have h4' : decide ((4 : Int) ≤ (s.size : Int)) = false := by simp; omega
    go_enter Tryd.func71, Tryd.ntmps71
    go_wp2
    go_quiet (fail)
    go_wp2
    go_ret
    refine ⟨congrArg (fun b => Ending.returned (.bool b)) ?_, below_drewN (Below.refl _ _) _⟩
    have e2 : s.data.toList.length = s.size := rfl
    show false = _
    unfold rightOf
    rw [e2]
    simp [h4]

theorem sumOf_check : sumOf [49, 50, 51, 52, 53, 54, 55, 56, 57] = 3808858755 := by decide +kernel
theorem bytes4_one : bytes4 1 = [1, 0, 0, 0] := by decide +kernel


end Go.Proofs.YtigbnldmjafgmaaDoor
