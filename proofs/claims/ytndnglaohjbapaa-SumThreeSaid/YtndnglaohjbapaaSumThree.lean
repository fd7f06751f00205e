/- SumThree's walk: the checksum of the bitwise sum of three texts of one length is the bitwise sum of their checksums. -/
import Derived.Test.YtndnglaohjbapaaSumWalk
import Derived.Test.YtndnglaohjbapaaSumLaw
import Derived.RegionTactic
import Derived.ChangeAlike
import Derived.Deep.RegionHeld3
namespace Go.Proofs.Ytndnglaohjbapaa
open Go.RowKit
set_option linter.unusedVariables false

set_option maxHeartbeats 400000 in
theorem sumThree_walk (a b c : ByteArray) (ha : a.size ≤ 140737488351232) (hb : b.size ≤ 140737488351232) (hc : c.size ≤ 140737488351232) (w : World) :
    Calls Try.prog 3 #[.string a, .string b, .string c] w fun e w' => e = .returned (.bool true) ∧ Below w.heap.size w w' := by
  have hcv := fun w s => run_bytes_of_string (P := Try.prog) w 9 23 5 s Try.underlying9 Try.underlying23 Try.underlying5
  obtain ⟨n, hn, hna, hnb, hnc⟩ : ∃ n : Nat, (∀ (ats : Array TypeId) (t : TypeId) (w : World), (Builtin.min_ ats t #[.int .i64 (a.size : Int), .int .i64 (b.size : Int), .int .i64 (c.size : Int)]).run Try.prog w = .ok (.int .i64 (n : Int)) w) ∧ n ≤ a.size ∧ n ≤ b.size ∧ n ≤ c.size :=
    ⟨min (min a.size b.size) c.size, fun ats t w => by rw [run_min_int3]; congr 2; omega, by omega, by omega, by omega⟩
  have hna' : (n : Int) ≤ a.size := by omega
  have hmn : min n a.size = n := by omega
  go_enter Try.func3, Try.ntmps3
  go_wp2_with fail
  refine (sums_any _).mono ?_
  rintro e w1 ⟨rfl, hb1⟩
  go_wp2
  generalize hW : World.drew _ = W
  have hsz : (a.extract 0 n).size = n := by simp [hmn]
  obtain ⟨hb2, hz2, hat⟩ := bytes_at _ _ (by rw [hsz]; exact grownCap_ge _ _ _ _) _ _ _ hW
  clear hW
  generalize grownCap _ _ _ _ = cap
  have hbW : Below w.heap.size w W := hb1.trans (hb2.mono hb1.size)
  have hg := hb1.size
  generalize w1.heap.size = g at *
  have hl0 : (a.extract 0 n).data.toList = a.data.toList.take n := by rw [Lib.extract_data]; simp
  rw [hl0] at hat
  clear hb1 hb2 hz2 hl0 hsz hmn
  go_loopw [9, 25] (fun _ i wr => ∃ (k : Nat) (l : List UInt8), k ≤ n ∧ i = .int .i64 k ∧ l.length = n ∧ BytesAt wr g l ∧ Below w.heap.size w wr ∧
      (∀ j, j < n → l.getD j 0 = if j < k then a.data.toList.getD j 0 ^^^ (b.data.toList.getD j 0 ^^^ c.data.toList.getD j 0) else a.data.toList.getD j 0))
    (fun _ i _ => n - (intOf i).toNat)
  case atStart => exact ⟨0, a.data.toList.take n, Nat.zero_le _, rfl, by simp; omega, hat, hbW, fun j hj => by simp [List.getD, hj]⟩
  case round =>
    obtain ⟨k, l, hk, rfl, hl, hat', hbr, hv⟩ := hrel
    by_cases hlt : k < n
    · obtain ⟨hck, hfk⟩ := hat'.2 k (by omega)
      have hkb : k < b.size := by omega
      have hkc : k < c.size := by omega
      have Hv := Lib.hid hv
      have Hl := Lib.hid hl
      clear hv hl
      go_wp2
      go_region
      go_wp2
      go_roundw
      case rel =>
        have e1 : bits .xor .u8 ((l[k]?.getD 0).toNat : Int) (bits .xor .u8 (b[k].toNat : Int) (c[k].toNat : Int)) = ((l.getD k 0 ^^^ (b[k] ^^^ c[k])).toNat : Int) := by
          rw [← List.getD_eq_getElem?_getD, u8_xor_nat _ _ (UInt8.toNat_lt _) (UInt8.toNat_lt _), u8_xor_nat _ _ (UInt8.toNat_lt _) (Nat.xor_lt_two_pow (n := 8) (UInt8.toNat_lt _) (UInt8.toNat_lt _)), UInt8.toNat_xor, UInt8.toNat_xor]
        rw [e1]
        refine ⟨k + 1, l.set k (l.getD k 0 ^^^ (b[k] ^^^ c[k])), by omega, by go_num, by rw [List.length_set]; exact Hl.out, (hat'.set k (by rw [Hl.out]; exact hlt) _).drew, (hbr.setCell hg _).drew, fun j hj => ?_⟩
        rw [xor3_step l k _ (by rw [Hl.out]; exact hlt) j]
        by_cases e : j = k
        · subst e
          rw [if_pos rfl, if_pos (by omega), Hv.out j hj, if_neg (by omega), getD_bytes b j hkb, getD_bytes c j hkc]
        · rw [if_neg e, Hv.out j hj]
          by_cases h2 : j < k
          · rw [if_pos h2, if_pos (by omega)]
          · rw [if_neg h2, if_neg (by omega)]
      case measure => simp [intOf]; omega
    · obtain rfl : k = n := by omega
      have el : l = xor3 (a.data.toList.take k) (b.data.toList.take k) (c.data.toList.take k) := by
        apply List.ext_getElem?
        intro j
        by_cases hj : j < k
        · rw [xor3_at _ _ _ k j hna hnb hnc hj]
          have := hv j hj
          rw [if_pos hj] at this
          rw [← this, List.getD_eq_getElem?_getD, List.getElem?_eq_getElem (by omega)]; rfl
        · rw [List.getElem?_eq_none (by omega), List.getElem?_eq_none]
          rw [xor3_length _ _ _ (by simp; omega) (by simp; omega)]; simp; omega
      have hsum := sumOf_three (a.data.toList.take k) (b.data.toList.take k) (c.data.toList.take k) (by simp; omega) (by simp; omega)
      rw [← el] at hsum
      have hsize : (ByteArray.mk l.toArray).size ≤ maxLen := by show l.length ≤ _; unfold maxLen; omega
      have hlb : ∀ w', BytesAt w' g l → (convert 23 9 (.slice (some ⟨g, 0, none⟩) k cap)).run Try.prog w' = .ok (.string ⟨l.toArray⟩) w' := fun w' h =>
        run_string_of w' _ _ 5 _ k cap l hl Try.underlying23 Try.underlying5 Try.underlying9 (fun j hj => by rw [add_zero, (h.2 j hj).1, List.getD_eq_getElem?_getD, List.getElem?_eq_getElem hj]; rfl)
      have hlt' := hat'.1
      have Hl := Lib.hid hl
      have Hs := Lib.hid hsum
      clear hl hsum el hv hn
      go_wp2
      have hS : ∀ w', Below wr.heap.size wr w' → ((convert 23 9 (.slice (some ⟨g, 0, none⟩) k cap)).run Try.prog w' = .ok (.string ⟨l.toArray⟩) w' ∧ Below wr.heap.size wr w') := fun w' h => ⟨hlb _ (hat'.below h hlt'), h⟩
      have HS := Lib.hid hS
      clear hS hlb
      go_region_held3 (fun w' => (convert 23 9 (.slice (some ⟨g, 0, none⟩) k cap)).run Try.prog w' = .ok (.string ⟨l.toArray⟩) w' ∧ Below wr.heap.size wr w') (first | exact HS.out _ (Below.refl _ _).drew | assumption | exact HS.out _ (chain_and (by assumption) (by assumption)))
        ((go_at_call 16; refine (sumOf_any _ _ (by first | assumption | (simp [maxLen]; omega))).mono ?_; rintro e w2 ⟨rfl, hb2⟩))
      go_wp2
      go_ret
      rename_i hH
      refine ⟨congrArg (fun b => Ending.returned (.bool b)) ?_, hbr.trans (hH.2.mono hbr.size)⟩
      rw [Hs.out, u32_xor_nat _ _ (sumOf_lt _) (sumOf_lt _), u32_xor_nat _ _ (Nat.xor_lt_two_pow (n := 32) (sumOf_lt _) (sumOf_lt _)) (sumOf_lt _)]
      exact beq_self_eq_true _

end Go.Proofs.Ytndnglaohjbapaa
