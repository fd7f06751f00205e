/- quillkeep.spoil, of strings: a row of one's own and its spare memory. -/
import Derived.Test.YtkeeggklgdinhaaOwnS
import Derived.BigQuiet
namespace Go.Proofs.Ytkeeggklgdinhaa
open Go.RowKit
set_option linter.unusedVariables false

theorem grown_setS {w wr : World} {g : Nat} (h : w.grownBy wr (some g)) (i : Nat) (u : Value) : w.grownBy (wr.setCell ⟨g, i, none⟩ u) (some g) :=
  ⟨h.os, h.tape, h.output, by rw [size_setCell]; exact h.size, fun k hk hne => (Below.heap_setCell wr _ u k (fun e => hne (by rw [e]))).trans (h.block k hk hne)⟩
theorem grown_reflS (w : World) (r : Option Nat) : w.grownBy w r := ⟨rfl, rfl, rfl, Nat.le_refl _, fun _ _ _ => rfl⟩

set_option maxHeartbeats 1000000 in
theorem spoilStr_any (K : Nat → Prop) (A : Option Addr) (n c : Nat) (l : List ByteArray) (b : ByteArray) (w : World) (h : OwnS w K A n c l) :
    Calls Try.prog 7 #[.slice A n c, .string b] w fun e w' => e = .returned (.tuple #[]) ∧ w.grownBy w' (Value.slice A n c).ownBlock := by
  rcases h.2 with ⟨rfl, rfl, rfl⟩ | ⟨g, o, cur, rfl, _, hG, hnc, hcm, hcs, _⟩
  · go_enter Try.func7, Try.ntmps7
    go_wp2
    go_loopw [4, 11] (fun _ iv wr => iv = .int .i64 0 ∧ w.grownBy wr none) (fun _ _ _ => 0)
    case atStart => exact ⟨rfl, grown_reflS w none⟩
    case round =>
      obtain ⟨rfl, hb⟩ := hrel
      go_wp2
      refine bodyPost_end (v := .tuple #[]) (by simp [results, Try.results7, go_sem]) rfl ⟨rfl, hb⟩
  · have hc : c ≤ 9223372036854775807 := by unfold maxLen at hcm; omega
    clear h
    go_enter Try.func7, Try.ntmps7
    go_wp2
    go_loopw [4, 11] (fun _ iv wr => ∃ (i : Nat) (cs : Array Value), i ≤ c ∧ iv = .int .i64 i ∧ cs.size = o + c ∧ Blk wr g 9 cs ∧ w.grownBy wr (some g)) (fun _ iv _ => c - (intOf iv).toNat)
    case atStart => exact ⟨0, cur, by omega, rfl, hcs, hG, grown_reflS w _⟩
    case round =>
      obtain ⟨i, cs, hi, rfl, hcs, hB, hbr⟩ := hrel
      by_cases hlt : i < c
      · have c0 : wr.cell? ⟨g, o + i, none⟩ = some (cs[o + i]'(by omega)) := by rw [hB.cell, Array.getElem?_eq_getElem]
        have f0 := hB.frozen (o + i)
        have ilt : (i : Int) < c := by omega
        have hB2 := hB.set_ (o + i) (.string b)
        have hg2 := grown_setS hbr (o + i) (.string b)
        have hs2 : (cs.setIfInBounds (o + i) (.string b)).size = o + c := by simpa using hcs
        have HS := Lib.hid hs2
        generalize h1 : cs[o + i]'(by omega) = v1 at c0
        clear h1 hs2 hcs
        go_wp2
        go_roundw
        case rel => exact ⟨i + 1, _, by omega, by go_num, HS.out, hB2, hg2⟩
        case measure => simp only [intOf]; omega
      · obtain rfl : i = c := by omega
        go_wp2
        refine bodyPost_end (v := .tuple #[]) (by simp [results, Try.results7, go_sem]) rfl ⟨rfl, hbr⟩
end Go.Proofs.Ytkeeggklgdinhaa
