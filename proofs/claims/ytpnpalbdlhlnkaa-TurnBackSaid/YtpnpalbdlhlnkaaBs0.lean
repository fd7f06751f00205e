/- Bytes in order: cmp.Less at bytes, and a row of bytes behind draws and swaps. -/
import Derived.Test.YtpnpalbdlhlnkaaLib
import Derived.Test.YtpnpalbdlhlnkaaProg
import Derived.Sort.Row
import Derived.Sort.WalkA
namespace Go.Proofs.Ytpnpalbdlhlnkaa
open Go.RowKit Go.Sort
set_option linter.unusedVariables false

abbrev c8 : UInt8 → Value := fun x => .int .u8 (x.toNat : Int)
def lt8 (x y : UInt8) : Bool := decide (x < y)
theorem lt8_int (x y : UInt8) : decide ((x.toNat : Int) < (y.toNat : Int)) = lt8 x y := by
  unfold lt8
  rw [decide_eq_decide, UInt8.lt_iff_toNat_lt]
  omega
theorem isNaN8 (x : UInt8) (w : World) : Calls Try.prog 44 #[c8 x] w fun e w' => e = .returned (.bool false) ∧ w' = w := by
  go_enter Try.func44, Try.ntmps44
  go_wp2
  go_ret
  exact ⟨by simp, rfl⟩
theorem less8 (x y : UInt8) (w : World) : Calls Try.prog 25 #[c8 x, c8 y] w fun e w' => e = .returned (.bool (lt8 x y)) ∧ w' = w := by
  have hq := lt8_int x y
  go_enter Try.func25, Try.ntmps25
  go_wp2_with (go_at_call 44; refine (isNaN8 _ _).mono ?_; rintro e w' ⟨rfl, rfl⟩)
  go_ret
  exact ⟨by simpa using hq, rfl⟩
/-- The row as a family of cells. -/
theorem fam8 {w wr : World} {blk off m : Nat} {d dj : Array UInt8} (hH : Holds c8 w blk off d) (hs : dj.size = d.size) (hw : wr = putRow c8 (Sort.ahead w m) blk off dj) :
    ∃ G : Nat → UInt8, (∀ t, G t = dj[t]!) ∧ (∀ t, t < d.size → wr.cell? ⟨blk, off + t, none⟩ = some (.int .u8 ((G t).toNat : Int))) ∧ ∀ t, t < d.size → wr.frozen? ⟨blk, off + t, none⟩ = false := by
  refine ⟨fun t => dj[t]!, fun _ => rfl, fun t ht => ?_, fun t ht => ?_⟩
  · rw [hw]; exact cell?_putRow c8 _ blk off d dj (holds_ahead _ _ _ _ _ _ hH) hs t (by omega)
  · rw [hw, frozen?_putRow]; exact ((holds_ahead _ _ m _ _ _ hH) t ht).2
/-- What a sort of the row comes to. -/
abbrev To8 (w : World) (blk off : Nat) (d' : Array UInt8) (w' : World) : Prop := ∃ n, w' = putRow c8 (Sort.ahead w n) blk off d'
theorem To8.then_ {w w1 w2 : World} {blk off : Nat} {d1 d2 : Array UInt8} (h : To8 w blk off d1 w1) (hs : d2.size = d1.size) (k : To8 w1 blk off d2 w2) : To8 w blk off d2 w2 := by
  obtain ⟨n, rfl⟩ := h
  obtain ⟨m, rfl⟩ := k
  exact ⟨_, putRow_ahead_putRow _ _ _ _ _ _ _ _ hs⟩
theorem To8.holds {w w1 : World} {blk off : Nat} {d d1 : Array UInt8} (hH : Holds c8 w blk off d) (hs : d1.size = d.size) (h : To8 w blk off d1 w1) : Holds c8 w1 blk off d1 := by
  obtain ⟨n, rfl⟩ := h
  exact holds_putRow c8 _ _ _ d d1 hH hs
end Go.Proofs.Ytpnpalbdlhlnkaa
