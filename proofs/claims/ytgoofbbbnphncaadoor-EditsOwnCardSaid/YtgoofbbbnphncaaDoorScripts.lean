/- The walk of the laws' helper scripts. -/
import Derived.Test.YtgoofbbbnphncaaDoorWriteWalk
import Derived.Test.YtgoofbbbnphncaaDoorReadWalk
import Derived.Test.YtgoofbbbnphncaaDoorSlice
namespace Go.Proofs.YtgoofbbbnphncaaDoor
open Go.RowKit
set_option linter.unusedVariables false

theorem scripts_known : writeL [(3, 2, ⟨#[97, 59]⟩), (9, 1, ⟨#[]⟩)] = [51, 32, 50, 32, 50, 58, 97, 59, 59, 57, 32, 49, 32, 48, 58, 59] := by decide +kernel
set_option maxHeartbeats 1000000 in
theorem scripts_any (w : World) (ht : Tab w) : Calls Tryd.prog 26 #[] w fun e w' => e = .returned (.bool true) ∧ Below w.heap.size w w' := by
  have hok : ([(3, 2, ⟨#[97, 59]⟩), (9, 1, ⟨#[]⟩)] : List Ed).length ≤ 20 ∧ OkLs [(3, 2, ⟨#[97, 59]⟩), (9, 1, ⟨#[]⟩)] := ⟨by decide, fun x hx => by
    rcases List.mem_cons.1 hx with rfl | hx
    · exact ⟨by decide, by decide, by decide⟩
    · rw [List.mem_singleton.1 hx]; exact ⟨by decide, by decide, by decide⟩⟩
  have hc := write_any (some ⟨w.heap.size, 0, none⟩) 2 2 (w.alloc (Obj.cells #[.int .i64 3, .int .i64 2, .string ⟨#[97, 59]⟩, .int .i64 9, .int .i64 1, .string ⟨#[]⟩] 42)).heap.size [(3, 2, ⟨#[97, 59]⟩), (9, 1, ⟨#[]⟩)] (by decide) rfl
    (fun x hx => by
      rcases List.mem_cons.1 hx with rfl | hx
      · decide
      · rw [List.mem_singleton.1 hx]; decide) _ (ht.after ((Below.refl _ _).alloc (Nat.le_refl _) (Obj.cells #[.int .i64 3, .int .i64 2, .string ⟨#[97, 59]⟩, .int .i64 9, .int .i64 1, .string ⟨#[]⟩] 42)))
    (Reads.made w #[.int .i64 3, .int .i64 2, .string ⟨#[97, 59]⟩, .int .i64 9, .int .i64 1, .string ⟨#[]⟩] 42 2 3 rfl) (Nat.le_refl _)
  have Hc := Lib.hid hc
  have Hok := Lib.hid hok
  have hbd := buildEdit
  clear hc hok
  go_enter Tryd.func26, Tryd.ntmps26
  go_wp2_with fail
  refine Hc.out.mono ?_
  rintro e w1 ⟨hb, h⟩
  have hbw : Below w.heap.size w w1 := ((Below.refl _ _).alloc (Nat.le_refl _) _).trans (hb.mono (by simp))
  rcases h with ⟨_, _, b, hbb, rfl⟩ | ⟨hno, _⟩
  · obtain rfl : b = ⟨#[51, 32, 50, 32, 50, 58, 97, 59, 59, 57, 32, 49, 32, 48, 58, 59]⟩ := ba_extS (hbb.trans scripts_known)
    clear hb hbb
    go_wp2
    go_ret
    exact ⟨rfl, hbw⟩
  · exact absurd Hok.out hno
end Go.Proofs.YtgoofbbbnphncaaDoor
