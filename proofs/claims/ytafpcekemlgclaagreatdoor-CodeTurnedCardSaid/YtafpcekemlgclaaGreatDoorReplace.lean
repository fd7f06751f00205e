/- (*strings.Replacer).Replace, of a Replacer that has not been used yet. -/
import Derived.Test.YtafpcekemlgclaaGreatDoorReplRun
namespace Go.Proofs.YtafpcekemlgclaaGreatDoor
open Go.RowKit
set_option linter.unusedVariables false

set_option maxRecDepth 100000 in
set_option maxHeartbeats 1000000 in
theorem replaceFlip (gr g o c : Nat) (s : ByteArray) (hs : s.size ≤ 140737488355328) (w w0 : World) (h : ReplAt w gr g o c) (hb : Below w0.heap.size w0 w) (hgr : w0.heap.size ≤ gr) :
    Calls Tryz.prog 7 #[.pointer (some ⟨gr, 0, none⟩), .string s] w fun e w' => e = .returned (.string (flipS s)) ∧ Below w0.heap.size w0 w' := by
  have D := Lib.hid (replDo gr g o c (.int .u32 0) w h.blk h.c0 h.c1 h.c2 h.c3 h.lt h.ne)
  have hmf : ∀ (fn : Fn) (first cap : Array Value) (w : World), (Instr.makeFunc fn first cap).run Tryz.prog w = .ok (.func fn first cap) w := fun _ _ _ _ => rfl
  have hbs := hb.size
  clear h
  go_enter Tryz.func7, Tryz.ntmps7
  go_wp2_with fail
  refine D.out.mono ?_
  rintro e w1 ⟨rfl, hB1, hT1, hg1⟩
  have x3 := hB1.cell 3
  have hb1 := hb.grown hg1 hbs (fun k hk => by injection hk with hk; omega)
  have R := Lib.hid (replRun w.heap.size s hs w1 hT1)
  have hm : ∀ w2, (method 268 73 (.pointer (some ⟨w.heap.size, 0, none⟩)) "Replace").run Tryz.prog w2 = .ok (104, .pointer (some ⟨w.heap.size, 0, none⟩)) w2 := fun _ => by kernel_rfl
  clear D
  go_wp2_with fail
  refine R.out.mono ?_
  rintro e w2 ⟨rfl, hb2⟩
  go_wp2
  go_ret
  exact ⟨rfl, chain hb2 hb1⟩
end Go.Proofs.YtafpcekemlgclaaGreatDoor
