/- The self test 'ropes'. -/
import Derived.Test.YtkeeggklgdinhaaRopeJoin
import Derived.Test.YtkeeggklgdinhaaEqual
import Derived.Test.YtkeeggklgdinhaaGood
namespace Go.Proofs.Ytkeeggklgdinhaa
open Go.RowKit
set_option linter.unusedVariables false

theorem ropes_hello : ofE ⟨#[104, 101, 108, 108, 111]⟩ 2 = 0 ∧ ofL ⟨#[104, 101, 108, 108, 111]⟩ 2 = [⟨#[104, 101]⟩, ⟨#[108, 108]⟩, ⟨#[111]⟩] := by decide +kernel
theorem ropes_text : (⟨(txt [⟨#[104, 101]⟩, ⟨#[108, 108]⟩, ⟨#[111]⟩]).toArray⟩ : ByteArray) = ⟨#[104, 101, 108, 108, 111]⟩ := by decide +kernel

set_option maxHeartbeats 1000000 in
theorem ropes_any (w : World) : Calls Try.prog 4 #[] w fun e w' => e = .returned (.bool true) ∧ Below w.heap.size w w' := by
  have h1 := of_any ⟨#[104, 101, 108, 108, 111]⟩ (by decide) 2 (by omega) w
  rw [if_pos ropes_hello.1, ropes_hello.2, ropes_hello.1] at h1
  have H1 := Lib.hid h1
  clear h1
  go_enter Try.func4, Try.ntmps4
  go_wp2_with fail
  refine H1.out.mono ?_
  rintro e w1 ⟨A, n, c, rfl, hl, hnc, r, hb1⟩
  clear H1
  have hg := Blk.new w1 24 #[.slice A n c]
  have hb2 : Below w1.heap.size w1 (w1.alloc (Obj.cells #[.slice A n c] 24)) := (Below.refl _ _).alloc (Nat.le_refl _) _
  have hn3 : n = 3 := hl.symm
  subst hn3
  have ht := text_ok A 3 c w1.heap.size _ hl hnc (by intro p hp; simp at hp; rcases hp with rfl | rfl | rfl <;> decide) _ (r.below hb2) hb2.size (by decide)
  rw [ropes_text] at ht
  have Ht := Lib.hid ht
  have cg : (w1.alloc (Obj.cells #[.slice A 3 c] 24)).cell? ⟨w1.heap.size, 0, none⟩ = some (.slice A 3 c) := hg.cell 0
  clear ht
  go_wp2_with fail
  refine Ht.out.mono ?_
  rintro e w3 ⟨rfl, hb3⟩
  have hg3 := hg.after hb3
  have r3 := (r.below hb2).below (hb3.mono hb2.size)
  have hbw3 := chain hb3 (chain hb2 hb1)
  have hw1 : w1.heap.size ≤ w3.heap.size := Nat.le_trans hb2.size hb3.size
  clear Ht cg hg hb2 hb3 r hb1
  go_wp2_with fail
  refine (good_fresh [0, 0] 2 2 rfl (by decide) _ _).mono ?_
  rintro e w4 ⟨rfl, hb4⟩
  have c4 : w4.cell? ⟨w1.heap.size, 0, none⟩ = some (.slice A 3 c) := (hg3.after hb4).cell 0
  have r4 := (r3.more hw1).after hb4
  have hbw4 := chain hb4 hbw3
  clear hg3 r3 hb4 hbw3 hw1
  have hb5 : Below w4.heap.size w4 (w4.alloc (Obj.cells #[.string ⟨#[104, 101]⟩, .string ⟨#[108, 108]⟩, .string ⟨#[111]⟩] 9)) := (Below.refl _ _).alloc (Nat.le_refl _) _
  have heq := equalStr_any A (some ⟨w4.heap.size, 0, none⟩) 3 3 c 3 w4.heap.size (w4.heap.size + 1) [⟨#[104, 101]⟩, ⟨#[108, 108]⟩, ⟨#[111]⟩] [⟨#[104, 101]⟩, ⟨#[108, 108]⟩, ⟨#[111]⟩] (w4.alloc (Obj.cells #[.string ⟨#[104, 101]⟩, .string ⟨#[108, 108]⟩, .string ⟨#[111]⟩] 9)) (by decide) (by decide) rfl rfl (r4.below hb5) (Reads.of_fresh w4 #[.string ⟨#[104, 101]⟩, .string ⟨#[108, 108]⟩, .string ⟨#[111]⟩] 9 3 1 rfl)
  rw [decide_eq_true rfl] at heq
  have Heq := Lib.hid heq
  clear heq r4
  go_wp2_with fail
  refine Heq.out.mono ?_
  rintro e w6 ⟨rfl, hb6⟩
  go_wp2
  go_ret
  exact ⟨rfl, chain hb6 (chain hb5 hbw4)⟩
end Go.Proofs.Ytkeeggklgdinhaa
