/- The walks of slices.Grow and slices.Concat at rows of strings. -/
import Derived.Test.YtkeeggklgdinhaaAppendAll
import Derived.Test.YtkeeggklgdinhaaPlain
import Derived.Lib.AppendZerosOnto
namespace Go.Proofs.Ytkeeggklgdinhaa
open Go.RowKit
set_option linter.unusedVariables false

theorem infoStrC : (Try.prog.info? 9).map (fun i => (i.zero, i.size, i.bytes)) = some (some (.string ⟨#[]⟩), 1, 16) := by kernel_rfl
theorem sizeStrC (w : World) : (sizeOf (Try.prog.elem 22)).run Try.prog w = .ok 1 w := by
  rw [show Try.prog.elem 22 = 9 from by kernel_rfl]
  exact Try.sizeOf9 w

theorem wpList_appendS_eq {P : Program} {w w' : World} {ops : Array Oper} {rest : List Oper} {o : Oper} {a : Act} {Q : Exit → Act → World → Prop} (hgd : o.guard = none) (s x : Operand) (t u : TypeId)
    (ho : o.op = .call { callee := .builtin .append, args := #[s, x], argTypes := #[t, u] }) (v1 v2 v : Value) (hs : a.eval s = v1) (hx : a.eval x = v2) (hr : (Builtin.append_ #[t, u] o.type #[v1, v2]).run P w = .ok v w')
    (h : wpList P ops Q rest (a.put o.dst v) w') : wpList P ops Q (o :: rest) a w := by
  refine wpList_plain hgd fun K hK => ?_
  unfold Oper.wp execOp
  simp only [ho, resolve, invoke, builtin, Sem.run_bind, Sem.run_pure, Result.andThen_ok, List.map_toArray, List.map_cons, List.map_nil, hs, hx, hr]
  exact hK _ _ h
set_option maxHeartbeats 1000000 in
theorem growS_nil (n : Nat) (hn : n ≤ 1000000000000) (w : World) :
    Calls Try.prog 27 #[.slice none 0 0, .int .i64 (n : Int)] w fun e w' => ∃ A c, e = .returned (.slice A 0 c) ∧ w'.ownsRow w.heap.size 9 1 (.slice A 0 c) 0 [] ∧ Below w.heap.size w w' := by
  rcases Nat.eq_zero_or_pos n with h0 | h0
  · subst h0
    go_enter Try.func27, Try.ntmps27
    go_wp2
    go_ret
    exact ⟨none, 0, rfl, ⟨rfl, .inl ⟨rfl, rfl⟩⟩, Below.refl _ _⟩
  obtain ⟨i0, hi, hz0, hz1, hz2⟩ := info_parts infoStrC
  have hG1 : n ≤ grownCap w n 0 9 := grownCap_ge _ _ _ _
  have hG2 : grownCap w n 0 9 ≤ maxLen := grownCap_le_maxLen _ _ _ _ (by unfold maxLen; omega)
  have hfit : Builtin.nextslicecap (0 + n) 0 * i0.bytes ≤ 281474976710656 := by rw [Nat.zero_add]; exact growslice_fits h0 (by rw [hz2]; omega)
  have hrz : ∀ ty, (Builtin.append_ #[22, 3] ty #[.slice none 0 0, .int .i64 (n : Int)]).run Try.prog w = .ok (.slice (some ⟨w.heap.size, 0, none⟩) n (grownCap w n 0 9)) (w.drew.alloc (.cells ((#[] : Array Value) ++ Builtin.zeroCells (Value.string ⟨#[]⟩).cells n ++ Builtin.zeroCells (Value.string ⟨#[]⟩).cells (grownCap w n 0 9 - n)) 9)) := fun ty => by
    have h := Lib.run_append_grow_zeros (P := Try.prog) w 22 3 ty 9 i0 (.string ⟨#[]⟩) .i64 .i64 Try.underlying22 Try.underlying3 hi hz0 none 0 0 [] (by rw [hz1]; exact run_firstCells_none w.drew 1 0 0 0) n h0 (by rw [hz1]; decide) (by omega) (by omega) (by rw [hz2]; omega) hfit
    rw [Nat.zero_add] at h
    exact h
  generalize hG : grownCap w n 0 9 = G at *
  have hcs : ((#[] : Array Value) ++ Builtin.zeroCells (Value.string ⟨#[]⟩).cells n ++ Builtin.zeroCells (Value.string ⟨#[]⟩).cells (G - n)).size = G := by
    simp only [Array.size_append, size_zeroCells]
    show 0 + n * 1 + (G - n) * 1 = G
    omega
  generalize ((#[] : Array Value) ++ Builtin.zeroCells (Value.string ⟨#[]⟩).cells n ++ Builtin.zeroCells (Value.string ⟨#[]⟩).cells (G - n)) = cs at *
  have hS1 : ∀ w', (Instr.slice 22 (.slice none 0 0) none (some (.int .i64 0)) none).run Try.prog w' = .ok (.slice none 0 0) w' := fun w' => by
    have := run_slice_h (P := Try.prog) w' 22 none 0 0 (by kernel_rfl) .i64 0 (by omega) (by omega)
    rw [this, sizeStrC]
    rfl
  have hS2 : ∀ w', (Instr.slice 22 (.slice (some ⟨w.heap.size, 0, none⟩) n G) none (some (.int .i64 0)) none).run Try.prog w' = .ok (.slice (some ⟨w.heap.size, 0, none⟩) 0 G) w' := fun w' => by
    have := run_slice_h (P := Try.prog) w' 22 (some ⟨w.heap.size, 0, none⟩) n G (by kernel_rfl) .i64 0 (by omega) (by omega)
    rw [this, sizeStrC]
    show Result.ok (sliced _ 0 0 G 1) w' = _
    rw [sliced, Nat.zero_mul, Nat.sub_zero, if_neg (by omega)]
    show Result.ok (Value.slice (some (Addr.add ⟨w.heap.size, 0, none⟩ 0)) 0 G) w' = _
    rw [add_zero]
  have hown : (w.drew.alloc (.cells cs 9)).ownsRow w.heap.size 9 1 (.slice (some ⟨w.heap.size, 0, none⟩) 0 G) 0 [] :=
    ⟨rfl, .inr ⟨w.heap.size, G, cs, rfl, Nat.le_refl _, heap_alloc_new w.drew _, Nat.zero_le _, hG2, by rw [hcs]; omega, by simp⟩⟩
  have Hown := Lib.hid hown
  have q1 : decide ((0 : Int) < (n : Int)) = true := decide_eq_true (by omega)
  have q1' : decide (0 < n) = true := decide_eq_true h0
  clear hown hcs hG hfit hi hz0 hz1 hz2 hG1 hG2
  go_enter Try.func27, Try.ntmps27
  have HR := Lib.hid hrz
  clear hrz
  go_wp2_with (first | (at_builtin; go_must (refine wpList_appendS_eq rfl (.tmp 20) (.tmp 21) 22 3 rfl _ _ _ rfl rfl (HR.out _) ?_)))
  go_ret
  exact ⟨_, G, rfl, Hown.out, (Below.refl _ _).drew.alloc (Nat.le_refl _) _⟩

theorem one_strs (l : List ByteArray) : ∀ u ∈ l.flatMap cStr, u.oneCell' = true := fun u hu => by
  obtain ⟨x, _, hx⟩ := List.mem_flatMap.1 hu
  simp only [cStr, List.mem_cons, List.not_mem_nil, or_false] at hx
  rw [hx]; rfl

set_option maxRecDepth 100000 in
set_option maxHeartbeats 4000000 in
theorem concatS_ok (gs c2 : Nat) (X Y : Option Addr) (n1 n2 cx cy B : Nat) (l1 l2 : List ByteArray) (hl1 : l1.length = n1) (hl2 : l2.length = n2) (hn1 : n1 ≤ 100000000) (hn2 : n2 ≤ 100000000) (w : World)
    (h1 : Reads w B X n1 1 (l1.flatMap cStr)) (h2 : Reads w B Y n2 1 (l2.flatMap cStr)) (c0 : w.cell? ⟨gs, 0, none⟩ = some (.slice X n1 cx)) (c1 : w.cell? ⟨gs, 1, none⟩ = some (.slice Y n2 cy)) (hgs : gs < w.heap.size) (hB : B ≤ w.heap.size) :
    Calls Try.prog 22 #[.slice (some ⟨gs, 0, none⟩) 2 c2] w fun e w' => ∃ A c, e = .returned (.slice A (n1 + n2) c) ∧ w'.ownsRow w.heap.size 9 1 (.slice A (n1 + n2) c) (n1 + n2) ((l1 ++ l2).flatMap cStr) ∧ Below w.heap.size w w' := by
  have hgr := growS_nil (n1 + n2) (by omega)
  have HG := Lib.hid hgr
  obtain ⟨BB, hBB⟩ : ∃ BB, BB = w.heap.size := ⟨_, rfl⟩
  rw [← hBB]
  have hBB2 : BB ≤ w.heap.size := by omega
  have hBBB : B ≤ BB := by omega
  have hgsB : gs < BB := by omega
  have HBB := Lib.hid hBB
  clear hgr hBB
  go_enter Try.func22, Try.ntmps22
  go_wp2
  go_loopw [3, 5, 11] (fun sv _ kv wr => wr = w ∧ ((kv = .int .i64 0 ∧ sv = .int .i64 0) ∨ (kv = .int .i64 1 ∧ sv = .int .i64 (n1 : Int)) ∨ (kv = .int .i64 2 ∧ sv = .int .i64 ((n1 : Int) + n2)))) (fun _ _ kv _ => 2 - (intOf kv).toNat)
  case atStart => exact ⟨rfl, .inl ⟨rfl, rfl⟩⟩
  case round =>
    obtain ⟨rfl, hrel⟩ := hrel
    rcases hrel with ⟨rfl, rfl⟩ | ⟨rfl, rfl⟩ | ⟨rfl, rfl⟩
    · have q1 : decide ((n1 : Int) < 0) = false := decide_eq_false (by omega)
      go_wp2
      go_roundw
      case rel => exact ⟨trivial, .inr (.inl ⟨by go_num, by go_num⟩)⟩
      case measure => simp only [intOf]; decide
    · have q1 : decide ((n1 : Int) + (n2 : Int) < 0) = false := decide_eq_false (by omega)
      go_wp2
      go_roundw
      case rel => exact ⟨trivial, .inr (.inr ⟨by go_num, by go_num⟩)⟩
      case measure => simp only [intOf]; decide
    · go_wp2_with fail
      have hcast : (n1 : Int) + (n2 : Int) = ((n1 + n2 : Nat) : Int) := by omega
      rw [hcast]
      refine (HG.out wr).mono ?_
      rintro e w3 ⟨A3, c3, rfl, hown3, hb3⟩
      rw [← HBB.out] at hown3 hb3
      have hgB3 : BB ≤ w3.heap.size := Nat.le_trans hBB2 (by have := hb3.size; have := HBB.out; omega)
      have hwr : BB = wr.heap.size := HBB.out
      have r1 := h1.below (hb3.mono hBBB)
      have r2 := h2.below (hb3.mono hBBB)
      have d0 : w3.cell? ⟨gs, 0, none⟩ = some (.slice X n1 cx) := (cell_heap (hb3.block gs hgsB) 0).trans c0
      have d1 : w3.cell? ⟨gs, 1, none⟩ = some (.slice Y n2 cy) := (cell_heap (hb3.block gs hgsB) 1).trans c1
      have Hl1 := Lib.hid hl1
      have Hl2 := Lib.hid hl2
      clear r1 r2 d0 d1 hl1 hl2 hcast HG HBB hwr hB hgs
      generalize hwo : wr = wo at *
      have Hwo := Lib.hid hwo
      clear hwo
      go_wp2
      go_loopw [6, 8, 27] (fun ov _ kv wq => ∃ (A : Option Addr) (c : Nat), Below BB wo wq ∧ BB ≤ wq.heap.size ∧ ((kv = .int .i64 0 ∧ ov = .slice A 0 c ∧ wq.ownsRow BB 9 1 (.slice A 0 c) 0 []) ∨ (kv = .int .i64 1 ∧ ov = .slice A n1 c ∧ wq.ownsRow BB 9 1 (.slice A n1 c) n1 (l1.flatMap cStr)) ∨
          (kv = .int .i64 2 ∧ ov = .slice A (n1 + n2) c ∧ wq.ownsRow BB 9 1 (.slice A (n1 + n2) c) (n1 + n2) ((l1 ++ l2).flatMap cStr)))) (fun _ _ kv _ => 2 - (intOf kv).toNat)
      case atStart => exact ⟨A3, c3, hb3, hgB3, .inl ⟨rfl, rfl, hown3⟩⟩
      case round =>
        clear hown3 hb3 hgB3
        obtain ⟨A, c, hbr, hBr, hrel⟩ := hrel
        have d0 : wr.cell? ⟨gs, 0, none⟩ = some (.slice X n1 cx) := (cell_heap (hbr.block gs hgsB) 0).trans c0
        have d1 : wr.cell? ⟨gs, 1, none⟩ = some (.slice Y n2 cy) := (cell_heap (hbr.block gs hgsB) 1).trans c1
        have r1 := h1.below (hbr.mono hBBB)
        have r2 := h2.below (hbr.mono hBBB)
        rcases hrel with ⟨rfl, rfl, hown⟩ | ⟨rfl, rfl, hown⟩ | ⟨rfl, rfl, hown⟩
        · go_wp2_with (first | (at_builtin; go_must (refine wpList_append_all rfl (.tmp 31) (.tmp 32) 22 rfl BB 9 infoStrC Try.underlying22 rfl (by decide) A 0 c _ rfl hown X n1 cx B _ rfl r1 (one_strs l1) (by unfold maxLen; omega) (by omega) hBr ?_); intro A4 c4 w4 hown4 hg4))
          have hb4 : Below BB wo w4 := hbr.grown hg4 hBr (fun g hg => (hown.lt g hg).1)
          rw [Nat.zero_add, List.nil_append] at hown4
          go_roundw
          case rel => exact ⟨A4, c4, hb4, Nat.le_trans hBr hg4.size, .inr (.inl ⟨by go_num, by simp, hown4⟩)⟩
          case measure => simp only [intOf]; decide
        · go_wp2_with (first | (at_builtin; go_must (refine wpList_append_all rfl (.tmp 31) (.tmp 32) 22 rfl BB 9 infoStrC Try.underlying22 rfl (by decide) A n1 c _ rfl hown Y n2 cy B _ rfl r2 (one_strs l2) (by unfold maxLen; omega) (by omega) hBr ?_); intro A4 c4 w4 hown4 hg4))
          have hb4 : Below BB wo w4 := hbr.grown hg4 hBr (fun g hg => (hown.lt g hg).1)
          rw [← List.flatMap_append] at hown4
          go_roundw
          case rel => exact ⟨A4, c4, hb4, Nat.le_trans hBr hg4.size, .inr (.inr ⟨by go_num, rfl, hown4⟩)⟩
          case measure => simp only [intOf]; decide
        · go_wp2
          go_ret
          exact ⟨A, c, rfl, hown, by rw [Hwo.out]; exact hbr⟩
end Go.Proofs.Ytkeeggklgdinhaa
