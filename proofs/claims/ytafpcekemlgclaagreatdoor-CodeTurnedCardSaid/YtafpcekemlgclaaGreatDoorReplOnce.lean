/- strings.Replacer: buildOnce under its Once (the slow road turned from the guide's worked example Lazy). -/
import Derived.Test.YtafpcekemlgclaaGreatDoorReplBuild
import Derived.Shelf.Abstract
namespace Go.Proofs.YtafpcekemlgclaaGreatDoor
open Go.RowKit
set_option linter.unusedVariables false

abbrev replT : TypeId := 49
theorem TabAt.keep {w w' : World} {g : Nat} {f : Nat → Nat} (h : TabAt w g f) (hb : w'.heap[g]? = w.heap[g]?) : TabAt w' g f := by
  obtain ⟨cs, h1, h2, h3⟩ := h
  exact ⟨cs, by unfold Blk; rw [hb]; exact h1, h2, h3⟩
theorem TabAt.lt {w : World} {g : Nat} {f : Nat → Nat} (h : TabAt w g f) : g < w.heap.size := by obtain ⟨cs, h1, _⟩ := h; exact h1.lt

set_option maxRecDepth 100000 in
set_option maxHeartbeats 1000000 in
theorem replBuildOnce (gr g o c : Nat) (d s q : Value) (w : World) (hB : Blk w gr 49 #[d, s, q, .nilIface, .slice (some ⟨g, o, none⟩) 4 c])
    (h0 : w.cell? ⟨g, o, none⟩ = some (.string ⟨#[48]⟩)) (h1 : w.cell? ⟨g, o + 1, none⟩ = some (.string ⟨#[49]⟩)) (h2 : w.cell? ⟨g, o + 2, none⟩ = some (.string ⟨#[49]⟩)) (h3 : w.cell? ⟨g, o + 3, none⟩ = some (.string ⟨#[48]⟩)) (hg : g < w.heap.size) :
    Calls Tryz.prog 13 #[.pointer (some ⟨gr, 0, none⟩)] w fun e w' => e = .returned (.tuple #[]) ∧ Blk w' gr 49 #[d, s, q, .iface 73 (.pointer (some ⟨w.heap.size, 0, none⟩)), .slice none 0 0] ∧ TabAt w' w.heap.size flipN ∧ w.grownBy w' (some gr) := by
  have B := Lib.hid (replBuild gr g o c d s q w hB h0 h1 h2 h3 hg)
  have hlt := hB.lt
  clear h0 h1 h2 h3
  go_enter Tryz.func13, Tryz.ntmps13
  go_wp2_with fail
  refine B.out.mono ?_
  rintro e w1 ⟨rfl, hT, hb⟩
  have hB1 := hB.after hb
  have f3 := hB1.frozen 3
  have f4 := hB1.frozen 4
  have x3 := hB1.cell 3
  have x4 := hB1.cell 4
  have hne : w.heap.size ≠ gr := by omega
  clear B
  go_wp2
  go_end0
  refine ⟨rfl, ?_, ?_, ?_⟩
  · exact (hB1.set_ 3 (.iface 73 (.pointer (some ⟨w.heap.size, 0, none⟩)))).set_ 4 (.slice none 0 0)
  · refine hT.keep ?_
    rw [Below.heap_setCell _ ⟨gr, 4, none⟩ _ _ hne, Below.heap_setCell _ ⟨gr, 3, none⟩ _ _ hne]
  · refine ⟨hb.os, hb.tape, hb.output, by rw [size_setCell, size_setCell]; exact hb.size, fun k hk hn => ?_⟩
    have hn' : k ≠ gr := fun e => hn (by rw [e])
    rw [Below.heap_setCell _ ⟨gr, 4, none⟩ _ _ hn', Below.heap_setCell _ ⟨gr, 3, none⟩ _ _ hn']
    exact hb.block k hk

theorem bool_load (a : Addr) (w : World) (h : w.cell? a = some (.int .u32 0)) : Calls Tryz.prog 20 #[.pointer (some a)] w fun e w' => e = .returned (.bool false) ∧ w = w' := by
  have hl := run_call_load (P := Tryz.prog) Tryz.func27 (by kernel_rfl) (by kernel_rfl) (by kernel_rfl) .u32 (by kernel_rfl) (w := w) (a := a) (x := 0) h
  go_enter Tryz.func20, Tryz.ntmps20
  go_wp2
  go_ret
  exact ⟨rfl, rfl⟩

set_option maxRecDepth 100000 in
set_option maxHeartbeats 4000000 in
theorem replSlow (gr g o c : Nat) (q : Value) (w : World) (hB : Blk w gr 49 #[.int .u32 0, .int .i32 0, q, .nilIface, .slice (some ⟨g, o, none⟩) 4 c])
    (h0 : w.cell? ⟨g, o, none⟩ = some (.string ⟨#[48]⟩)) (h1 : w.cell? ⟨g, o + 1, none⟩ = some (.string ⟨#[49]⟩)) (h2 : w.cell? ⟨g, o + 2, none⟩ = some (.string ⟨#[49]⟩)) (h3 : w.cell? ⟨g, o + 3, none⟩ = some (.string ⟨#[48]⟩)) (hg : g < w.heap.size) (hgr : g ≠ gr) :
    Calls Tryz.prog 21 #[.pointer (some ⟨gr, 0, none⟩), .func (.func 13) #[.pointer (some ⟨gr, 0, none⟩)] #[]] w fun e w' => e = .returned (.tuple #[]) ∧
      Blk w' gr 49 #[.int .u32 1, .int .i32 0, q, .iface 73 (.pointer (some ⟨w.heap.size, 0, none⟩)), .slice none 0 0] ∧ TabAt w' w.heap.size flipN ∧ w.grownBy w' (some gr) := by
  have hlt := hB.lt
  have hBl : Blk (w.setCell ⟨gr, 1, none⟩ (.int .i32 1)) gr 49 #[.int .u32 0, .int .i32 1, q, .nilIface, .slice (some ⟨g, o, none⟩) 4 c] := hB.set_ 1 (.int .i32 1)
  have BL := Lib.hid (bool_load ⟨gr, 0, none⟩ (w.setCell ⟨gr, 1, none⟩ (.int .i32 1)) (hBl.cell 0))
  have hsz : (w.setCell ⟨gr, 1, none⟩ (.int .i32 1)).heap.size = w.heap.size := by rw [size_setCell]
  have far : ∀ j, (w.setCell ⟨gr, 1, none⟩ (.int .i32 1)).cell? ⟨g, j, none⟩ = w.cell? ⟨g, j, none⟩ := fun j => World.cell?_setCell_other w ⟨gr, 1, none⟩ ⟨g, j, none⟩ _ (fun h => hgr (by injection h with h _ _; exact h.symm))
  have BO := replBuildOnce gr g o c _ _ q (w.setCell ⟨gr, 1, none⟩ (.int .i32 1)) hBl (by rw [far]; exact h0) (by rw [far]; exact h1) (by rw [far]; exact h2) (by rw [far]; exact h3) (by rw [hsz]; exact hg)
  rw [hsz] at BO
  have BO := Lib.hid BO
  have c1 := hB.cell 1
  have z1 := hB.frozen 1
  have LF := Lib.hid (lock_free ⟨gr, 1, none⟩ w c1 z1)
  have hnot : ∀ (x : Bool) (w : World), (Op.unary .not (.bool x)).run Tryz.prog w = .ok (.bool (!x)) w := fun _ _ => rfl
  have hen := enters_of Tryz.func13 (by kernel_rfl) rfl
  have Hfar := Lib.hid (fun k (hk : k ≠ gr) => Below.heap_setCell w ⟨gr, 1, none⟩ (.int .i32 1) k hk)
  clear h0 h1 h2 h3 hg far c1 z1 hBl
  go_enter_defers Tryz.func21, Tryz.ntmps21
  go_wp2_with (first | (go_at_call 28; refine LF.out.mono ?_; rintro e w' ⟨rfl, rfl⟩) | (go_at_call 20; refine BL.out.mono ?_; rintro e w' ⟨rfl, rfl⟩) | (go_at_call 13; refine BO.out.mono ?_; rintro e w2 ⟨rfl, hB2, hT2, hg2⟩))
  have hw2 : w.heap.size ≤ w2.heap.size := by have := hg2.size; rw [hsz] at this; exact this
  have hBd : Blk w2.drew gr 49 #[.int .u32 0, .int .i32 1, q, .iface 73 (.pointer (some ⟨w.heap.size, 0, none⟩)), .slice none 0 0] := hB2
  have hB3 := hBd.set_ 0 (.int .u32 1)
  have SD := store_deferred ⟨gr, 0, none⟩ (.int .u32 0) .returning w2 (hB2.cell 0) (hB2.frozen 0)
  have UD := fun u => unlock_deferred ⟨gr, 1, none⟩ u (w2.drew.setCell ⟨gr, 0, none⟩ (.int .u32 1)) (hB3.cell 1) (hB3.frozen 1)
  refine leaves_cons (f := 30) (args := #[.pointer (some ⟨gr, 0, none⟩), .bool true]) (by simp) (by simp [go_sem]) ?_
  refine SD.mono ?_
  rintro e u' w'' ⟨rfl, rfl, rfl⟩
  refine leaves_cons (f := 29) (args := #[.pointer (some ⟨gr, 1, none⟩)]) (by simp [settle]) (by simp [go_sem]) ?_
  refine (UD _).mono ?_
  rintro e u' w'' ⟨rfl, rfl, rfl⟩
  have hne : w.heap.size ≠ gr := by omega
  have hfin : Blk ((w2.drew.setCell ⟨gr, 0, none⟩ (.int .u32 1)).setCell ⟨gr, 1, none⟩ (.int .i32 0)) gr 49 #[.int .u32 1, .int .i32 0, q, .iface 73 (.pointer (some ⟨w.heap.size, 0, none⟩)), .slice none 0 0] := hB3.set_ 1 (.int .i32 0)
  have hTf : TabAt ((w2.drew.setCell ⟨gr, 0, none⟩ (.int .u32 1)).setCell ⟨gr, 1, none⟩ (.int .i32 0)) w.heap.size flipN := hT2.keep (by
    rw [Below.heap_setCell _ ⟨gr, 1, none⟩ _ _ hne, Below.heap_setCell _ ⟨gr, 0, none⟩ _ _ hne]; rfl)
  have hGf : w.grownBy ((w2.drew.setCell ⟨gr, 0, none⟩ (.int .u32 1)).setCell ⟨gr, 1, none⟩ (.int .i32 0)) (some gr) := by
    refine ⟨hg2.os, hg2.tape, hg2.output, by rw [size_setCell, size_setCell]; exact hw2, fun k hk hn => ?_⟩
    have hn' : k ≠ gr := fun e => hn (by rw [e])
    rw [Below.heap_setCell _ ⟨gr, 1, none⟩ _ _ hn', Below.heap_setCell _ ⟨gr, 0, none⟩ _ _ hn']
    exact (hg2.block k (by rw [hsz]; exact hk) hn).trans (Hfar.out k hn')
  simp only [Leaves, settle, results, Tryz.results21]
  refine ⟨.tuple #[], by simp, rfl, hfin, hTf, hGf⟩

set_option maxRecDepth 100000 in
set_option maxHeartbeats 1000000 in
theorem replDo (gr g o c : Nat) (q : Value) (w : World) (hB : Blk w gr 49 #[.int .u32 0, .int .i32 0, q, .nilIface, .slice (some ⟨g, o, none⟩) 4 c])
    (h0 : w.cell? ⟨g, o, none⟩ = some (.string ⟨#[48]⟩)) (h1 : w.cell? ⟨g, o + 1, none⟩ = some (.string ⟨#[49]⟩)) (h2 : w.cell? ⟨g, o + 2, none⟩ = some (.string ⟨#[49]⟩)) (h3 : w.cell? ⟨g, o + 3, none⟩ = some (.string ⟨#[48]⟩)) (hg : g < w.heap.size) (hgr : g ≠ gr) :
    Calls Tryz.prog 12 #[.pointer (some ⟨gr, 0, none⟩), .func (.func 13) #[.pointer (some ⟨gr, 0, none⟩)] #[]] w fun e w' => e = .returned (.tuple #[]) ∧
      Blk w' gr 49 #[.int .u32 1, .int .i32 0, q, .iface 73 (.pointer (some ⟨w.heap.size, 0, none⟩)), .slice none 0 0] ∧ TabAt w' w.heap.size flipN ∧ w.grownBy w' (some gr) := by
  have BL := Lib.hid (bool_load ⟨gr, 0, none⟩ w (hB.cell 0))
  have SL := Lib.hid (replSlow gr g o c q w hB h0 h1 h2 h3 hg hgr)
  have hnot : ∀ (x : Bool) (w : World), (Op.unary .not (.bool x)).run Tryz.prog w = .ok (.bool (!x)) w := fun _ _ => rfl
  clear h0 h1 h2 h3 hB
  go_enter Tryz.func12, Tryz.ntmps12
  go_wp2_with (first | (go_at_call 20; refine BL.out.mono ?_; rintro e w' ⟨rfl, rfl⟩) | (go_at_call 21; refine SL.out.mono ?_; rintro e w' ⟨rfl, hB2, hT2, hg2⟩))
  go_end0
  exact ⟨rfl, hB2, hT2, hg2⟩
end Go.Proofs.YtafpcekemlgclaaGreatDoor
