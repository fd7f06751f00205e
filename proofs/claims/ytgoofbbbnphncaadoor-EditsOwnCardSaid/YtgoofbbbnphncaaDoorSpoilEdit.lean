/- quillkeep.spoil and slices.Contains, of edits. -/
import Derived.Test.YtgoofbbbnphncaaDoorEditWalk
import Derived.Test.YtgoofbbbnphncaaDoorOwnLow
import Derived.BigQuiet
import Derived.Test.YtgoofbbbnphncaaDoorEqual
namespace Go.Proofs.YtgoofbbbnphncaaDoor
open Go.RowKit
set_option linter.unusedVariables false

theorem grown_set {w wr : World} {g : Nat} (h : w.grownBy wr (some g)) (i : Nat) (u : Value) : w.grownBy (wr.setCell ⟨g, i, none⟩ u) (some g) :=
  ⟨h.os, h.tape, h.output, by rw [size_setCell]; exact h.size, fun k hk hne => (Below.heap_setCell wr _ u k (fun e => hne (by rw [e]))).trans (h.block k hk hne)⟩
theorem grown_refl (w : World) (r : Option Nat) : w.grownBy w r := ⟨rfl, rfl, rfl, Nat.le_refl _, fun _ _ _ => rfl⟩

set_option maxHeartbeats 1000000 in
theorem spoilEdit_any (base : Nat) (A : Option Addr) (n c : Nat) (xs : List Value) (k a : Int) (b : ByteArray) (w : World) (h : w.ownsRow base 42 3 (.slice A n c) n xs) :
    Calls Tryd.prog 29 #[.slice A n c, .agg #[.int .i64 k, .int .i64 a, .string b]] w fun e w' => e = .returned (.tuple #[]) ∧ w.grownBy w' (Value.slice A n c).ownBlock := by
  rcases h.2 with ⟨hv, h0⟩ | ⟨g, cap, cur, hv, hbg, hg, hnc, hcm, hcs, _⟩
  · injection hv with h1 _ h3
    subst h1 h3 h0
    go_enter Tryd.func29, Tryd.ntmps29
    go_wp2
    go_loopw [4, 11] (fun _ iv wr => iv = .int .i64 0 ∧ w.grownBy wr none) (fun _ _ _ => 0)
    case atStart => exact ⟨rfl, World.grownBy_alloc w _ none⟩
    case round =>
      obtain ⟨rfl, hb⟩ := hrel
      go_wp2
      refine bodyPost_end (v := .tuple #[]) (by simp [results, Tryd.results29, go_sem]) rfl ⟨rfl, hb⟩
  · injection hv with h1 _ h3
    subst h1 h3
    have hG : Blk w g 42 cur := hg
    have hglt : g < w.heap.size := hG.lt
    have hc : c ≤ 9223372036854775807 := by unfold maxLen at hcm; omega
    have hX := Blk.new w 42 #[.int .i64 k, .int .i64 a, .string b]
    have hGX := hG.alloc (Obj.cells #[.int .i64 k, .int .i64 a, .string b] 42)
    have hgr := World.grownBy_alloc w (Obj.cells #[.int .i64 k, .int .i64 a, .string b] 42) (some g)
    clear h hg hbg hG
    go_enter Tryd.func29, Tryd.ntmps29
    go_wp2
    go_loopw [4, 11] (fun _ iv wr => ∃ (i : Nat) (cs : Array Value), i ≤ c ∧ iv = .int .i64 i ∧ cs.size = c * 3 ∧ Blk wr g 42 cs ∧ Blk wr w.heap.size 42 #[.int .i64 k, .int .i64 a, .string b] ∧ w.grownBy wr (some g)) (fun _ iv _ => c - (intOf iv).toNat)
    case atStart => exact ⟨0, cur, by omega, rfl, hcs, hGX, hX, hgr⟩
    case round =>
      obtain ⟨i, cs, hi, rfl, hcs, hB, hXr, hbr⟩ := hrel
      by_cases hlt : i < c
      · have x0 : wr.cell? ⟨w.heap.size, 0, none⟩ = some (.int .i64 k) := hXr.cell 0
        have x1 : wr.cell? ⟨w.heap.size, 1, none⟩ = some (.int .i64 a) := hXr.cell 1
        have x2 : wr.cell? ⟨w.heap.size, 2, none⟩ = some (.string b) := hXr.cell 2
        have c0 : wr.cell? ⟨g, i * 3, none⟩ = some (cs[i * 3]'(by omega)) := by rw [hB.cell, Array.getElem?_eq_getElem]
        have c1 : wr.cell? ⟨g, i * 3 + 1, none⟩ = some (cs[i * 3 + 1]'(by omega)) := by rw [hB.cell, Array.getElem?_eq_getElem]
        have c2 : wr.cell? ⟨g, i * 3 + 2, none⟩ = some (cs[i * 3 + 2]'(by omega)) := by rw [hB.cell, Array.getElem?_eq_getElem]
        have f0 := hB.frozen (i * 3)
        have f1 := hB.frozen (i * 3 + 1)
        have f2 := hB.frozen (i * 3 + 2)
        have ilt : (i : Int) < c := by omega
        have hne : g ≠ w.heap.size := by omega
        have hn2 : w.heap.size ≠ g := by omega
        have hB2 := ((hB.set_ (i * 3) (.int .i64 k)).set_ (i * 3 + 1) (.int .i64 a)).set_ (i * 3 + 2) (.string b)
        have hX2 := ((hXr.far (p := ⟨g, i * 3, none⟩) hn2 (.int .i64 k)).far (p := ⟨g, i * 3 + 1, none⟩) hn2 (.int .i64 a)).far (p := ⟨g, i * 3 + 2, none⟩) hn2 (.string b)
        have hg2 := grown_set (grown_set (grown_set hbr (i * 3) (.int .i64 k)) (i * 3 + 1) (.int .i64 a)) (i * 3 + 2) (.string b)
        have hs2 : (((cs.setIfInBounds (i * 3) (.int .i64 k)).setIfInBounds (i * 3 + 1) (.int .i64 a)).setIfInBounds (i * 3 + 2) (.string b)).size = c * 3 := by simpa using hcs
        have HS := Lib.hid hs2
        generalize h1 : cs[i * 3]'(by omega) = v1 at c0
        generalize h2 : cs[i * 3 + 1]'(by omega) = v2 at c1
        generalize h3 : cs[i * 3 + 2]'(by omega) = v3 at c2
        clear h1 h2 h3 hs2 hcs
        go_wp2
        go_roundw
        case rel => exact ⟨i + 1, _, by omega, by go_num, HS.out, hB2, hX2, hg2⟩
        case measure => simp only [intOf]; omega
      · obtain rfl : i = c := by omega
        go_wp2
        refine bodyPost_end (v := .tuple #[]) (by simp [results, Tryd.results29, go_sem]) rfl ⟨rfl, hbr⟩

set_option maxHeartbeats 1000000 in
theorem indexEdit_no (k a : Int) (b : ByteArray) (A : Option Addr) (n c B : Nat) (l : List Ed) (w : World) (hn : n ≤ 140737488355328) (hl : l.length = n) (h : Reads w B A n 3 (l.flatMap cEdit)) (hB : B ≤ w.heap.size) (hv : (k, a, b) ∉ l) :
    Calls Tryd.prog 71 #[.slice A n c, .agg #[.int .i64 k, .int .i64 a, .string b]] w fun e w' => e = .returned (.int .i64 (-1)) ∧ Below w.heap.size w w' := by
  have Hl := Lib.hid hl
  have Hv := Lib.hid hv
  have hgd := guardEdit
  clear hl hv
  have hX := Blk.new w 42 #[.int .i64 k, .int .i64 a, .string b]
  have hbX := (Below.refl w.heap.size w).alloc (Nat.le_refl _) (Obj.cells #[.int .i64 k, .int .i64 a, .string b] 42)
  go_enter Tryd.func71, Tryd.ntmps71
  go_wp2
  go_loopw [5, 8] (fun _ iv wr => ∃ i : Nat, i ≤ n ∧ iv = .int .i64 i ∧ Blk wr w.heap.size 42 #[.int .i64 k, .int .i64 a, .string b] ∧ Below w.heap.size w wr) (fun _ iv _ => n - (intOf iv).toNat)
  case atStart => exact ⟨0, by omega, rfl, hX, hbX⟩
  case round =>
    obtain ⟨i, hi, rfl, hXr, hbr⟩ := hrel
    by_cases hlt : i < n
    · have h := h.below' hbr hB
      obtain ⟨b1, o1, rfl, hbB, hc⟩ := h.2 (by omega)
      have c0 := hc (i * 3 + 0) (by rw [flat_length cEdit 3 cEdit_len, Hl.out]; omega)
      have c1 := hc (i * 3 + 1) (by rw [flat_length cEdit 3 cEdit_len, Hl.out]; omega)
      have c2 := hc (i * 3 + 2) (by rw [flat_length cEdit 3 cEdit_len, Hl.out]; omega)
      rw [flat_getD cEdit 3 cEdit_len (0, 0, ByteArray.empty) l i _ (by rw [Hl.out]; omega) (by omega)] at c0 c1 c2
      simp only [cEdit, List.getD_cons_zero, List.getD_cons_succ, Nat.add_zero, ← Nat.add_assoc] at c0 c1 c2
      have hne : (k, a, b) ≠ l.getD i (0, 0, ByteArray.empty) := fun e => Hv.out (by rw [e, getD_some _ _ _ (by rw [Hl.out]; omega)]; exact List.getElem_mem _)
      clear hc
      generalize l.getD i (0, 0, ByteArray.empty) = x at *
      have x0 : wr.cell? ⟨w.heap.size, 0, none⟩ = some (.int .i64 k) := hXr.cell 0
      have x1 : wr.cell? ⟨w.heap.size, 1, none⟩ = some (.int .i64 a) := hXr.cell 1
      have x2 : wr.cell? ⟨w.heap.size, 2, none⟩ = some (.string b) := hXr.cell 2
      have hnq : ∀ w, (binOp .eql 42 (.agg #[.int .i64 k, .int .i64 a, .string b]) (.agg #[.int .i64 (x.1), .int .i64 (x.2.1), .string x.2.2])).run Tryd.prog w = .ok (.bool false) w := fun w => by
        have h := eqEdit k a b x.1 x.2.1 x.2.2 w
        rw [show (k == x.1 && a == x.2.1 && b.toList == x.2.2.toList) = false from nebEdit (k, a, b) x hne] at h
        rw [run_eql_struct, h]; rfl
      have Hne := Lib.hid hne
      have ilt : (i : Int) < n := by omega
      clear hne
      go_wp2
      go_quiet (fail)
      go_wp2
      go_roundw
      case rel => exact ⟨i + 1, by omega, by go_num, hXr.drewN _, below_drewN hbr _⟩
      case measure => simp only [intOf]; omega
    · obtain rfl : i = n := by omega
      go_wp2
      go_ret
      exact ⟨rfl, hbr⟩
theorem containsEdit_no (k a : Int) (b : ByteArray) (A : Option Addr) (n c B : Nat) (l : List Ed) (w : World) (hn : n ≤ 140737488355328) (hl : l.length = n) (h : Reads w B A n 3 (l.flatMap cEdit)) (hB : B ≤ w.heap.size) (hv : (k, a, b) ∉ l) :
    Calls Tryd.prog 37 #[.slice A n c, .agg #[.int .i64 k, .int .i64 a, .string b]] w fun e w' => e = .returned (.bool false) ∧ Below w.heap.size w w' := by
  have H1 := Lib.hid (fun w h hB => indexEdit_no k a b A n c B l w hn hl h hB hv)
  clear hl hv
  have hbX := (Below.refl w.heap.size w).alloc (Nat.le_refl _) (Obj.cells #[.int .i64 k, .int .i64 a, .string b] 42)
  have h2 := h.alloc hB (Obj.cells #[.int .i64 k, .int .i64 a, .string b] 42)
  go_enter Tryd.func37, Tryd.ntmps37
  go_wp2_with fail
  refine (H1.out _ h2 (by simp; omega)).mono ?_
  rintro e w1 ⟨rfl, hb1⟩
  have hb := chain hb1 hbX
  go_wp2
  go_ret
  exact ⟨rfl, hb⟩
end Go.Proofs.YtgoofbbbnphncaaDoor
