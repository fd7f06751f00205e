/- slices.SortStableFunc over piles, at most 12 of them. -/
import Derived.Test.YtlnobikecmgocaaDoorLaidPileIns
import Derived.Test.YtlnobikecmgocaaDoorSortK
namespace Go.Proofs.YtlnobikecmgocaaDoor
open Go.RowKit Go.Sort Go.Shelf Go.Lib
set_option linter.unusedVariables false

/-- A pile: its weight, and a slice. -/
abbrev Pil := { p : Nat × Option Addr × Nat × Nat // p.1 ≤ 120000 }
instance : Inhabited Pil := ⟨⟨(0, none, 0, 0), by decide⟩⟩
def cPil (p : Pil) : List Value := [.int .i64 (p.1.1 : Int), .slice p.1.2.1 p.1.2.2.1 p.1.2.2.2]
theorem cPil_len (p : Pil) : (cPil p).length = 2 := rfl
def cfPil (x y : Pil) : Int := (x.1.1 : Int) - (y.1.1 : Int)

set_option maxHeartbeats 1000000 in
theorem pileCmp (x y : Pil) (W : World) : Calls Tryd.prog 18 #[.agg #[.int .i64 (x.1.1 : Int), .slice x.1.2.1 x.1.2.2.1 x.1.2.2.2], .agg #[.int .i64 (y.1.1 : Int), .slice y.1.2.1 y.1.2.2.1 y.1.2.2.2]] W fun e w' => e = .returned (.int .i64 (cfPil x y)) ∧ ∃ q os', w' = grow (W.drewN q) os' := by
  obtain ⟨⟨a, A, n, c⟩, ha⟩ := x
  obtain ⟨⟨b, B, m, d⟩, hb⟩ := y
  simp only at ha hb
  unfold cfPil
  simp only
  have e1 : wrap64 ((a : Int) - b) = (a : Int) - b := IntWalk.wrap64_in _ (by omega)
  have e2 : IntKind.i64.wrap ((a : Int) - b) = (a : Int) - b := by rw [IntKind.wrap_i64]; omega
  go_enter Tryd.func18, Tryd.ntmps18
  go_wp2
  go_ret
  exact ⟨by first | rfl | simp [e1], 0, _, by rw [alloc_eq_grow, alloc_eq_grow, grow_grow]; rfl⟩

theorem pileLays (blk off size : Nat) (w : World) : CmpLays Tryd.prog 18 #[] cPil 2 cfPil blk off size w := fun _ _ _ _ x y => pileCmp x y _
theorem pileSwo : SWO (ltOf cfPil) := by
  have e : ∀ x y, ltOf cfPil x y = decide (x.1.1 < y.1.1) := fun x y => by
    unfold ltOf cfPil
    by_cases h : x.1.1 < y.1.1
    · rw [decide_eq_true h, decide_eq_true (by omega)]
    · rw [decide_eq_false h, decide_eq_false (by omega)]
  refine ⟨fun x => ?_, fun x y z h1 h2 => ?_, fun x y z h1 h2 => ?_⟩
  · rw [e]; exact decide_eq_false (by omega)
  · rw [e] at *
    have := of_decide_eq_true h1
    have := of_decide_eq_true h2
    exact decide_eq_true (by omega)
  · rw [e] at *
    have := of_decide_eq_false h1
    have := of_decide_eq_false h2
    exact decide_eq_false (by omega)

set_option maxHeartbeats 1000000 in
theorem pileStable (blk off cap : Nat) (d : Array Pil) (w : World) (hH : HoldsK cPil 2 w blk off d) (hblk : blk < w.heap.size) (h12 : d.size ≤ 12) :
    Calls Tryd.prog 29 #[.slice (some ⟨blk, off, none⟩) d.size cap, .int .i64 d.size, .func (.func 18) #[] #[]] w fun e w' => e = .returned (.tuple #[]) ∧ ∃ m os, w' = sortWorldK cPil 2 w blk off m (Sort.insertionSort (ltOf cfPil) d 0 d.size) os := by
  have eg : ∀ args w, (callFunc 18 args).run Tryd.prog w = .ok (.enter 18 args) w := enters_of Tryd.func18 (by kernel_rfl) rfl
  have hcon := AnyQ.insertionSortCmpFunc layPileIns 2 Tryd.isAgg42 Tryd.sizeOf42 cPil cPil_len (fun x v hv => by simp [cPil] at hv; rcases hv with rfl | rfl <;> rfl) cfPil 18 #[] blk off cap 0 d.size d w eg (pileLays blk off d.size w) hH hblk (Nat.zero_le _) (Nat.le_refl _) (by omega)
  change Calls Tryd.prog 37 _ _ _ at hcon
  have HC := Lib.hid hcon
  clear hcon hH
  generalize Sort.insertionSort (ltOf cfPil) d 0 d.size = r at HC ⊢
  generalize d.size = n at *
  have q1 : decide ((20 : Int) ≤ (n : Int)) = false := decide_eq_false (by omega)
  have q1' : decide (20 ≤ n) = false := decide_eq_false (by omega)
  have q2 : decide ((20 : Int) < (n : Int)) = false := decide_eq_false (by omega)
  have q2' : decide (20 < n) = false := decide_eq_false (by omega)
  go_enter Tryd.func29, Tryd.ntmps29
  go_wp2
  go_loopw [7, 8] (fun a b wr => a = .int .i64 0 ∧ b = .int .i64 20 ∧ wr = w) (fun _ _ _ => 0)
  case atStart => exact ⟨rfl, rfl, rfl⟩
  case round =>
    obtain ⟨rfl, rfl, rfl⟩ := hrel
    go_wp2_with fail
    refine HC.out.mono ?_
    rintro e w' ⟨rfl, m, os, rfl⟩
    go_wp2
    go_loopw [6, 7, 8, 9] (fun s _ _ _ W => s = .int .i64 20 ∧ ∃ m os, W = sortWorldK cPil 2 wr blk off m r os) (fun _ _ _ _ _ => 0)
    case atStart => exact ⟨rfl, m, os, rfl⟩
    case round =>
      obtain ⟨rfl, m, os, rfl⟩ := hrel
      go_wp2
      refine bodyPost_end (v := .tuple #[]) (by simp [results, Tryd.results29, go_sem]) rfl ⟨rfl, m, os, rfl⟩

set_option maxHeartbeats 1000000 in
theorem pileSort (blk off cap : Nat) (d : Array Pil) (w : World) (hH : HoldsK cPil 2 w blk off d) (hblk : blk < w.heap.size) (h12 : d.size ≤ 12) :
    Calls Tryd.prog 17 #[.slice (some ⟨blk, off, none⟩) d.size cap, .func (.func 18) #[] #[]] w fun e w' => e = .returned (.tuple #[]) ∧ ∃ d' : Array Pil, d'.toList.Perm d.toList ∧ SortedIn (ltOf cfPil) 0 d.size d' ∧ ∃ m os, w' = sortWorldK cPil 2 w blk off m d' os := by
  have h := insertionSort_holds (lt := ltOf cfPil) pileSwo d 0 d.size (Nat.zero_le _) (Nat.le_refl _)
  obtain ⟨⟨hs, _, hp⟩, hsort⟩ := h
  have hp' : (Sort.insertionSort (ltOf cfPil) d 0 d.size).toList.Perm d.toList := by
    have e1 : ∀ x : Array Pil, x.size = d.size → (x.extract 0 d.size).toList = x.toList := fun x hx => by rw [← hx, Array.extract_size]
    rwa [e1 _ hs, e1 _ rfl] at hp
  have HC := Lib.hid (pileStable blk off cap d w hH hblk h12)
  clear hH hp
  have HS := Lib.hid hsort
  have HP := Lib.hid hp'
  clear hsort hp' hs
  generalize Sort.insertionSort (ltOf cfPil) d 0 d.size = r at *
  go_enter Tryd.func17, Tryd.ntmps17
  go_wp2_with fail
  refine HC.out.mono ?_
  rintro e w' ⟨rfl, m, os, rfl⟩
  go_wp2
  refine bodyPost_end (v := .tuple #[]) (by simp [results, Tryd.results17, go_sem]) rfl ⟨rfl, r, HP.out, HS.out, m, os, rfl⟩
end Go.Proofs.YtlnobikecmgocaaDoor
