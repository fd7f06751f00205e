/- slices.Index and slices.Contains over hits. -/
import Derived.Test.YtkbogiijbmjbmaaContains
import Derived.Test.YtkbogiijbmjbmaaStruct
import Derived.BigQuiet
namespace Go.Proofs.Ytkbogiijbmjbmaa
open Go.RowKit
set_option linter.unusedVariables false

set_option maxHeartbeats 1000000 in
theorem indexHit_any (v : Int × Int) (A : Option Addr) (n c B : Nat) (l : List (Int × Int)) (w : World) (hn : n ≤ 9223372036854775807) (hl : l.length = n) (h : Reads w B A n 2 (l.flatMap cHit)) (hB : B ≤ w.heap.size) :
    Calls Try.prog 34 #[.slice A n c, .agg #[.int .i64 v.1, .int .i64 v.2]] w fun e w' => e = .returned (.int .i64 (idxI v l)) ∧ Below w.heap.size w w' := by
  have Hl := Lib.hid hl
  obtain ⟨v1, v2⟩ := v
  have hb0 : Below w.heap.size w (w.alloc (Obj.cells #[.int .i64 v1, .int .i64 v2] 35)) := (Below.refl _ _).alloc (Nat.le_refl _) _
  have hblk := Blk.new w 35 #[.int .i64 v1, .int .i64 v2]
  have heq := eqHit v1 v2
  clear hl
  go_enter Try.func34, Try.ntmps34
  go_wp2
  generalize w.alloc (Obj.cells #[.int .i64 v1, .int .i64 v2] 35) = w1 at *
  go_loopw [5, 8] (fun _ i wr => ∃ k : Nat, k ≤ n ∧ i = .int .i64 k ∧ Hid ((v1, v2) ∉ l.take k) ∧ Blk wr w.heap.size 35 #[.int .i64 v1, .int .i64 v2] ∧ Below w.heap.size w wr) (fun _ i _ => n - (intOf i).toNat)
  case atStart => exact ⟨0, Nat.zero_le _, rfl, Lib.hid (by simp), hblk, hb0⟩
  case round =>
    clear hblk hb0
    obtain ⟨k, hk, rfl, Hk, hblk, hbr⟩ := hrel
    by_cases hlt : k < n
    · have hr := h.below' hbr hB
      obtain ⟨b, o, rfl, hbB, hc⟩ := hr.2 (by omega)
      have c0 := hc (k * 2 + 0) (by rw [flat_length cHit 2 cHit_len, Hl.out]; omega)
      have c1 := hc (k * 2 + 1) (by rw [flat_length cHit 2 cHit_len, Hl.out]; omega)
      rw [flat_getD cHit 2 cHit_len (0, 0) l k _ (by rw [Hl.out]; omega) (by omega)] at c0 c1
      simp only [cHit, List.getD_cons_zero, List.getD_cons_succ] at c0 c1
      rw [Nat.add_zero] at c0
      rw [← Nat.add_assoc] at c1
      have b0 := hblk.cell 0
      have b1 := hblk.cell 1
      have hts := take_succ_getD l k (0, 0) (by rw [Hl.out]; omega)
      have Hts := Lib.hid hts
      have hfd := fun h => idxI_found (v := (v1, v2)) (d := (0, 0)) (l := l) (k := k) (by rw [Hl.out]; exact hlt) h Hk.out
      have Hfd := Lib.hid hfd
      clear hc hts hfd hr
      generalize l.getD k (0, 0) = x at *
      obtain ⟨x1, x2⟩ := x
      simp only at c0 c1
      have hex := heq x1 x2
      by_cases he : v1 = x1 ∧ v2 = x2
      · have q1 : (v1 == x1 && v2 == x2) = true := by rw [he.1, he.2]; simp
        have Hfin := Lib.hid (Hfd.out (by rw [he.1, he.2]))
        have hex2 : ∀ w, (Op.equalIn 10000 35 (.agg #[.int .i64 v1, .int .i64 v2]) (.agg #[.int .i64 x1, .int .i64 x2])).run Try.prog w = .ok true w := fun w => by rw [hex, q1]
        clear he heq hex q1
        go_wp2
        go_quiet (fail)
        go_wp2
        go_ret
        exact ⟨by rw [Hfin.out]; rfl, ⟨hbr.os, hbr.tape, hbr.output, hbr.size, hbr.block⟩⟩
      · have hne : ¬ (v1, v2) = (x1, x2) := fun h => he (by injection h with h1 h2; exact ⟨h1, h2⟩)
        have q1 : (v1 == x1 && v2 == x2) = false := by
          rw [Bool.and_eq_false_iff, beq_eq_false_iff_ne, beq_eq_false_iff_ne]
          by_cases h1 : v1 = x1
          · exact .inr fun h2 => he ⟨h1, h2⟩
          · exact .inl h1
        have hex2 : ∀ w, (Op.equalIn 10000 35 (.agg #[.int .i64 v1, .int .i64 v2]) (.agg #[.int .i64 x1, .int .i64 x2])).run Try.prog w = .ok false w := fun w => by rw [hex, q1]
        have Hne := Lib.hid hne
        clear he hne heq hex q1
        go_wp2
        go_quiet (fail)
        go_wp2
        go_roundw
        case rel =>
          refine ⟨k + 1, by omega, by go_num, Lib.hid ?_, hblk.drewN _, ⟨hbr.os, hbr.tape, hbr.output, hbr.size, hbr.block⟩⟩
          rw [Hts.out, List.mem_append, List.mem_singleton]
          exact fun h => h.elim Hk.out Hne.out
        case measure => simp [intOf]; omega
    · obtain rfl : k = n := by omega
      have e : l.take k = l := List.take_of_length_le (by rw [Hl.out]; omega)
      rw [e] at Hk
      have hno := idxI_none Hk.out
      have Hno := Lib.hid hno
      clear hno e
      go_wp2
      go_ret
      exact ⟨by rw [Hno.out]; rfl, hbr⟩
set_option maxHeartbeats 400000 in
theorem containsHit_any (v : Int × Int) (A : Option Addr) (n c B : Nat) (l : List (Int × Int)) (w : World) (hn : n ≤ 9223372036854775807) (hl : l.length = n) (h : Reads w B A n 2 (l.flatMap cHit)) (hB : B ≤ w.heap.size) :
    Calls Try.prog 17 #[.slice A n c, .agg #[.int .i64 v.1, .int .i64 v.2]] w fun e w' => e = .returned (.bool (hasB v l)) ∧ Below w.heap.size w w' := by
  have hneg := idxI_neg v l
  have hb0 : Below w.heap.size w (w.alloc (Obj.cells #[.int .i64 v.1, .int .i64 v.2] 35)) := (Below.refl _ _).alloc (Nat.le_refl _) _
  have H1 := Lib.hid (indexHit_any v A n c B l (w.alloc (Obj.cells #[.int .i64 v.1, .int .i64 v.2] 35)) hn hl (h.below' hb0 hB) (Nat.le_trans hB hb0.size))
  have Hneg := Lib.hid hneg
  clear hneg hl h
  obtain ⟨v1, v2⟩ := v
  simp only at *
  go_enter Try.func17, Try.ntmps17
  go_wp2_with fail
  refine H1.out.mono ?_
  rintro e w1 ⟨rfl, hb1⟩
  have hb1 := chain hb1 hb0
  generalize idxI (v1, v2) l = i at *
  go_wp2
  go_ret
  exact ⟨congrArg (fun b => Ending.returned (.bool b)) Hneg.out, hb1⟩
end Go.Proofs.Ytkbogiijbmjbmaa
