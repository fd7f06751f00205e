/- The walk of slices.Max at a row of ints. -/
import Derived.Test.YtjdeckjkcpglcaaStruct
import Derived.Test.YtjdeckjkcpglcaaPlain
namespace Go.Proofs.Ytjdeckjkcpglcaa
open Go.RowKit
set_option linter.unusedVariables false

/-- The greatest number of a row. -/
def IsMaxI (l : List Int) (x : Int) : Prop := x ∈ l ∧ ∀ y ∈ l, y ≤ x
theorem isMaxI_eq {l : List Int} {x y : Int} (h : IsMaxI l x) (k : IsMaxI l y) : x = y := Int.le_antisymm (k.2 x h.1) (h.2 y k.1)
set_option maxHeartbeats 2000000 in
theorem maxInt_any (A : Option Addr) (n c B : Nat) (l : List Int) (w : World) (hn0 : 0 < n) (hn : n ≤ 140737488355328) (hl : l.length = n) (h : Reads w B A n 1 (l.flatMap cInt)) :
    Calls Try.prog 10 #[.slice A n c] w fun e w' => (∃ x, e = .returned (.int .i64 x) ∧ IsMaxI l x) ∧ w = w' := by
  have Hl := Lib.hid hl
  obtain ⟨b, o, rfl, hbB, hcl⟩ := h.2 hn0
  have hcell : ∀ j, j < n → w.cell? ⟨b, o + j, none⟩ = some (.int .i64 (l.getD j 0)) := fun j hj => by
    have c0 := hcl (j * 1 + 0) (by rw [flat_length cInt 1 cInt_len, hl]; omega)
    rw [flat_getD cInt 1 cInt_len 0 l j _ (by rw [hl]; omega) (by omega)] at c0
    simpa only [cInt, List.getD_cons_zero, Nat.mul_one, Nat.add_zero] using c0
  have Hcell := Lib.hid hcell
  have q1 : decide ((n : Int) < 1) = false := decide_eq_false (by omega)
  have q1' : decide (n < 1) = false := decide_eq_false (by omega)
  have c0 := hcell 0 hn0
  rw [Nat.add_zero] at c0
  have h0 : IsMaxI (l.take 1) (l.getD 0 0) := by
    have := take_succ_getD l 0 0 (by omega)
    rw [this]
    exact ⟨by simp, fun y hy => by
      simp at hy
      rw [hy]
      simp⟩
  have H0 := Lib.hid h0
  clear hl hcl hcell h h0
  generalize l.getD 0 0 = x0 at *
  go_enter Try.func10, Try.ntmps10
  go_wp2
  go_loopw [3, 4] (fun mv iv wr => ∃ (k : Nat) (x : Int), 1 ≤ k ∧ k ≤ n ∧ iv = .int .i64 k ∧ mv = .int .i64 x ∧ Hid (IsMaxI (l.take k) x) ∧ wr = w) (fun _ iv _ => n - (intOf iv).toNat)
  case atStart => exact ⟨1, x0, Nat.le_refl _, hn0, rfl, rfl, Lib.hid H0.out, rfl⟩
  case round =>
    obtain ⟨k, x, hk1, hk, rfl, rfl, Hm, rfl⟩ := hrel
    by_cases hlt : k < n
    · have ck := Hcell.out k hlt
      have hts := take_succ_getD l k 0 (by rw [Hl.out]; exact hlt)
      have Hts := Lib.hid hts
      clear hts
      generalize l.getD k 0 = y at *
      by_cases hxy : x < y
      case' pos =>
        have hmin : ∀ (ats : Array TypeId) (t : TypeId) (w : World), (Builtin.max_ ats t #[.int .i64 x, .int .i64 y]).run Try.prog w = .ok (.int .i64 y) w := fun ats t w => by rw [run_max_int2, if_pos hxy]
        have hnew : IsMaxI (l.take (k + 1)) y := by
          rw [Hts.out]
          refine ⟨by simp, fun z hz => ?_⟩
          rw [List.mem_append, List.mem_singleton] at hz
          rcases hz with hz | rfl
          · have := Hm.out.2 z hz; omega
          · exact Int.le_refl _
        have Hnew := Lib.hid hnew
        clear hnew
        go_wp2
        go_roundw
        case rel => exact ⟨k + 1, y, by omega, by omega, by go_num, rfl, Lib.hid Hnew.out, trivial⟩
        case measure => simp [intOf]; omega
      case' neg =>
        have hmin : ∀ (ats : Array TypeId) (t : TypeId) (w : World), (Builtin.max_ ats t #[.int .i64 x, .int .i64 y]).run Try.prog w = .ok (.int .i64 x) w := fun ats t w => by rw [run_max_int2, if_neg hxy]
        have hnew : IsMaxI (l.take (k + 1)) x := by
          rw [Hts.out]
          refine ⟨by rw [List.mem_append]; exact .inl Hm.out.1, fun z hz => ?_⟩
          rw [List.mem_append, List.mem_singleton] at hz
          rcases hz with hz | rfl
          · exact Hm.out.2 z hz
          · omega
        have Hnew := Lib.hid hnew
        clear hnew
        go_wp2
        go_roundw
        case rel => exact ⟨k + 1, x, by omega, by omega, by go_num, rfl, Lib.hid Hnew.out, trivial⟩
        case measure => simp [intOf]; omega
    · obtain rfl : k = n := by omega
      have e : l.take k = l := List.take_of_length_le (by rw [Hl.out]; omega)
      rw [e] at Hm
      go_wp2
      go_ret
      exact ⟨⟨x, rfl, Hm.out⟩, rfl⟩
end Go.Proofs.Ytjdeckjkcpglcaa
