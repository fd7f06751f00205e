/- The walk of a node's lead: where a byte leads. -/
import Derived.Test.YtkbogiijbmjbmaaTrieMem
import Derived.IntWalk
namespace Go.Proofs.Ytkbogiijbmjbmaa
open Go.RowKit Go.Sort
set_option linter.unusedVariables false

theorem lead_at : ∀ {l : List (UInt8 × Nat)} {b : UInt8} {k : Nat}, (∀ j, j < k → (l.getD j (0, 0)).1 ≠ b) → k < l.length → (l.getD k (0, 0)).1 = b → leadE l b = (l.getD k (0, 0)).2
  | [], b, k, _, hk, _ => absurd hk (Nat.not_lt_zero _)
  | x :: r, b, 0, _, _, h => by rw [leadE]; exact if_pos h
  | x :: r, b, k + 1, h1, hk, h => by
    have h0 : x.1 ≠ b := h1 0 (by omega)
    rw [leadE, if_neg h0]
    exact lead_at (fun j hj => h1 (j + 1) (by omega)) (by simpa using hk) h
theorem lead_out : ∀ {l : List (UInt8 × Nat)} {b : UInt8}, (∀ j, j < l.length → (l.getD j (0, 0)).1 ≠ b) → leadE l b = 0
  | [], _, _ => rfl
  | x :: r, b, h => by
    have h0 : x.1 ≠ b := h 0 (by simp)
    rw [leadE, if_neg h0]
    exact lead_out fun j hj => h (j + 1) (by simpa using hj)

set_option maxRecDepth 100000 in
set_option maxHeartbeats 2000000 in
theorem lead_any (A : Option Addr) (m c B0 : Nat) (l : List (UInt8 × Nat)) (fl : Nat) (en : Int) (b : UInt8) (w : World) (hl : l.length = m) (hm : m ≤ 1000) (h : Reads w B0 A m 2 (l.flatMap cEg)) (hB0 : B0 ≤ w.heap.size) :
    Calls Try.prog 42 #[.agg #[.slice A m c, .int .i64 (fl : Int), .int .i64 en], .int .u8 (b.toNat : Int)] w fun e w' => e = .returned (.int .i64 (leadE l b : Nat)) ∧ Below w.heap.size w w' := by
  have Hl := Lib.hid hl
  clear hl
  have hb0 : Below w.heap.size w (w.alloc (Obj.cells #[.slice A m c, .int .i64 (fl : Int), .int .i64 en] 55)) := (Below.refl _ _).alloc (Nat.le_refl _) _
  go_enter Try.func42, Try.ntmps42
  go_wp2
  generalize w.alloc (Obj.cells #[.slice A m c, .int .i64 (fl : Int), .int .i64 en] 55) = w1 at *
  go_loopw [6, 10] (fun _ iv wr => ∃ k : Nat, k ≤ m ∧ iv = .int .i64 k ∧ Hid (∀ j, j < k → (l.getD j (0, 0)).1 ≠ b) ∧ Below w.heap.size w wr) (fun _ iv _ => m - (intOf iv).toNat)
  case atStart => exact ⟨0, Nat.zero_le _, rfl, Lib.hid fun j hj => absurd hj (Nat.not_lt_zero _), hb0⟩
  case round =>
    clear hb0
    obtain ⟨k, hk, rfl, Hk, hbr⟩ := hrel
    by_cases hlt : k < m
    · have hr := h.below' hbr hB0
      obtain ⟨g, o, rfl, hg, hc⟩ := hr.2 (by omega)
      have c0 := hc (k * 2 + 0) (by rw [flat_length cEg 2 cEg_len, Hl.out]; omega)
      have c1 := hc (k * 2 + 1) (by rw [flat_length cEg 2 cEg_len, Hl.out]; omega)
      rw [flat_getD cEg 2 cEg_len (0, 0) l k _ (by rw [Hl.out]; exact hlt) (by omega)] at c0 c1
      obtain ⟨x, hx⟩ : ∃ x, x = l.getD k (0, 0) := ⟨_, rfl⟩
      rw [← hx] at c0 c1
      simp only [cEg, List.getD_cons_zero, List.getD_cons_succ] at c0 c1
      rw [Nat.add_zero] at c0
      rw [← Nat.add_assoc] at c1
      have hb1 : Below w.heap.size w (wr.alloc (Obj.cells #[.int .u8 (x.1.toNat : Int), .int .i64 (x.2 : Int)] 70)) := hbr.alloc hbr.size _
      by_cases hxb : x.1 = b
      case pos =>
        have hfin := lead_at (l := l) (b := b) (k := k) Hk.out (by rw [Hl.out]; exact hlt) (by rw [← hx]; exact hxb)
        rw [← hx] at hfin
        have Hfin := Lib.hid hfin
        have q1 : ((x.1.toNat : Int) == (b.toNat : Int)) = true := by rw [hxb]; exact beq_self_eq_true _
        have q1' : (x.1.toNat == b.toNat) = true := by rw [hxb]; exact beq_self_eq_true _
        clear hfin hx hxb hc
        obtain ⟨x1, x2⟩ := x
        simp only at c0 c1 hb1 q1 q1' Hfin
        go_wp2
        go_ret
        exact ⟨by rw [Hfin.out]; rfl, hb1⟩
      case neg =>
        have hno : ∀ j, j < k + 1 → (l.getD j (0, 0)).1 ≠ b := fun j hj => by
          rcases Nat.lt_or_ge j k with h1 | h1
          · exact Hk.out j h1
          · obtain rfl : j = k := by omega
            rw [← hx]; exact hxb
        have Hno := Lib.hid hno
        have hne : x.1.toNat ≠ b.toNat := fun e => hxb (UInt8.toNat_inj.1 e)
        have q1 : ((x.1.toNat : Int) == (b.toNat : Int)) = false := by rw [beq_eq_false_iff_ne]; omega
        have q1' : (x.1.toNat == b.toNat) = false := by rw [beq_eq_false_iff_ne]; exact hne
        clear hno hx hxb hc hne
        obtain ⟨x1, x2⟩ := x
        simp only at c0 c1 hb1 q1 q1'
        go_wp2
        go_roundw
        case rel => exact ⟨k + 1, by omega, by go_num, Lib.hid Hno.out, hb1⟩
        case measure => simp [intOf]; omega
    · obtain rfl : k = m := by omega
      have hfin := lead_out (l := l) (b := b) (by rw [Hl.out]; exact Hk.out)
      have Hfin := Lib.hid hfin
      clear hfin
      go_wp2
      go_ret
      exact ⟨by rw [Hfin.out]; rfl, hbr⟩
end Go.Proofs.Ytkbogiijbmjbmaa
