/- The walks of shift.Check, shift.Do and shift.Past. -/
import Derived.Test.YtpeplkjidljpmaaShift
import Derived.Test.YtpeplkjidljpmaaStruct
import Derived.Test.YtpeplkjidljpmaaBack
import Derived.Deep.QuietTactic
import Derived.BigQuiet
import Derived.Deep.DeepMust
import Derived.RegionTactic
import Derived.BigRegion
namespace Go.Proofs.Ytpeplkjidljpmaa
open Go.RowKit
set_option linter.unusedVariables false

theorem bne_u8 {b : UInt8} (h : b ≠ 0) : ((b.toNat : Int) != 0) = true := by
  rw [bne_iff_ne]; intro e; exact h (UInt8.toNat_inj.1 (by rw [show (0 : UInt8).toNat = 0 from rfl]; omega))
theorem bne_u8' {b : UInt8} (h : b = 0) : ((b.toNat : Int) != 0) = false := by subst h; rfl

set_option maxHeartbeats 4000000 in
theorem checkO_any (n k a : Int) (b : UInt8) (w : World) :
    Calls Try.prog 51 #[.int .i64 n, .agg #[.int .i64 k, .int .i64 a, .int .u8 (b.toNat : Int)]] w fun e w' => e = .returned (.int .i64 (chO n (k, a, b))) ∧ Below w.heap.size w w' := by
  have hE : chO n (k, a, b) = if n < 0 ∨ 200 < n then 1 else if k = 1 then (if a < 0 ∨ n < a then 1 else if n = 200 then 11 else 0) else if k = 2 then (if a < 0 ∨ n ≤ a then 1 else if b ≠ 0 then 3 else 0) else if k = 3 then (if a ≠ 0 then 1 else if b ≠ 0 then 3 else 0) else 3 := rfl
  generalize chO n (k, a, b) = R at *
  by_cases h0 : n < 0
  · have e1 : R = 1 := by rw [hE, if_pos (.inl h0)]
    have n0 : decide (n < 0) = true := decide_eq_true h0
    clear hE
    subst e1
    go_enter Try.func51, Try.ntmps51
    go_wp2
    go_ret
    exact ⟨rfl, (Below.refl _ _).alloc (Nat.le_refl _) _⟩
  by_cases h2 : 200 < n
  · have e1 : R = 1 := by rw [hE, if_pos (.inr h2)]
    have n0 : decide (n < 0) = false := decide_eq_false h0
    have n2 : decide (200 < n) = true := decide_eq_true h2
    clear hE
    subst e1
    go_enter Try.func51, Try.ntmps51
    go_wp2
    go_ret
    exact ⟨rfl, (Below.refl _ _).alloc (Nat.le_refl _) _⟩
  by_cases k1 : k = 1
  · subst k1
    rw [if_neg (show ¬ (n < 0 ∨ 200 < n) by omega), if_pos rfl] at hE
    by_cases a1 : a < 0
    · have e1 : R = 1 := by rw [hE, if_pos (.inl a1)]
      have n0 : decide (n < 0) = false := decide_eq_false h0
      have n2 : decide (200 < n) = false := decide_eq_false h2
      have a0 : decide (a < 0) = true := decide_eq_true a1
      clear hE
      subst e1
      go_enter Try.func51, Try.ntmps51
      go_wp2
      go_ret
      exact ⟨rfl, (Below.refl _ _).alloc (Nat.le_refl _) _⟩
    by_cases a2 : n < a
    · have e1 : R = 1 := by rw [hE, if_pos (.inr a2)]
      have n0 : decide (n < 0) = false := decide_eq_false h0
      have n2 : decide (200 < n) = false := decide_eq_false h2
      have a0 : decide (a < 0) = false := decide_eq_false a1
      have a3 : decide (n < a) = true := decide_eq_true a2
      clear hE
      subst e1
      go_enter Try.func51, Try.ntmps51
      go_wp2
      go_ret
      exact ⟨rfl, (Below.refl _ _).alloc (Nat.le_refl _) _⟩
    rw [if_neg (show ¬ (a < 0 ∨ n < a) by omega)] at hE
    by_cases a4 : n = 200
    · have e1 : R = 11 := by rw [hE, if_pos a4]
      have a0 : decide (a < 0) = false := decide_eq_false a1
      have a3 : decide (n < a) = false := decide_eq_false a2
      have n0 : decide (n < 0) = false := decide_eq_false h0
      have n2 : decide (200 < n) = false := decide_eq_false h2
      have a5 : (n == 200) = true := by rw [beq_iff_eq]; exact a4
      clear hE
      subst e1
      go_enter Try.func51, Try.ntmps51
      go_wp2
      go_ret
      exact ⟨rfl, (Below.refl _ _).alloc (Nat.le_refl _) _⟩
    have e1 : R = 0 := by rw [hE, if_neg a4]
    have a0 : decide (a < 0) = false := decide_eq_false a1
    have a3 : decide (n < a) = false := decide_eq_false a2
    have n0 : decide (n < 0) = false := decide_eq_false h0
    have n2 : decide (200 < n) = false := decide_eq_false h2
    have a5 : (n == 200) = false := by rw [beq_eq_false_iff_ne]; exact a4
    clear hE
    subst e1
    go_enter Try.func51, Try.ntmps51
    go_wp2
    go_ret
    exact ⟨rfl, (Below.refl _ _).alloc (Nat.le_refl _) _⟩
  have g1 : (k == 1) = false := by rw [beq_eq_false_iff_ne]; exact k1
  have g2 : (k != 1) = true := by rw [bne_iff_ne]; exact k1
  by_cases k2 : k = 2
  · subst k2
    rw [if_neg (show ¬ (n < 0 ∨ 200 < n) by omega), if_neg k1, if_pos rfl] at hE
    by_cases a1 : a < 0
    · have e1 : R = 1 := by rw [hE, if_pos (.inl a1)]
      have n0 : decide (n < 0) = false := decide_eq_false h0
      have n2 : decide (200 < n) = false := decide_eq_false h2
      have a0 : decide (a < 0) = true := decide_eq_true a1
      clear hE
      subst e1
      go_enter Try.func51, Try.ntmps51
      go_wp2
      go_ret
      exact ⟨rfl, (Below.refl _ _).alloc (Nat.le_refl _) _⟩
    by_cases a2 : n ≤ a
    · have e1 : R = 1 := by rw [hE, if_pos (.inr a2)]
      have n0 : decide (n < 0) = false := decide_eq_false h0
      have n2 : decide (200 < n) = false := decide_eq_false h2
      have a0 : decide (a < 0) = false := decide_eq_false a1
      have a3 : decide (n ≤ a) = true := decide_eq_true a2
      clear hE
      subst e1
      go_enter Try.func51, Try.ntmps51
      go_wp2
      go_ret
      exact ⟨rfl, (Below.refl _ _).alloc (Nat.le_refl _) _⟩
    rw [if_neg (show ¬ (a < 0 ∨ n ≤ a) by omega)] at hE
    by_cases a4 : b = 0
    · have e1 : R = 0 := by rw [hE, if_neg (by simpa using a4)]
      have n0 : decide (n < 0) = false := decide_eq_false h0
      have n2 : decide (200 < n) = false := decide_eq_false h2
      have a0 : decide (a < 0) = false := decide_eq_false a1
      have a3 : decide (n ≤ a) = false := decide_eq_false a2
      have a5 := bne_u8' a4
      clear hE
      subst e1
      go_enter Try.func51, Try.ntmps51
      go_wp2
      go_ret
      exact ⟨rfl, (Below.refl _ _).alloc (Nat.le_refl _) _⟩
    have e1 : R = 3 := by rw [hE, if_pos a4]
    have n0 : decide (n < 0) = false := decide_eq_false h0
    have n2 : decide (200 < n) = false := decide_eq_false h2
    have a0 : decide (a < 0) = false := decide_eq_false a1
    have a3 : decide (n ≤ a) = false := decide_eq_false a2
    have a5 := bne_u8 a4
    clear hE
    subst e1
    go_enter Try.func51, Try.ntmps51
    go_wp2
    go_ret
    exact ⟨rfl, (Below.refl _ _).alloc (Nat.le_refl _) _⟩
  have g3 : (k == 2) = false := by rw [beq_eq_false_iff_ne]; exact k2
  by_cases k3 : k = 3
  · subst k3
    rw [if_neg (show ¬ (n < 0 ∨ 200 < n) by omega), if_neg k1, if_neg k2, if_pos rfl] at hE
    by_cases a1 : a = 0
    · rw [if_neg (show ¬ a ≠ 0 from fun h => h a1)] at hE
      by_cases a4 : b = 0
      · have e1 : R = 0 := by rw [hE, if_neg (show ¬ b ≠ 0 from fun h => h a4)]
        have n0 : decide (n < 0) = false := decide_eq_false h0
        have n2 : decide (200 < n) = false := decide_eq_false h2
        have a5 := bne_u8' a4
        have a6 : (a != 0) = false := by rw [a1]; rfl
        clear hE
        subst e1
        go_enter Try.func51, Try.ntmps51
        go_wp2
        go_ret
        exact ⟨rfl, (Below.refl _ _).alloc (Nat.le_refl _) _⟩
      have e1 : R = 3 := by rw [hE, if_pos a4]
      have n0 : decide (n < 0) = false := decide_eq_false h0
      have n2 : decide (200 < n) = false := decide_eq_false h2
      have a5 := bne_u8 a4
      have a6 : (a != 0) = false := by rw [a1]; rfl
      clear hE
      subst e1
      go_enter Try.func51, Try.ntmps51
      go_wp2
      go_ret
      exact ⟨rfl, (Below.refl _ _).alloc (Nat.le_refl _) _⟩
    · have e1 : R = 1 := by rw [hE, if_pos a1]
      have n0 : decide (n < 0) = false := decide_eq_false h0
      have n2 : decide (200 < n) = false := decide_eq_false h2
      have a6 : (a != 0) = true := by rw [bne_iff_ne]; exact a1
      clear hE
      subst e1
      go_enter Try.func51, Try.ntmps51
      go_wp2
      go_ret
      exact ⟨rfl, (Below.refl _ _).alloc (Nat.le_refl _) _⟩
  have g4 : (k == 3) = false := by rw [beq_eq_false_iff_ne]; exact k3
  have e1 : R = 3 := by rw [hE, if_neg (show ¬ (n < 0 ∨ 200 < n) by omega), if_neg k1, if_neg k2, if_neg k3]
  have n0 : decide (n < 0) = false := decide_eq_false h0
  have n2 : decide (200 < n) = false := decide_eq_false h2
  clear hE
  subst e1
  go_enter Try.func51, Try.ntmps51
  go_wp2
  go_ret
  exact ⟨rfl, (Below.refl _ _).alloc (Nat.le_refl _) _⟩

theorem ba_list_append (a b : ByteArray) : (a ++ b).data.toList = a.data.toList ++ b.data.toList := by simp
/-- A list of bytes as a string. -/
def tb (l : List UInt8) : ByteArray := ⟨l.toArray⟩
theorem tb_list (l : List UInt8) : (tb l).data.toList = l := rfl
theorem tb_of (s : ByteArray) : tb s.data.toList = s := ba_ext rfl
theorem tb_put (s : ByteArray) (a : Nat) (b : UInt8) : s.extract 0 a ++ ⟨#[b]⟩ ++ s.extract a s.size = tb (s.data.toList.take a ++ [b] ++ s.data.toList.drop a) := ba_ext (by
  rw [tb_list, ba_list_append, ba_list_append, Lib.extract_data, Lib.extract_data, List.drop_zero, Nat.sub_zero, List.take_of_length_le (l := s.data.toList.drop a) (by rw [List.length_drop]; exact Nat.le_refl _)])
theorem tb_take (s : ByteArray) (a : Nat) : s.extract 0 a ++ s.extract (a + 1) s.size = tb (s.data.toList.take a ++ s.data.toList.drop (a + 1)) := ba_ext (by
  rw [tb_list, ba_list_append, Lib.extract_data, Lib.extract_data, List.drop_zero, Nat.sub_zero, List.take_of_length_le (l := s.data.toList.drop (a + 1)) (by rw [List.length_drop]; exact Nat.le_refl _)])
theorem ob_at {P : Program} (w : World) (src dst e : TypeId) (g : Nat) (x : UInt8) (hs : P.underlying src = some (.slice e)) (he : P.underlying e = some (.int .u8)) (hd : P.underlying dst = some .string) (hc : w.cell? ⟨g, 0, none⟩ = some (.int .u8 (x.toNat : Int))) :
    (convert src dst (.slice (some ⟨g, 0, none⟩) 1 1)).run P w = .ok (.string ⟨#[x]⟩) w := by
  refine run_string_of w src dst e ⟨g, 0, none⟩ 1 1 [x] rfl hs he hd fun j hj => ?_
  have : j = 0 := by simp at hj; omega
  subst this
  rw [add_zero]; exact hc

set_option maxHeartbeats 4000000 in
theorem do_put (s : ByteArray) (a : Nat) (b : UInt8) (ha : a ≤ s.size) (hs : s.size < 200) (w : World) :
    Calls Try.prog 18 #[.string s, .agg #[.int .i64 1, .int .i64 (a : Int), .int .u8 (b.toNat : Int)]] w fun e w' => e = .returned (.tuple #[.string (tb (s.data.toList.take a ++ [b] ++ s.data.toList.drop a)), .int .i64 0]) ∧ Below w.heap.size w w' := by
  have hch : chO (s.size : Int) (1, (a : Int), b) = 0 := chO_put (by omega) (by omega) (by omega)
  have H1 := Lib.hid (fun w => by have := checkO_any (s.size : Int) 1 a b w; rw [hch] at this; exact this)
  have ha' : (a : Int) ≤ s.size := by omega
  have HT := Lib.hid (tb_put s a b)
  clear hch
  go_enter Try.func18, Try.ntmps18
  go_wp2_with fail
  refine (H1.out _).mono ?_
  rintro e w1 ⟨rfl, hb1⟩
  have hc0 : w1.cell? ⟨w.heap.size, 0, none⟩ = some (.int .i64 1) := by rw [hb1.cell (by simp), World.cell?_alloc_mark]; rfl
  have hc1 : w1.cell? ⟨w.heap.size, 1, none⟩ = some (.int .i64 (a : Int)) := by rw [hb1.cell (by simp), World.cell?_alloc_mark]; rfl
  have hc2 : w1.cell? ⟨w.heap.size, 2, none⟩ = some (.int .u8 (b.toNat : Int)) := by rw [hb1.cell (by simp), World.cell?_alloc_mark]; rfl
  have hlt1 : w.heap.size < w1.heap.size := by have := hb1.size; simp at this; omega
  have hbw1 : Below w.heap.size w w1 := ((Below.refl _ _).alloc (Nat.le_refl _) _).trans (hb1.mono (by simp))
  clear hb1 H1
  have hcv := ob_at (P := Try.prog) (w1.alloc (.cells #[.int .u8 (b.toNat : Int)] 5)).drew 82 9 5 w1.heap.size b Try.underlying82 Try.underlying5 Try.underlying9 (by
    show (w1.alloc (.cells #[.int .u8 (b.toNat : Int)] 5)).cell? _ = _
    rw [World.cell?_alloc_mark]; rfl)
  go_wp2
  go_region
  go_wp2
  go_ret2
  refine ⟨?_, (hbw1.alloc hbw1.size _).drew⟩
  rw [← HT.out]; rfl

set_option maxHeartbeats 4000000 in
theorem do_take (s : ByteArray) (a : Nat) (ha : a < s.size) (hs : s.size ≤ 200) (w : World) :
    Calls Try.prog 18 #[.string s, .agg #[.int .i64 2, .int .i64 (a : Int), .int .u8 0]] w fun e w' => e = .returned (.tuple #[.string (tb (s.data.toList.take a ++ s.data.toList.drop (a + 1))), .int .i64 0]) ∧ Below w.heap.size w w' := by
  have hch : chO (s.size : Int) (2, (a : Int), 0) = 0 := chO_take (by omega) (by omega) (by omega)
  have h1 : ∀ w, Calls Try.prog 51 #[.int .i64 (s.size : Int), .agg #[.int .i64 2, .int .i64 (a : Int), .int .u8 0]] w fun e w' => e = .returned (.int .i64 0) ∧ Below w.heap.size w w' := fun w => by
    have := checkO_any (s.size : Int) 2 a 0 w; rw [hch] at this; exact this
  have H1 := Lib.hid h1
  have ha' : (a : Int) ≤ s.size := by omega
  have ha1 : (a : Int) + 1 ≤ s.size := by omega
  have HT := Lib.hid (tb_take s a)
  clear hch h1
  go_enter Try.func18, Try.ntmps18
  go_wp2_with fail
  refine (H1.out _).mono ?_
  rintro e w1 ⟨rfl, hb1⟩
  have hc0 : w1.cell? ⟨w.heap.size, 0, none⟩ = some (.int .i64 2) := by rw [hb1.cell (by simp), World.cell?_alloc_mark]; rfl
  have hc1 : w1.cell? ⟨w.heap.size, 1, none⟩ = some (.int .i64 (a : Int)) := by rw [hb1.cell (by simp), World.cell?_alloc_mark]; rfl
  have hlt1 : w.heap.size < w1.heap.size := by have := hb1.size; simp at this; omega
  have hbw1 : Below w.heap.size w w1 := ((Below.refl _ _).alloc (Nat.le_refl _) _).trans (hb1.mono (by simp))
  clear hb1 H1
  go_wp2
  go_region
  go_wp2
  go_ret2
  refine ⟨?_, hbw1.drew⟩
  rw [← HT.out]; rfl

set_option maxHeartbeats 4000000 in
theorem do_none (s : ByteArray) (hs : s.size ≤ 200) (w : World) :
    Calls Try.prog 18 #[.string s, .agg #[.int .i64 3, .int .i64 0, .int .u8 0]] w fun e w' => e = .returned (.tuple #[.string s, .int .i64 0]) ∧ Below w.heap.size w w' := by
  have hch : chO (s.size : Int) (3, 0, 0) = 0 := chO_none (by omega) (by omega)
  have h1 : ∀ w, Calls Try.prog 51 #[.int .i64 (s.size : Int), .agg #[.int .i64 3, .int .i64 0, .int .u8 0]] w fun e w' => e = .returned (.int .i64 0) ∧ Below w.heap.size w w' := fun w => by
    have := checkO_any (s.size : Int) 3 0 0 w; rw [hch] at this; exact this
  have H1 := Lib.hid h1
  clear hch h1
  go_enter Try.func18, Try.ntmps18
  go_wp2_with fail
  refine (H1.out _).mono ?_
  rintro e w1 ⟨rfl, hb1⟩
  have hc0 : w1.cell? ⟨w.heap.size, 0, none⟩ = some (.int .i64 3) := by rw [hb1.cell (by simp), World.cell?_alloc_mark]; rfl
  have hlt1 : w.heap.size < w1.heap.size := by have := hb1.size; simp at this; omega
  have hbw1 : Below w.heap.size w w1 := ((Below.refl _ _).alloc (Nat.le_refl _) _).trans (hb1.mono (by simp))
  clear hb1 H1
  go_wp2
  go_ret2
  exact ⟨rfl, hbw1⟩

/-- Do, of a right op. -/
theorem do_ok (s : ByteArray) (x : Op3) (h : chO s.size x = 0) (w : World) :
    Calls Try.prog 18 #[.string s, .agg (cOp x).toArray] w fun e w' => e = .returned (.tuple #[.string (tb (doO s.data.toList x)), .int .i64 0]) ∧ Below w.heap.size w w' := by
  obtain ⟨k, a, b⟩ := x
  obtain ⟨h0, h2, hx⟩ := chO_ok h
  simp only at hx
  rcases hx with ⟨rfl, h3, h4, h5⟩ | ⟨rfl, h3, h4, rfl⟩ | ⟨rfl, rfl, rfl⟩
  · obtain ⟨a, rfl⟩ : ∃ m : Nat, a = m := ⟨a.toNat, by omega⟩
    rw [doO_put]
    exact do_put s a b (by omega) (by omega) w
  · obtain ⟨a, rfl⟩ : ∃ m : Nat, a = m := ⟨a.toNat, by omega⟩
    rw [doO_take]
    exact do_take s a (by omega) (by omega) w
  · rw [doO_none, tb_of]
    exact do_none s (by omega) w

set_option maxHeartbeats 4000000 in
theorem do_no (s : ByteArray) (x : Op3) (h : chO s.size x ≠ 0) (w : World) :
    Calls Try.prog 18 #[.string s, .agg (cOp x).toArray] w fun e w' => e = .returned (.tuple #[.string ⟨#[]⟩, .int .i64 (chO s.size x)]) ∧ Below w.heap.size w w' := by
  obtain ⟨k, a, b⟩ := x
  have H1 := Lib.hid (checkO_any (s.size : Int) k a b)
  generalize chO (s.size : Int) (k, a, b) = E at *
  have q0 : (E != 0) = true := by rw [bne_iff_ne]; exact h
  show Calls Try.prog 18 #[.string s, .agg #[.int .i64 k, .int .i64 a, .int .u8 (b.toNat : Int)]] w _
  go_enter Try.func18, Try.ntmps18
  go_wp2_with fail
  refine (H1.out _).mono ?_
  rintro e w1 ⟨rfl, hb1⟩
  have hbw1 : Below w.heap.size w w1 := ((Below.refl _ _).alloc (Nat.le_refl _) _).trans (hb1.mono (by simp))
  clear hb1 H1
  go_wp2
  go_ret2
  exact ⟨rfl, hbw1⟩

end Go.Proofs.Ytpeplkjidljpmaa
