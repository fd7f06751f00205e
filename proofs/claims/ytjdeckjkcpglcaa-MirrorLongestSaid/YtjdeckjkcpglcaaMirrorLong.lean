/- The walk of mirror.Longest. -/
import Derived.Test.YtjdeckjkcpglcaaMirrorQ
import Derived.Test.YtjdeckjkcpglcaaArms
import Derived.Test.YtjdeckjkcpglcaaStruct
import Derived.IntWalk
namespace Go.Proofs.Ytjdeckjkcpglcaa
open Go.RowKit
set_option linter.unusedVariables false

/-- A longest arm among the first k middles: it is 0, or stands at a middle below k. -/
structure BestArm (f : Nat → Nat) (k a n : Nat) : Prop where
  most : ∀ j, j < k → f j ≤ n
  at_ : n = 0 ∧ a = 0 ∨ ∃ j, j < k ∧ f j = n ∧ a = (j - n) / 2
theorem mirrorArms_cell {w : World} {g n : Nat} {l : List Int} (h : IntsAt w g l) (hl : l.length = n) {j : Nat} (hj : j < n) : w.cell? ⟨g, j, none⟩ = some (.int .i64 (l.getD j 0)) := (h.2 j (by omega)).1

set_option maxRecDepth 100000 in
set_option maxHeartbeats 2000000 in
theorem longest_ok (s : ByteArray) (hs : s.size ≤ 200) (w : World) :
    Calls Try.prog 5 #[.string s] w fun e w' => ∃ (f : Nat → Nat) (a n : Nat), (∀ k, k < 2 * s.size + 1 → IsArm s.data.toList k (f k)) ∧ BestArm f (2 * s.size + 1) a n ∧ e = .returned (.tuple #[.string (s.extract a (a + n)), .int .i64 0]) ∧ Below w.heap.size w w' := by
  have HA := Lib.hid (arms_ok s hs)
  go_enter Try.func5, Try.ntmps5
  go_wp2_with fail
  refine (HA.out _).mono ?_
  rintro e w1 ⟨g, l, rfl, hl, hat, hv, hb1⟩
  obtain ⟨f, hf⟩ : ∃ f : Nat → Nat, ∀ j, f j = (l.getD j 0).toNat := ⟨fun j => (l.getD j 0).toNat, fun _ => rfl⟩
  have hfa : ∀ k, k < 2 * s.size + 1 → IsArm s.data.toList k (f k) ∧ l.getD k 0 = (f k : Int) := fun k hk => by
    obtain ⟨n, h1, h2⟩ := hv k hk
    have e : f k = n := by rw [hf, h1]; simp
    rw [e]
    exact ⟨h2, h1⟩
  obtain ⟨N, hN⟩ : ∃ N, N = 2 * s.size + 1 := ⟨_, rfl⟩
  rw [← hN] at hl hfa ⊢
  have Hfa := Lib.hid hfa
  have HN := Lib.hid hN
  have Hl := Lib.hid hl
  have hNb : N ≤ 401 := by omega
  clear HA hv hf hfa hl hN
  go_wp2
  go_loopw [6, 7, 8, 9, 20] (fun av nv _ _ iv wr => ∃ k a n : Nat, k ≤ N ∧ iv = .int .i64 k ∧ av = .int .i64 a ∧ nv = .int .i64 n ∧ a ≤ 400 ∧ n ≤ 400 ∧ Hid (BestArm f k a n) ∧ wr = w1) (fun _ _ _ _ iv _ => N - (intOf iv).toNat)
  case atStart => exact ⟨0, 0, 0, Nat.zero_le _, rfl, rfl, rfl, Nat.zero_le _, Nat.zero_le _, Lib.hid ⟨fun j hj => by omega, .inl ⟨rfl, rfl⟩⟩, rfl⟩
  case round =>
    obtain ⟨k, a, n, hk, rfl, rfl, rfl, ha, hn, Hb, rfl⟩ := hrel
    by_cases hlt : k < N
    · have c0 := mirrorArms_cell hat Hl.out hlt
      obtain ⟨hia, hle⟩ := Hfa.out k hlt
      rw [hle] at c0
      have hbd := isArm_bd hia
      rw [show s.data.toList.length = s.size from rfl] at hbd
      have hx4 : f k ≤ k := hbd.1
      clear hia hle hbd
      by_cases hbig : n < f k
      case' pos =>
        have hnew : BestArm f (k + 1) ((k - f k) / 2) (f k) := by
          refine ⟨fun j hj => ?_, .inr ⟨k, by omega, rfl, rfl⟩⟩
          rcases Nat.lt_or_ge j k with h1 | h1
          · have := Hb.out.most j h1; omega
          · obtain rfl : j = k := by omega
            exact Nat.le_refl _
        have Hnew := Lib.hid hnew
        clear hnew
        generalize f k = x at *
        have q1 : decide ((n : Int) < (x : Int)) = true := decide_eq_true (by omega)
        have q1' : decide (n < x) = true := decide_eq_true hbig
        have e1 : ((k : Int) - (x : Int)).tdiv 2 = (((k - x) / 2 : Nat) : Int) := by rw [Int.tdiv_eq_ediv_of_nonneg (by omega)]; omega
        have e1' : ((k : Int) - (x : Int)) / 2 = (((k - x) / 2 : Nat) : Int) := by omega
        have hz : (k - x) / 2 ≤ 400 := by omega
        generalize (k - x) / 2 = z at *
        go_wp2
        go_roundw
        case rel => exact ⟨k + 1, z, x, by omega, by go_num, rfl, rfl, hz, by omega, Lib.hid Hnew.out, trivial⟩
        case measure => simp [intOf]; omega
      case' neg =>
        have hnew : BestArm f (k + 1) a n := by
          refine ⟨fun j hj => ?_, ?_⟩
          · rcases Nat.lt_or_ge j k with h1 | h1
            · exact Hb.out.most j h1
            · obtain rfl : j = k := by omega
              omega
          · rcases Hb.out.at_ with h1 | ⟨j, h1, h2, h3⟩
            · exact .inl h1
            · exact .inr ⟨j, by omega, h2, h3⟩
        have Hnew := Lib.hid hnew
        clear hnew
        generalize f k = x at *
        have q1 : decide ((n : Int) < (x : Int)) = false := decide_eq_false (by omega)
        have q1' : decide (n < x) = false := decide_eq_false hbig
        go_wp2
        go_roundw
        case rel => exact ⟨k + 1, a, n, by omega, by go_num, rfl, rfl, ha, hn, Lib.hid Hnew.out, trivial⟩
        case measure => simp [intOf]; omega
    · obtain rfl : k = N := by omega
      have han : a + n ≤ s.size := by
        rcases Hb.out.at_ with ⟨h1, h2⟩ | ⟨j, h1, h2, h3⟩
        · omega
        · have := isArm_bd (Hfa.out j h1).1
          rw [show s.data.toList.length = s.size from rfl, h2] at this
          omega
      obtain ⟨p, hp⟩ : ∃ p, p = a + n := ⟨_, rfl⟩
      have wp : IntKind.i64.wrap ((a : Int) + (n : Int)) = (p : Int) := by rw [hp]; rw [IntKind.wrap_i64]; omega
      have h1 : a ≤ p := by omega
      have h2 : p ≤ s.size := by omega
      have h1' : (a : Int) ≤ p := by omega
      have h2' : (p : Int) ≤ s.size := by omega
      have HP := Lib.hid hp
      clear hp
      go_wp2
      go_ret2
      exact ⟨f, a, n, fun j hj => (Hfa.out j (by rw [HN.out]; exact hj)).1, by rw [← HN.out]; exact Hb.out, by rw [← HP.out]; rfl, hb1⟩
theorem longest_no (s : ByteArray) (hs : 200 < s.size) (w : World) :
    Calls Try.prog 5 #[.string s] w fun e w' => e = .returned (.tuple #[.string ⟨#[]⟩, .int .i64 2]) ∧ w = w' := by
  have HA := Lib.hid (arms_no s hs)
  go_enter Try.func5, Try.ntmps5
  go_wp2_with fail
  refine (HA.out _).mono ?_
  rintro e w1 ⟨rfl, rfl⟩
  go_wp2
  go_ret2
  exact ⟨rfl, rfl⟩
end Go.Proofs.Ytjdeckjkcpglcaa
