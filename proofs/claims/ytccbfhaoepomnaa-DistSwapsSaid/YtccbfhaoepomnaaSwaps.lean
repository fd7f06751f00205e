/- The walk of dist.Swaps at two texts of one length, and the Hamming distance. -/
import Derived.Test.YtccbfhaoepomnaaDist
import Derived.Test.YtccbfhaoepomnaaBack
namespace Go.Proofs.Ytccbfhaoepomnaa
open Go.RowKit
set_option linter.unusedVariables false

/-- At how many of the first k places both are unlike. -/
def hamN (a b : List UInt8) : Nat → Nat
  | 0 => 0
  | k + 1 => hamN a b k + ne1 (a.getD k 0) (b.getD k 0)
theorem hamN_le (a b : List UInt8) : ∀ k, hamN a b k ≤ k
  | 0 => Nat.le_refl _
  | k + 1 => by have := hamN_le a b k; have := ne1_le (a.getD k 0) (b.getD k 0); rw [hamN]; omega
theorem hamN_tri (a b c : List UInt8) : ∀ k, hamN a c k ≤ hamN a b k + hamN b c k
  | 0 => Nat.le_refl _
  | k + 1 => by have := hamN_tri a b c k; have := ne1_tri (a.getD k 0) (b.getD k 0) (c.getD k 0); rw [hamN, hamN, hamN]; omega
theorem lev_le_hamN (a b : List UInt8) : ∀ k, k ≤ a.length → k ≤ b.length → lev (a.take k) (b.take k) ≤ hamN a b k
  | 0, _, _ => by simp [hamN, lev_nil_left]
  | k + 1, ha, hb => by
    have h := lev_le_hamN a b k (by omega) (by omega)
    rw [take_succ_getD a k 0 (by omega), take_succ_getD b k 0 (by omega), hamN]
    have h1 := lev_append (a.take k) (b.take k) [a.getD k 0] [b.getD k 0]
    have h2 : lev [a.getD k 0] [b.getD k 0] ≤ ne1 (a.getD k 0) (b.getD k 0) := by have := lev_both_le (a.getD k 0) (b.getD k 0) [] []; rw [lev_nil_left] at this; simpa using this
    omega
theorem hamN_zero (a b : List UInt8) : ∀ k, k ≤ a.length → k ≤ b.length → (hamN a b k = 0 ↔ a.take k = b.take k)
  | 0, _, _ => by simp [hamN]
  | k + 1, ha, hb => by
    have ih := hamN_zero a b k (by omega) (by omega)
    rw [take_succ_getD a k 0 (by omega), take_succ_getD b k 0 (by omega), hamN]
    constructor
    · intro h
      have h1 := ih.1 (by omega)
      have h2 : a.getD k 0 = b.getD k 0 := by
        by_cases e : a.getD k 0 = b.getD k 0
        · exact e
        · exfalso
          have h3 : ne1 (a.getD k 0) (b.getD k 0) = 0 := by omega
          unfold ne1 at h3; rw [if_neg e] at h3; cases h3
      rw [h1, h2]
    · intro h
      obtain ⟨h1, h2⟩ := List.append_inj h (by rw [List.length_take, List.length_take]; omega)
      have h3 := ih.2 h1
      injection h2 with h2 _
      rw [h3, h2, ne1_self]

set_option maxHeartbeats 1000000 in
theorem swaps_ok (a b : ByteArray) (hab : a.size = b.size) (ha : a.size ≤ 200) (w : World) :
    Calls Try.prog 25 #[.string a, .string b] w fun e w' => e = .returned (.tuple #[.int .i64 (hamN a.data.toList b.data.toList a.size : Nat), .int .i64 0]) ∧ Below w.heap.size w w' := by
  have q0 : (a.size != b.size) = false := by rw [hab]; simp
  have q0' : ((a.size : Int) != (b.size : Int)) = false := by rw [hab]; simp
  have H1 := Lib.hid (sameCheck_ok a b ha (by omega))
  have Hab := Lib.hid hab
  clear hab
  go_enter Try.func25, Try.ntmps25
  go_wp2_with fail
  refine (H1.out _).mono ?_
  rintro e w1 ⟨rfl, rfl⟩
  go_wp2
  go_loopw [7, 8, 22] (fun nv _ i wr => ∃ k : Nat, k ≤ a.size ∧ i = .int .i64 k ∧ nv = .int .i64 (hamN a.data.toList b.data.toList k : Nat) ∧ Below w.heap.size w wr) (fun _ _ i _ => a.size - (intOf i).toNat)
  case atStart => exact ⟨0, Nat.zero_le _, rfl, rfl, Below.refl _ _⟩
  case round =>
    obtain ⟨k, hk, rfl, rfl, hbr⟩ := hrel
    by_cases hlt : k < a.size
    · have hlt2 : k < b.size := by have := Hab.out; omega
      have hn := hamN_le a.data.toList b.data.toList k
      have hs : hamN a.data.toList b.data.toList (k + 1) = hamN a.data.toList b.data.toList k + ne1 a[k] b[k] := by rw [hamN, getD_bytes a k hlt, getD_bytes b k hlt2]
      have Hs := Lib.hid hs
      clear hs
      generalize hN : hamN a.data.toList b.data.toList k = N at *
      have HN := Lib.hid hN
      clear hN
      by_cases heq : a[k] = b[k]
      · have hne : ((a[k].toNat : Int) != (b[k].toNat : Int)) = false := by rw [heq]; simp
        have Heq := Lib.hid heq
        clear heq
        go_wp2
        go_quiet (fail)
        go_wp2
        go_roundw
        case rel => exact ⟨k + 1, by omega, by go_num, by rw [Hs.out, Heq.out, ne1_self, Nat.add_zero], below_drewN hbr _⟩
        case measure => simp [intOf]; omega
      · have hne : ((a[k].toNat : Int) != (b[k].toNat : Int)) = true := by rw [bne_iff_ne]; intro h; exact heq (UInt8.toNat_inj.1 (by omega))
        have Heq : Hid (ne1 a[k] b[k] = 1) := by show ne1 _ _ = 1; unfold ne1; rw [if_neg heq]
        clear heq
        go_wp2
        go_quiet (fail)
        go_wp2
        go_roundw
        case rel => exact ⟨k + 1, by omega, by go_num, by rw [Hs.out, Heq.out]; go_num, below_drewN hbr _⟩
        case measure => simp [intOf]; omega
    · obtain rfl : k = a.size := by omega
      go_wp2
      go_ret2
      exact ⟨rfl, hbr⟩

set_option maxHeartbeats 400000 in
theorem swaps_no (a b : ByteArray) (h : 200 < a.size) (w : World) :
    Calls Try.prog 25 #[.string a, .string b] w fun e w' => e = .returned (.tuple #[.int .i64 0, .int .i64 2]) ∧ w = w' := by
  go_enter Try.func25, Try.ntmps25
  go_wp2_with fail
  refine (sameCheck_no a b (.inl h) _).mono ?_
  rintro e w1 ⟨rfl, rfl⟩
  go_wp2
  go_ret2
  exact ⟨rfl, rfl⟩

end Go.Proofs.Ytccbfhaoepomnaa
