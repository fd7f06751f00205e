/- The walk of code.Sum. -/
import Derived.Test.YtlnobikecmgocaaDoorCodeP
import Derived.Test.YtlnobikecmgocaaDoorPlain
import Derived.Test.YtlnobikecmgocaaDoorStruct
import Derived.IntWalk
namespace Go.Proofs.YtlnobikecmgocaaDoor
open Go.RowKit
set_option linter.unusedVariables false

/-- What code.Sum tells: the error, and the sum. -/
def sumE (l : List Int) : Int := if 12 < l.length then 2 else if l.all (fun x => decide (1 ≤ x) && decide (x ≤ 12)) then 0 else 1
theorem sumE_zero (l : List Int) : sumE l = 0 ↔ l.length ≤ 12 ∧ ∀ x ∈ l, 1 ≤ x ∧ x ≤ 12 := by
  unfold sumE
  by_cases h : 12 < l.length
  · rw [if_pos h]; constructor
    · intro h; cases h
    · intro h; omega
  · rw [if_neg h]
    by_cases h2 : l.all (fun x => decide (1 ≤ x) && decide (x ≤ 12)) = true
    · rw [if_pos h2]
      rw [List.all_eq_true] at h2
      exact ⟨fun _ => ⟨by omega, fun x hx => by simpa using h2 x hx⟩, fun _ => rfl⟩
    · rw [if_neg h2]; constructor
      · intro h; cases h
      · rintro ⟨_, h3⟩
        exact absurd (List.all_eq_true.2 fun x hx => by simpa using h3 x hx) h2
theorem sumE_one {l : List Int} (h : l.length ≤ 12) {x : Int} (hx : x ∈ l) (h2 : x < 1 ∨ 12 < x) : sumE l = 1 := by
  unfold sumE
  rw [if_neg (by omega), if_neg]
  intro h3
  have := List.all_eq_true.1 h3 x hx
  simp at this
  omega
def nats (l : List Int) : List Nat := l.map Int.toNat
def sumV (l : List Int) : Int := if sumE l = 0 then (kr 12 (nats l) : Int) else 0
theorem kr_le (L : Nat) : ∀ l : List Nat, kr L l ≤ l.length * 2 ^ L
  | [] => by simp [kr]
  | n :: l => by
    have := kr_le L l
    have h2 : 2 ^ (L - n) ≤ 2 ^ L := Nat.pow_le_pow_right (by decide) (Nat.sub_le _ _)
    rw [kr, List.length_cons, Nat.add_mul, Nat.one_mul]; omega

set_option maxHeartbeats 1000000 in
theorem codeSum_any (A : Option Addr) (n c B : Nat) (l : List Int) (w : World) (hn : n ≤ 1125899906842624) (hl : l.length = n) (h : Reads w B A n 1 (l.flatMap cInt)) :
    Calls Tryd.prog 21 #[.slice A n c] w fun e w' => e = .returned (.tuple #[.int .i64 (sumV l), .int .i64 (sumE l)]) ∧ w = w' := by
  have Hl := Lib.hid hl
  by_cases hn2 : n ≤ 12
  case neg =>
    have e0 : sumE l = 2 := by unfold sumE; rw [if_pos (by omega)]
    have e1 : sumV l = 0 := by unfold sumV; rw [if_neg (by rw [e0]; decide)]
    rw [e0, e1]
    have q1 : decide ((12 : Int) < (n : Int)) = true := decide_eq_true (by omega)
    have q1' : decide (12 < n) = true := decide_eq_true (by omega)
    go_enter Tryd.func21, Tryd.ntmps21
    go_wp2
    go_ret2
    exact ⟨rfl, rfl⟩
  clear hl
  have q1 : decide ((12 : Int) < (n : Int)) = false := decide_eq_false (by omega)
  have q1' : decide (12 < n) = false := decide_eq_false (by omega)
  obtain ⟨E, hE⟩ : ∃ E, E = sumE l := ⟨_, rfl⟩
  obtain ⟨V, hV⟩ : ∃ V, V = sumV l := ⟨_, rfl⟩
  rw [← hE, ← hV]
  have HE := Lib.hid hE
  have HV := Lib.hid hV
  clear hE hV
  go_enter Tryd.func21, Tryd.ntmps21
  go_wp2
  go_loopw [4, 6, 12] (fun sv _ i wr => ∃ k : Nat, k ≤ n ∧ i = .int .i64 k ∧ sv = .int .i64 ((kr 12 (nats (l.take k)) : Nat) : Int) ∧ wr = w ∧ Hid (∀ x ∈ l.take k, 1 ≤ x ∧ x ≤ 12)) (fun _ _ i _ => n - (intOf i).toNat)
  case atStart => exact ⟨0, Nat.zero_le _, rfl, by simp [nats, kr], rfl, Lib.hid (by simp)⟩
  case round =>
    obtain ⟨k, hk, rfl, rfl, rfl, Hin⟩ := hrel
    by_cases hlt : k < n
    · obtain ⟨b, o, rfl, hbB, hc⟩ := h.2 (by omega)
      have c0 := hc (k * 1 + 0) (by rw [flat_length cInt 1 cInt_len, Hl.out]; omega)
      rw [flat_getD cInt 1 cInt_len 0 l k _ (by rw [Hl.out]; omega) (by omega)] at c0
      simp only [cInt, List.getD_cons_zero, Nat.mul_one, Nat.add_zero] at c0
      have hts := take_succ_getD l k 0 (by rw [Hl.out]; omega)
      have hmem : l.getD k 0 ∈ l := by rw [getD_some _ _ _ (by rw [Hl.out]; omega)]; exact List.getElem_mem _
      have hsm := kr_le 12 (nats (l.take k))
      rw [show (nats (l.take k)).length = k from by simp [nats, Hl.out]; omega, show (2 : Nat) ^ 12 = 4096 from by decide] at hsm
      have hs2 : kr 12 (nats (l.take (k + 1))) = kr 12 (nats (l.take k)) + 2 ^ (12 - (l.getD k 0).toNat) := by rw [hts]; unfold nats; rw [List.map_append, kr_app]; simp [kr]
      have Hts := Lib.hid hts
      have Hmem := Lib.hid hmem
      have Hs2 := Lib.hid hs2
      clear hc hts hmem h hs2
      generalize l.getD k 0 = x at *
      generalize hS : kr 12 (nats (l.take k)) = S at *
      have HS := Lib.hid hS
      clear hS
      by_cases hx : x < 1
      · have q2 : decide (x < 1) = true := decide_eq_true hx
        obtain rfl : E = 1 := by rw [HE.out]; exact sumE_one (by rw [Hl.out]; exact hn2) Hmem.out (.inl hx)
        obtain rfl : V = 0 := by rw [HV.out]; unfold sumV; rw [if_neg (by rw [← HE.out]; decide)]
        go_wp2
        go_ret2
        exact ⟨rfl, rfl⟩
      · have q2 : decide (x < 1) = false := decide_eq_false hx
        by_cases hx2 : 12 < x
        · have q3 : decide (12 < x) = true := decide_eq_true hx2
          obtain rfl : E = 1 := by rw [HE.out]; exact sumE_one (by rw [Hl.out]; exact hn2) Hmem.out (.inr hx2)
          obtain rfl : V = 0 := by rw [HV.out]; unfold sumV; rw [if_neg (by rw [← HE.out]; decide)]
          go_wp2
          go_ret2
          exact ⟨rfl, rfl⟩
        · have q3 : decide (12 < x) = false := decide_eq_false hx2
          obtain ⟨m, hxm, hm⟩ : ∃ m : Nat, x = 12 - (m : Int) ∧ m ≤ 11 := ⟨12 - x.toNat, by omega⟩
          subst hxm
          go_wp2
          go_roundw
          case rel =>
            refine ⟨k + 1, by omega, by go_num, ?_, trivial, Lib.hid fun y hy => ?_⟩
            · have e1 : (12 - (12 - (m : Int)).toNat) = m := by omega
              rw [e1] at Hs2
              have e2 : 2 ^ m ≤ 2048 := (show (2 : Nat) ^ 11 = 2048 from by decide) ▸ Nat.pow_le_pow_right (n := 2) (by decide) hm
              have e3 : ((2 : Int) ^ (12 - (12 - m))) = ((2 ^ m : Nat) : Int) := by rw [show 12 - (12 - m) = m from by omega]; simp
              rw [Hs2.out, e3]
              generalize 2 ^ m = p at *
              congr 1
              have hS1 : S ≤ 49152 := by omega
              clear hsm
              rw [IntWalk.wrap64_in (p : Int) (by omega), IntWalk.wrap64_in _ (by omega)]
              omega
            · rw [Hts.out, List.mem_append, List.mem_singleton] at hy
              rcases hy with hy | rfl
              · exact Hin.out y hy
              · omega
          case measure => simp [intOf]; omega
    · obtain rfl : k = n := by omega
      have e : l.take k = l := List.take_of_length_le (by rw [Hl.out]; omega)
      rw [e] at Hin
      obtain rfl : E = 0 := by rw [HE.out]; exact (sumE_zero l).2 ⟨by rw [Hl.out]; exact hn2, Hin.out⟩
      have : V = ((kr 12 (nats l) : Nat) : Int) := by rw [HV.out]; unfold sumV; rw [if_pos HE.out.symm]
      rw [e, ← this]
      go_wp2
      go_ret2
      exact ⟨rfl, rfl⟩
end Go.Proofs.YtlnobikecmgocaaDoor
