/- slices.ContainsFunc over strings, with a closure that captures nothing. -/
import Derived.Test.YtkeeggklgdinhaaStruct
import Derived.Test.YtkeeggklgdinhaaLib
import Derived.Test.YtkeeggklgdinhaaPlain
import Derived.Test.YtkeeggklgdinhaaRows
namespace Go.Proofs.Ytkeeggklgdinhaa
open Go.RowKit
set_option linter.unusedVariables false

def firstPS (p : ByteArray → Bool) : List ByteArray → Nat → Int
  | [], _ => -1
  | x :: l, k => if p x = true then (k : Int) else firstPS p l (k + 1)
theorem firstPS_any (p : ByteArray → Bool) : ∀ (l : List ByteArray) (k : Nat), decide (0 ≤ firstPS p l k) = l.any p
  | [], k => by simp [firstPS]
  | x :: l, k => by
    unfold firstPS
    by_cases h : p x = true
    · rw [if_pos h]; simp [h]
    · rw [if_neg h, firstPS_any p l (k + 1)]; simp [h]

set_option maxHeartbeats 1000000 in
theorem indexStrF (F : Nat) (hen : ∀ (args : Array Value) (w : World), (callFunc F args).run Try.prog w = .ok (.enter F args) w) (A : Option Addr) (n c B : Nat) (l : List ByteArray) (p : ByteArray → Bool) (hl : l.length = n) (hn : n ≤ 1000000000000000) (w : World) (r : Reads w B A n 1 (l.flatMap cStr)) (hB : B ≤ w.heap.size)
    (hp : ∀ x ∈ l, ∀ w1, Below w.heap.size w w1 → Calls Try.prog F #[.string x] w1 fun e w' => e = .returned (.bool (p x)) ∧ Below w1.heap.size w1 w') :
    Calls Try.prog 19 #[.slice A n c, .func (Fn.func F) #[] #[]] w
      fun e w' => e = .returned (.int .i64 (firstPS p l 0)) ∧ Below w.heap.size w w' := by
  have Hl := Lib.hid hl
  have Hp := Lib.hid hp
  clear hl hp
  go_enter Try.func19, Try.ntmps19
  go_wp2
  go_loopw [5, 8] (fun _ i wr => ∃ k : Nat, k ≤ n ∧ i = .int .i64 k ∧ Hid (firstPS p l 0 = firstPS p (l.drop k) k) ∧ Below w.heap.size w wr) (fun _ i _ => n - (intOf i).toNat)
  case atStart => exact ⟨0, Nat.zero_le _, rfl, Lib.hid (by simp), Below.refl _ _⟩
  case round =>
    obtain ⟨k, hk, rfl, Hf, hbr⟩ := hrel
    by_cases hlt : k < n
    · obtain ⟨b, o, rfl, hbB, hc⟩ := (r.below (hbr.mono hB)).2 (by omega)
      have c0 := hc (k * 1 + 0) (by rw [flat_length cStr 1 cStr_len, Hl.out]; omega)
      have dE : ByteArray := ByteArray.empty
      rw [flat_getD cStr 1 cStr_len dE l k _ (by rw [Hl.out]; omega) (by omega)] at c0
      simp only [cStr, List.getD_cons_zero, Nat.mul_one, Nat.add_zero] at c0
      have hmem : l.getD k dE ∈ l := by rw [getD_some _ _ _ (by rw [Hl.out]; omega)]; exact List.getElem_mem _
      have hd : l.drop k = l.getD k dE :: l.drop (k + 1) := drop_getD l k dE (by rw [Hl.out]; omega)
      have Hd := Lib.hid hd
      have Hcall := Lib.hid (Hp.out _ hmem wr hbr)
      clear hd hc hmem
      generalize l.getD k dE = x at *
      by_cases h0 : p x = true
      · have hcl := Hcall.out
        rw [h0] at hcl
        have Hcl := Lib.hid hcl
        have H0 := Lib.hid h0
        clear h0 hcl
        go_wp2_with fail
        refine Hcl.out.mono ?_
        rintro e w1 ⟨rfl, hb1⟩
        go_wp2
        go_ret
        exact ⟨by rw [Hf.out, Hd.out, firstPS, if_pos H0.out]; rfl, chain hb1 hbr⟩
      · have hcl := Hcall.out
        rw [show p x = false from by simpa using h0] at hcl
        have Hcl := Lib.hid hcl
        have H0 := Lib.hid h0
        clear h0 hcl
        go_wp2_with fail
        refine Hcl.out.mono ?_
        rintro e w1 ⟨rfl, hb1⟩
        go_wp2
        go_roundw
        case rel => exact ⟨k + 1, by omega, by go_num, Lib.hid (by rw [Hf.out, Hd.out, firstPS, if_neg H0.out]), chain hb1 hbr⟩
        case measure => simp only [intOf]; omega
    · obtain rfl : k = n := by omega
      go_wp2
      go_ret
      exact ⟨by rw [Hf.out, List.drop_of_length_le (by rw [Hl.out]; omega)]; rfl, hbr⟩

set_option maxHeartbeats 1000000 in
theorem hasStrF (F : Nat) (hen : ∀ (args : Array Value) (w : World), (callFunc F args).run Try.prog w = .ok (.enter F args) w) (A : Option Addr) (n c B : Nat) (l : List ByteArray) (p : ByteArray → Bool) (hl : l.length = n) (hn : n ≤ 1000000000000000) (w : World) (r : Reads w B A n 1 (l.flatMap cStr)) (hB : B ≤ w.heap.size)
    (hp : ∀ x ∈ l, ∀ w1, Below w.heap.size w w1 → Calls Try.prog F #[.string x] w1 fun e w' => e = .returned (.bool (p x)) ∧ Below w1.heap.size w1 w') :
    Calls Try.prog 9 #[.slice A n c, .func (Fn.func F) #[] #[]] w
      fun e w' => e = .returned (.bool (l.any p)) ∧ Below w.heap.size w w' := by
  have Hr := Lib.hid (firstPS_any p l 0)
  have H1 := Lib.hid (indexStrF F hen A n c B l p hl hn w r hB hp)
  clear hp hl
  go_enter Try.func9, Try.ntmps9
  go_wp2_with fail
  refine H1.out.mono ?_
  rintro e w1 ⟨rfl, hb1⟩
  generalize firstPS p l 0 = v at *
  go_wp2
  go_ret
  exact ⟨congrArg (fun b => Ending.returned (.bool b)) Hr.out, hb1⟩
end Go.Proofs.Ytkeeggklgdinhaa
