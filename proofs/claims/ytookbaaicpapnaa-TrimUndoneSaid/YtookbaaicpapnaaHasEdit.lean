/- The walk of slices.ContainsFunc over edits, whatever the test captures. -/
import Derived.Test.YtookbaaicpapnaaTrimTwo
namespace Go.Proofs.Ytookbaaicpapnaa
open Go.RowKit
set_option linter.unusedVariables false

/-- Where the first that passes stands, or -1. -/
def firstP (p : Ed → Bool) : List Ed → Nat → Int
  | [], _ => -1
  | x :: l, k => if p x = true then (k : Int) else firstP p l (k + 1)
theorem firstP_any (p : Ed → Bool) : ∀ (l : List Ed) (k : Nat), decide (0 ≤ firstP p l k) = l.any p
  | [], k => by simp [firstP]
  | x :: l, k => by
    unfold firstP
    by_cases h : p x = true
    · rw [if_pos h]; simp [h]
    · rw [if_neg h, firstP_any p l (k + 1)]; simp [h]

set_option maxHeartbeats 1000000 in
theorem indexEdit (F : Nat) (hen : ∀ (args : Array Value) (w : World), (callFunc F args).run Try.prog w = .ok (.enter F args) w) (cap : Value) (A : Option Addr) (n c B : Nat) (l : List Ed) (p : Ed → Bool) (hl : l.length = n) (hn : n ≤ 1000000000000000) (w : World) (r : Reads w B A n 3 (l.flatMap cEdit)) (hB : B ≤ w.heap.size)
    (hp : ∀ x ∈ l, ∀ w1, Below w.heap.size w w1 → Calls Try.prog F #[.agg #[.int .i64 x.1, .int .i64 x.2.1, .string x.2.2], cap] w1 fun e w' => e = .returned (.bool (p x)) ∧ Below w1.heap.size w1 w') :
    Calls Try.prog 52 #[.slice A n c, .func (Fn.func F) #[] #[cap]] w
      fun e w' => e = .returned (.int .i64 (firstP p l 0)) ∧ Below w.heap.size w w' := by
  have Hl := Lib.hid hl
  have Hp := Lib.hid hp
  clear hl hp
  go_enter Try.func52, Try.ntmps52
  go_wp2
  go_loopw [5, 8] (fun _ i wr => ∃ k : Nat, k ≤ n ∧ i = .int .i64 k ∧ Hid (firstP p l 0 = firstP p (l.drop k) k) ∧ Below w.heap.size w wr) (fun _ i _ => n - (intOf i).toNat)
  case atStart => exact ⟨0, Nat.zero_le _, rfl, Lib.hid (by simp), Below.refl _ _⟩
  case round =>
    obtain ⟨k, hk, rfl, Hf, hbr⟩ := hrel
    by_cases hlt : k < n
    · obtain ⟨b, o, rfl, hbB, hc⟩ := (r.below (hbr.mono hB)).2 (by omega)
      have c0 := hc (k * 3 + 0) (by rw [flat_length cEdit 3 cEdit_len, Hl.out]; omega)
      have c1 := hc (k * 3 + 1) (by rw [flat_length cEdit 3 cEdit_len, Hl.out]; omega)
      have c2 := hc (k * 3 + 2) (by rw [flat_length cEdit 3 cEdit_len, Hl.out]; omega)
      have dE : Ed := (0, 0, ByteArray.empty)
      rw [flat_getD cEdit 3 cEdit_len dE l k _ (by rw [Hl.out]; omega) (by omega)] at c0 c1 c2
      simp only [cEdit, List.getD_cons_zero, List.getD_cons_succ, Nat.add_zero, ← Nat.add_assoc] at c0 c1 c2
      have hmem : l.getD k dE ∈ l := by rw [getD_some _ _ _ (by rw [Hl.out]; omega)]; exact List.getElem_mem _
      have hd : l.drop k = l.getD k dE :: l.drop (k + 1) := drop_getD l k dE (by rw [Hl.out]; omega)
      have Hd := Lib.hid hd
      have Hcall := Lib.hid (Hp.out _ hmem wr hbr)
      clear hd hc hmem
      generalize l.getD k dE = x at *
      obtain ⟨at_, del, ins⟩ := x
      simp only at c0 c1 c2
      have hbd := buildEdit
      by_cases h0 : p (at_, del, ins) = true
      · have hcl := Hcall.out
        rw [h0] at hcl
        simp only at hcl
        have Hcl := Lib.hid hcl
        have H0 := Lib.hid h0
        clear h0 hcl
        rcases Nat.eq_zero_or_pos k with k0 | k0
        · subst k0
          simp only [Nat.zero_mul, Nat.add_zero] at c0 c1 c2
          go_wp2_with fail
          refine Hcl.out.mono ?_
          rintro e w1 ⟨rfl, hb1⟩
          go_wp2
          go_ret
          exact ⟨by rw [Hf.out, Hd.out, firstP, if_pos H0.out]; rfl, chain hb1 hbr⟩
        · go_wp2_with fail
          refine Hcl.out.mono ?_
          rintro e w1 ⟨rfl, hb1⟩
          go_wp2
          go_ret
          exact ⟨by rw [Hf.out, Hd.out, firstP, if_pos H0.out]; rfl, chain hb1 hbr⟩
      · have hcl := Hcall.out
        rw [show p (at_, del, ins) = false from by simpa using h0] at hcl
        simp only at hcl
        have Hcl := Lib.hid hcl
        have H0 := Lib.hid h0
        clear h0 hcl
        rcases Nat.eq_zero_or_pos k with k0 | k0
        · subst k0
          simp only [Nat.zero_mul, Nat.add_zero] at c0 c1 c2
          go_wp2_with fail
          refine Hcl.out.mono ?_
          rintro e w1 ⟨rfl, hb1⟩
          go_wp2
          go_roundw
          case rel => exact ⟨1, by omega, by go_num, Lib.hid (by rw [Hf.out, Hd.out, firstP, if_neg H0.out]), chain hb1 hbr⟩
          case measure => simp only [intOf]; omega
        · go_wp2_with fail
          refine Hcl.out.mono ?_
          rintro e w1 ⟨rfl, hb1⟩
          go_wp2
          go_roundw
          case rel => exact ⟨k + 1, by omega, by go_num, Lib.hid (by rw [Hf.out, Hd.out, firstP, if_neg H0.out]), chain hb1 hbr⟩
          case measure => simp only [intOf]; omega
    · obtain rfl : k = n := by omega
      go_wp2
      go_ret
      exact ⟨by rw [Hf.out, List.drop_of_length_le (by rw [Hl.out]; omega)]; rfl, hbr⟩

set_option maxHeartbeats 1000000 in
theorem hasEdit (F : Nat) (hen : ∀ (args : Array Value) (w : World), (callFunc F args).run Try.prog w = .ok (.enter F args) w) (cap : Value) (A : Option Addr) (n c B : Nat) (l : List Ed) (p : Ed → Bool) (hl : l.length = n) (hn : n ≤ 1000000000000000) (w : World) (r : Reads w B A n 3 (l.flatMap cEdit)) (hB : B ≤ w.heap.size)
    (hp : ∀ x ∈ l, ∀ w1, Below w.heap.size w w1 → Calls Try.prog F #[.agg #[.int .i64 x.1, .int .i64 x.2.1, .string x.2.2], cap] w1 fun e w' => e = .returned (.bool (p x)) ∧ Below w1.heap.size w1 w') :
    Calls Try.prog 28 #[.slice A n c, .func (Fn.func F) #[] #[cap]] w
      fun e w' => e = .returned (.bool (l.any p)) ∧ Below w.heap.size w w' := by
  have Hr := Lib.hid (firstP_any p l 0)
  have H1 := Lib.hid (indexEdit F hen cap A n c B l p hl hn w r hB hp)
  clear hp hl
  go_enter Try.func28, Try.ntmps28
  go_wp2_with fail
  refine H1.out.mono ?_
  rintro e w1 ⟨rfl, hb1⟩
  generalize firstP p l 0 = v at *
  go_wp2
  go_ret
  exact ⟨congrArg (fun b => Ending.returned (.bool b)) Hr.out, hb1⟩
end Go.Proofs.Ytookbaaicpapnaa
