/- The walks of rope.Text and rope.At. -/
import Derived.Test.YtkeeggklgdinhaaRopeCheck
import Derived.Test.YtkeeggklgdinhaaLaidJoin
namespace Go.Proofs.Ytkeeggklgdinhaa
open Go.RowKit
set_option linter.unusedVariables false

/-- The cells of a row of strings, as strings.Join asks them. -/
theorem reads_cells {w : World} {B n b o : Nat} {l : List ByteArray} (r : Reads w B (some ⟨b, o, none⟩) n 1 (l.flatMap cStr)) (hl : l.length = n) (hn : 0 < n) : b < B ∧ ∀ (j : Nat) x, l[j]? = some x → w.cell? ⟨b, o + j, none⟩ = some (.string x) := by
  obtain ⟨b', o', he, hbB, hc⟩ := r.2 hn
  cases he
  refine ⟨hbB, fun j x hx => ?_⟩
  have hj : j < l.length := by
    rcases Nat.lt_or_ge j l.length with h | h
    · exact h
    · exact absurd (hx.symm.trans (List.getElem?_eq_none h)) (by simp)
  have hx' : l.getD j ByteArray.empty = x := by rw [List.getD_eq_getElem?_getD, hx]; rfl
  have c0 := hc (j * 1 + 0) (by rw [flat_length cStr 1 cStr_len]; omega)
  rw [flat_getD cStr 1 cStr_len ByteArray.empty l j _ hj (by omega), hx'] at c0
  simpa only [cStr, List.getD_cons_zero, Nat.mul_one, Nat.add_zero] using c0

theorem text_ok (A : Option Addr) (n c B : Nat) (l : List ByteArray) (hl : l.length = n) (hnc : n ≤ c) (hz : ∀ p ∈ l, p.size ≤ 140737488355328) (w : World) (r : Reads w B A n 1 (l.flatMap cStr)) (hB : B ≤ w.heap.size) (hok : checkR l = 0) :
    Calls Try.prog 16 #[ropeV A n c] w fun e w' => e = .returned (.tuple #[.string ⟨(txt l).toArray⟩, .int .i64 0]) ∧ Below w.heap.size w w' := by
  obtain ⟨k1, k2, k3⟩ := (checkR_iff l).1 hok
  have hb0 : Below w.heap.size w (w.alloc (Obj.cells #[.slice A n c] 24)) := (Below.refl _ _).alloc (Nat.le_refl _) _
  have hg0 := Blk.new w 24 #[.slice A n c]
  have h1 := rcheck_any A n c B l hl (by omega) hz (w.alloc (Obj.cells #[.slice A n c] 24)) (r.below (hb0.mono hB)) (Nat.le_trans hB hb0.size)
  rw [hok] at h1
  have H1 := Lib.hid h1
  have cg : (w.alloc (Obj.cells #[.slice A n c] 24)).cell? ⟨w.heap.size, 0, none⟩ = some (.slice A n c) := hg0.cell 0
  have hJ : ∀ w1, Below w.heap.size w w1 → Calls Try.prog 23 #[.slice A n c, .string ⟨#[]⟩] w1 fun e w' => e = .returned (.string ⟨(txt l).toArray⟩) ∧ Below w1.heap.size w1 w' := fun w1 hw1 => by
    rcases Nat.eq_zero_or_pos n with h0 | h0
    · subst h0
      obtain rfl : l = [] := List.eq_nil_of_length_eq_zero hl
      refine (join_none A c ⟨#[]⟩ w1).mono ?_
      rintro e w2 ⟨rfl, rfl⟩
      exact ⟨rfl, Below.refl _ _⟩
    · have r1 := r.below (hw1.mono hB)
      obtain ⟨b, o, rfl, hbB, _⟩ := r1.2 h0
      obtain ⟨_, hc⟩ := reads_cells r1 hl h0
      have hj := join_any b o c l ⟨#[]⟩ w1 hc (by have := hw1.size; omega) (by omega) (by omega)
      rw [show (⟨#[]⟩ : ByteArray).data.toList = [] from rfl, join_txt] at hj
      rw [hl] at hj
      exact hj (by omega)
  have HJ := Lib.hid hJ
  clear hJ h1 r hl hz k1 k2 k3
  go_enter Try.func16, Try.ntmps16
  go_wp2_with fail
  refine H1.out.mono ?_
  rintro e w1 ⟨rfl, hb1⟩
  have cg1 := (hg0.after hb1).cell 0
  have hbw1 := chain hb1 hb0
  go_wp2_with fail
  refine (HJ.out w1 hbw1).mono ?_
  rintro e w2 ⟨rfl, hb2⟩
  go_wp2
  go_ret2
  exact ⟨rfl, chain hb2 hbw1⟩

theorem text_no (A : Option Addr) (n c B : Nat) (l : List ByteArray) (hl : l.length = n) (hn : n ≤ 1000000000000000) (hz : ∀ p ∈ l, p.size ≤ 140737488355328) (w : World) (r : Reads w B A n 1 (l.flatMap cStr)) (hB : B ≤ w.heap.size) (hno : checkR l ≠ 0) :
    Calls Try.prog 16 #[ropeV A n c] w fun e w' => e = .returned (.tuple #[.string ⟨#[]⟩, .int .i64 (checkR l)]) ∧ Below w.heap.size w w' := by
  have hb0 : Below w.heap.size w (w.alloc (Obj.cells #[.slice A n c] 24)) := (Below.refl _ _).alloc (Nat.le_refl _) _
  have hg0 := Blk.new w 24 #[.slice A n c]
  have h1 := rcheck_any A n c B l hl hn hz (w.alloc (Obj.cells #[.slice A n c] 24)) (r.below (hb0.mono hB)) (Nat.le_trans hB hb0.size)
  have cg : (w.alloc (Obj.cells #[.slice A n c] 24)).cell? ⟨w.heap.size, 0, none⟩ = some (.slice A n c) := hg0.cell 0
  have q1 : (checkR l != 0) = true := by simpa using hno
  generalize checkR l = E at *
  have H1 := Lib.hid h1
  clear h1 r hl hz hno
  go_enter Try.func16, Try.ntmps16
  go_wp2_with fail
  refine H1.out.mono ?_
  rintro e w1 ⟨rfl, hb1⟩
  have hbw1 := chain hb1 hb0
  go_wp2
  go_ret2
  exact ⟨rfl, hbw1⟩

theorem getD_at (t : ByteArray) (j : Nat) (h : j < t.size) : t.data.toList.getD j 0 = t[j] := by
  rw [getD_some _ _ _ (by show j < t.size; exact h)]; rfl
/-- What 'At' answers. -/
def atF : Option UInt8 → UInt8 × Int
  | some b => (b, 0)
  | none => (0, 1)
def atV (i : Int) (l : List ByteArray) : UInt8 × Int := if checkR l ≠ 0 then (0, checkR l) else if i < 0 then (0, 1) else atF (atB i l)

end Go.Proofs.Ytkeeggklgdinhaa
