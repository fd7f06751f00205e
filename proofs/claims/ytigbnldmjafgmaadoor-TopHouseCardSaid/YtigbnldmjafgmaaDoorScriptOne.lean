/- script.Write and script.Read, each answer in one form. -/
import Derived.Test.YtigbnldmjafgmaaDoorScripts
import Derived.Test.YtigbnldmjafgmaaDoorArgs
namespace Go.Proofs.YtigbnldmjafgmaaDoor
open Go.RowKit
set_option linter.unusedVariables false

/-- Edits that lie there and fit. -/
structure EdsAt (w : World) (A : Option Addr) (n c : Nat) (l : List Ed) : Prop where
  len : l.length = n
  small : n ≤ 4398046511104
  ok : ∀ x ∈ l, (-9223372036854775808 ≤ x.1 ∧ x.1 ≤ 9223372036854775807) ∧ (-9223372036854775808 ≤ x.2.1 ∧ x.2.1 ≤ 9223372036854775807) ∧ (x.2.2).size ≤ 140737488351232
  at_ : Reads w w.heap.size A n 3 (l.flatMap cEdit)
theorem EdsAt.after {w w' : World} {A : Option Addr} {n c : Nat} {l : List Ed} (h : EdsAt w A n c l) (hb : Below w.heap.size w w') : EdsAt w' A n c l := ⟨h.len, h.small, h.ok, h.at_.after hb⟩
theorem OkLs.fits {l : List Ed} (h : OkLs l) : ∀ x ∈ l, (-9223372036854775808 ≤ x.1 ∧ x.1 ≤ 9223372036854775807) ∧ (-9223372036854775808 ≤ x.2.1 ∧ x.2.1 ≤ 9223372036854775807) ∧ (x.2.2).size ≤ 140737488351232 := fun x hx => by
  obtain ⟨h1, h2, h3⟩ := h x hx
  omega
/-- What may be written. -/
def Wr (l : List Ed) : Prop := l.length ≤ 20 ∧ OkLs l
theorem write_one {A : Option Addr} {n c : Nat} {l : List Ed} (w : World) (ht : Tab w) (h : EdsAt w A n c l) :
    Calls Tryd.prog 78 #[.slice A n c] w fun e w' => ∃ (t : ByteArray) (E : Int), e = .returned (.tuple #[.string t, .int .i64 E]) ∧ ((E = 0 ∧ Wr l ∧ t.data.toList = writeL l) ∨ (E ≠ 0 ∧ ¬ Wr l ∧ t = ⟨#[]⟩)) ∧ Below w.heap.size w w' := by
  refine (write_any A n c _ l h.small h.len h.ok w ht h.at_ (Nat.le_refl _)).mono ?_
  rintro e w' ⟨hb, ⟨h1, h2, b, h3, rfl⟩ | ⟨h1, E, h2, rfl⟩⟩
  · exact ⟨b, 0, rfl, .inl ⟨rfl, ⟨h1, h2⟩, h3⟩, hb⟩
  · exact ⟨_, E, rfl, .inr ⟨h2, h1, rfl⟩, hb⟩
theorem read_one (s : ByteArray) (hs : s.size ≤ 140737488351232) (w : World) :
    Calls Tryd.prog 82 #[.string s] w fun e w' => ∃ (A : Option Addr) (c : Nat) (l : List Ed) (E : Int), e = .returned (.tuple #[.slice A l.length c, .int .i64 E]) ∧ ((E = 0 ∧ ReadOk s.data.toList l) ∨ (E = 12 ∧ (∀ m, ¬ ReadOk s.data.toList m) ∧ l = [])) ∧ EdsAt w' A l.length c l ∧ Below w.heap.size w w' := by
  refine (read_any s hs w).mono ?_
  rintro e w' ⟨hb, ⟨A, c, l, h1, rfl, h2⟩ | ⟨h1, rfl⟩⟩
  · exact ⟨A, c, l, 0, rfl, .inl ⟨rfl, h1⟩, ⟨rfl, by have := h1.2.1; omega, h1.2.2.fits, Reads.of_own h2⟩, hb⟩
  · exact ⟨none, 0, [], 12, rfl, .inr ⟨rfl, h1, rfl⟩, ⟨rfl, by decide, (fun x hx => by cases hx), Reads.nil⟩, hb⟩
theorem writes_len {l : List Ed} (h : Wr l) : (writeL l).length ≤ 20000 := by
  have := write_len h.2
  have := h.1
  omega
theorem edsAt_of {w : World} {A : Option Addr} {len cap : Nat} {l : List Ed} (h : EditsIn w A len cap l) : EdsAt w A len cap l := ⟨h.1, by have := h.2.2.1; omega, h.2.2.2.1, h.2.1⟩
end Go.Proofs.YtigbnldmjafgmaaDoor
