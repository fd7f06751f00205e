/- What comes of scripts lies in rows of its own. -/
import Derived.Test.YtgoofbbbnphncaaDoorUndoWalk
import Derived.Test.YtgoofbbbnphncaaDoorMergeBehind
import Derived.Test.YtgoofbbbnphncaaDoorTrimTwo
import Derived.Test.YtgoofbbbnphncaaDoorOfWalk
import Derived.Test.YtgoofbbbnphncaaDoorScriptOne
import Derived.Test.YtgoofbbbnphncaaDoorSpoilEdit
namespace Go.Proofs.YtgoofbbbnphncaaDoor
open Go.RowKit
set_option linter.unusedVariables false

/-- An answer of edits, in a row of its own, and an error. -/
def OwnEd (w : World) (e : Ending) (w' : World) : Prop := ∃ (A : Option Addr) (n c : Nat) (E : Int) (xs : List Value), e = .returned (.tuple #[.slice A n c, .int .i64 E]) ∧ w'.ownsRow w.heap.size 42 3 (.slice A n c) n xs ∧ Below w.heap.size w w'
theorem OwnEd.nil {w w' : World} (hb : Below w.heap.size w w') (E : Int) : OwnEd w (.returned (.tuple #[.slice none 0 0, .int .i64 E])) w' := ⟨none, 0, 0, E, [], rfl, World.ownsRow_nil _ _ _ _, hb⟩

theorem undo_at {s : List UInt8} {n : Int} : ∀ {l : List Ed} {f : Bool} {e m : Int}, OkE n f e l → (f = true → e = 0) → 0 ≤ e + m → ∀ x ∈ undoE s m l, 0 ≤ x.1
  | [], f, e, m, _, _, _, x, hx => by cases hx
  | y :: l, f, e, m, ⟨h1, h2, h3, h4, h5, h6, h7⟩, hf, hm, x, hx => by
    have hle : e ≤ y.1 := by
      cases f with
      | true => have := hf rfl; omega
      | false => have := h6 rfl; omega
    rcases List.mem_cons.1 hx with rfl | hx
    · show 0 ≤ y.1 + m; omega
    · exact undo_at h7 (fun h => by cases h) (by omega) x hx
theorem undo_good {s : ByteArray} {l : List Ed} (h : checkE s.size l = 0) : (((-7 : Int), (0 : Int), (⟨#[]⟩ : ByteArray)) : Ed) ∉ undoE s.data.toList 0 l := fun hm => by
  obtain ⟨h0, h1, h2, h3, h4⟩ := checkE_ok h
  have := undo_at (m := 0) h3 (fun _ => rfl) (by omega) _ hm
  simp at this
/-- Undo answers alike each time. -/
theorem undo_e (s : ByteArray) (hs : s.size ≤ 140737488351232) (A : Option Addr) (n c : Nat) (l : List Ed) (hl : l.length = n) (hn : n ≤ 4398046511104) (ho : OkEds l) :
    ∃ E : Int, ∀ w, Reads w w.heap.size A n 3 (l.flatMap cEdit) → Calls Tryd.prog 28 #[.string s, .slice A n c] w fun e w' => ∃ (A' : Option Addr) (c' : Nat) (p : List Ed), e = .returned (.tuple #[.slice A' p.length c', .int .i64 E]) ∧ w'.ownsRow w.heap.size 42 3 (.slice A' p.length c') p.length (p.flatMap cEdit) ∧ (((-7 : Int), (0 : Int), (⟨#[]⟩ : ByteArray)) : Ed) ∉ p ∧ p.length ≤ n ∧ Below w.heap.size w w' := by
  by_cases hE : checkE s.size l = 0
  · by_cases hd : ∀ x ∈ l, x.2.1 ≤ 40
    · refine ⟨0, fun w h => (undo_own s A n c _ l hl hE w h (Nat.le_refl _)).mono ?_⟩
      rintro e w' ⟨hb, ⟨_, A', c', rfl, h1, _⟩ | ⟨h1, _⟩⟩
      · exact ⟨A', c', undoE s.data.toList 0 l, by rw [undo_length], by rw [undo_length]; exact h1, undo_good hE, by rw [undo_length, hl]; exact Nat.le_refl _, hb⟩
      · exact absurd hd h1
    · refine ⟨2, fun w h => (undo_own s A n c _ l hl hE w h (Nat.le_refl _)).mono ?_⟩
      rintro e w' ⟨hb, ⟨h1, _⟩ | ⟨_, rfl⟩⟩
      · exact absurd h1 hd
      · exact ⟨none, 0, [], rfl, World.ownsRow_nil _ _ _ _, by simp, Nat.zero_le _, hb⟩
  · refine ⟨checkE s.size l, fun w h => (undo_no s (by omega) A n c _ l hn hl ho _ rfl hE w h (Nat.le_refl _)).mono ?_⟩
    rintro e w' ⟨rfl, hb⟩
    exact ⟨none, 0, [], rfl, World.ownsRow_nil _ _ _ _, by simp, Nat.zero_le _, hb⟩
section
variable (n : Int) (hn : -9223372036854775808 ≤ n ∧ n ≤ 9223372036854775807) (A A' : Option Addr) (la lb ca cb : Nat) (a b : List Ed) (hla : la ≤ 4398046511104) (hlb : lb ≤ 4398046511104) (ha : a.length = la) (hb : b.length = lb) (oa : OkEds a) (ob : OkEds b)
  (w : World) (ra : Reads w w.heap.size A la 3 (a.flatMap cEdit)) (rb : Reads w w.heap.size A' lb 3 (b.flatMap cEdit))
include hn hla hlb ha hb oa ob ra rb
theorem both_e : Calls Tryd.prog 30 #[.int .i64 n, .slice A la ca, .slice A' lb cb] w (OwnEd w) := by
  refine (both_own n hn A A' la lb ca cb _ a b hla hlb ha hb oa ob w ra rb (Nat.le_refl _)).mono ?_
  rintro e w' ⟨hb, ⟨_, rfl⟩ | ⟨_, A, c, rfl, h, _⟩⟩
  · exact OwnEd.nil hb _
  · exact ⟨_, _, _, _, _, rfl, h, hb⟩
theorem behind_e : Calls Tryd.prog 31 #[.int .i64 n, .slice A la ca, .slice A' lb cb] w (OwnEd w) := by
  refine (behind_own n hn A A' la lb ca cb _ a b hla hlb ha hb oa ob w ra rb (Nat.le_refl _)).mono ?_
  rintro e w' ⟨hb, ⟨_, rfl⟩ | ⟨_, A, c, rfl, h, _⟩⟩
  · exact OwnEd.nil hb _
  · exact ⟨_, _, _, _, _, rfl, h, hb⟩
theorem two_e : Calls Tryd.prog 32 #[.int .i64 n, .slice A la ca, .slice A' lb cb] w (OwnEd w) := by
  refine (two_own n hn A A' la lb ca cb _ a b w ⟨ha, ra, oa, hla⟩ ⟨hb, rb, ob, hlb⟩ (Nat.le_refl _)).mono ?_
  rintro e w' ⟨hb, ⟨_, rfl⟩ | ⟨_, A, c, rfl, h⟩⟩
  · exact OwnEd.nil hb _
  · exact ⟨_, _, _, _, _, rfl, h, hb⟩
end
theorem read_e (s : ByteArray) (hs : s.size ≤ 140737488351232) (w : World) : Calls Tryd.prog 34 #[.string s] w (OwnEd w) := by
  refine (read_any s hs w).mono ?_
  rintro e w' ⟨hb, ⟨A, c, l, h1, rfl, h2⟩ | ⟨h1, rfl⟩⟩
  · exact ⟨_, _, _, _, _, rfl, h2, hb⟩
  · exact OwnEd.nil hb _
theorem of_e (s t : ByteArray) (hs : s.size ≤ 140737488351232) (ht : t.size ≤ 140737488351232) (w : World) : Calls Tryd.prog 35 #[.string s, .string t] w (OwnEd w) := by
  refine (of_own s t hs ht w).mono ?_
  rintro e w' ⟨hb, ⟨E, _, rfl, _⟩ | ⟨_, _, rfl⟩ | ⟨_, _, f, g, A, c, _, _, rfl, h⟩⟩
  · exact OwnEd.nil hb _
  · exact OwnEd.nil hb _
  · exact ⟨_, _, _, _, _, rfl, h, hb⟩
theorem write_e (A : Option Addr) (n c : Nat) (l : List Ed) (w : World) (ht : Tab w) (h : EdsAt w A n c l) :
    Calls Tryd.prog 33 #[.slice A n c] w fun e w' => ∃ (t : ByteArray) (E : Int), e = .returned (.tuple #[.string t, .int .i64 E]) ∧ t.size ≤ 140737488351232 ∧ Below w.heap.size w w' := by
  refine (write_one w ht h).mono ?_
  rintro e w' ⟨t, E, rfl, hc, hb⟩
  refine ⟨t, E, rfl, ?_, hb⟩
  rcases hc with ⟨_, h1, h2⟩ | ⟨_, _, rfl⟩
  · have h3 := congrArg List.length h2
    have h4 := write_len h1.2
    have h5 : t.data.toList.length = t.size := rfl
    have := h1.1
    omega
  · decide
/-- spoil, with an edit that fits nothing. -/
theorem spoil_e (base : Nat) (A : Option Addr) (n c : Nat) (xs : List Value) (w : World) (h : w.ownsRow base 42 3 (.slice A n c) n xs) :
    Calls Tryd.prog 29 #[.slice A n c, .agg #[.int .i64 (-7), .int .i64 0, .string ⟨#[]⟩]] w fun e w' => e = .returned (.tuple #[]) ∧ w.grownBy w' (Value.slice A n c).ownBlock := spoilEdit_any base A n c xs (-7) 0 ⟨#[]⟩ w h
end Go.Proofs.YtgoofbbbnphncaaDoor
