/- TrimSame's walk: the composed script has the same effect as the sequence of scripts. -/
import Derived.Test.YtmephgemokngnaaDoorTrimTwo
namespace Go.Proofs.YtmephgemokngnaaDoor
open Go.RowKit
set_option linter.unusedVariables false

/-- The text after a script. -/
def apT (s : ByteArray) (l : List Ed) : ByteArray := ⟨(app s.data.toList 0 l).toArray⟩
/-- The text after all scripts, where each can be done. -/
def allT : ByteArray → List (List Ed) → Option ByteArray
  | s, [] => some s
  | s, es :: L => if checkE s.size es ≠ 0 then none else allT (apT s es) L
theorem allT_cells (s0 : List UInt8) : ∀ (L : List (List Ed)) (c : List Cell) (s : ByteArray), c.map (dec s0) = s.data.toList → (cellsE c L).1 = 0 → ∃ t, allT s L = some t ∧ t.data.toList = (cellsE c L).2.map (dec s0)
  | [], c, s, h, _ => ⟨s, rfl, h.symm⟩
  | es :: L, c, s, h, h0 => by
    have hsz : c.length = s.size := by
      have := congrArg List.length h
      rw [List.length_map] at this
      exact this
    rw [cellsE] at h0 ⊢
    rw [allT]
    rw [hsz] at h0 ⊢
    by_cases hk : checkE s.size es = 0
    · rw [if_neg (by simpa using hk)] at h0 ⊢
      rw [if_neg (by simpa using hk)]
      exact allT_cells s0 L (applyC c 0 es) (apT s es) (by rw [dec_apply, h]; rfl) h0
    · rw [if_pos hk] at h0; exact absurd h0 hk
theorem same_law (s : ByteArray) (L : List (List Ed)) (h : manyI s.size L = 0) : ∃ t, allT s L = some t ∧ checkE s.size (manyL s.size L) = 0 ∧ apT s (manyL s.size L) = t := by
  unfold manyI at h
  by_cases h1 : (s.size : Int) < 0 ∨ 200 < (s.size : Int)
  · rw [if_pos h1] at h; cases h
  rw [if_neg h1] at h
  by_cases h2 : 30 < L.length
  · rw [if_pos h2] at h; cases h
  rw [if_neg h2, Int.toNat_natCast] at h
  by_cases h3 : (cellsE (cells0 s.size) L).1 = 0
  · rw [if_neg (by simpa using h3)] at h
    have hs : s.data.toList.length = s.size := rfl
    have hc0 : (cells0 s.size).map (dec s.data.toList) = s.data.toList := dec_cells0 s.data.toList
    obtain ⟨t, ht, htl⟩ := allT_cells s.data.toList L (cells0 s.size) s hc0 h3
    refine ⟨t, ht, h, ?_⟩
    have hg := cellsE_good s.data.toList L (cells0 s.size) (sorted_cells0 s.size) h3
    have ha := scr_app s.data.toList (cellsE (cells0 s.size) L).2 0 0 [] hg (Nat.le_refl _) (Nat.zero_le _)
    rw [List.take_zero, List.drop_nil, List.nil_append, List.nil_append, ← htl] at ha
    have hm : manyL s.size L = scr 0 [] ((cellsE (cells0 s.size) L).2 ++ [((s.size : Int), (0 : UInt8))]) := by unfold manyL; rw [Int.toNat_natCast]
    have ha' : app s.data.toList 0 (manyL s.size L) = t.data.toList := by rw [hm]; exact ha
    unfold apT
    rw [ha']
  · rw [if_pos h3] at h; exact absurd h h3


end Go.Proofs.YtmephgemokngnaaDoor
