/- Two scripts of diff.Make, one after the other: what is made of them. -/
import Derived.Test.YtmephgemokngnaaDoorTrimSame
import Derived.Test.YtmephgemokngnaaDoorTrimGroupsP
import Derived.Test.YtmephgemokngnaaDoorDiffMakes
import Derived.Test.YtmephgemokngnaaDoorUndoP
import Derived.Test.YtmephgemokngnaaDoorScriptP
namespace Go.Proofs.YtmephgemokngnaaDoor
open Go.RowKit
set_option linter.unusedVariables false

theorem okls_oke {n : Int} (hn : n ≤ 200) {l : List Ed} {f : Bool} {e : Int} (h : OkE n f e l) : OkLs l := fun x hx => by
  obtain ⟨h1, h2, h3, h4⟩ := ok_all hn h x hx
  exact ⟨by omega, by omega, h4⟩
/-- Two scripts, each right where it stands: the script of both is right, or too large. -/
theorem two_law (s t u : ByteArray) (a b : List Ed) (hs : s.size ≤ 200) (hu : u.size ≤ 200) (ha : checkE s.size a = 0) (hat : apT s a = t) (hb : checkE t.size b = 0) (hbu : apT t b = u) :
    (manyI s.size [a, b] = 0 ∨ manyI s.size [a, b] = 2) ∧ allT s [a, b] = some u := by
  have hall : allT s [a, b] = some u := by
    rw [allT, if_neg (by simpa using ha), hat, allT, if_neg (by simpa using hb), hbu, allT]
  refine ⟨?_, hall⟩
  have hc0 : (cells0 s.size).map (dec s.data.toList) = s.data.toList := dec_cells0 s.data.toList
  have h3 : (cellsE (cells0 s.size) [a, b]).1 = 0 := by
    have hl0 : (cells0 s.size).length = s.size := cells0_length _
    have hl1 : (applyC (cells0 s.size) 0 a).length = t.size := by
      have := congrArg List.length (dec_apply s.data.toList (cells0 s.size) a 0)
      rw [List.length_map, hc0] at this
      rw [this, ← hat]
      rfl
    rw [cellsE, hl0, if_neg (by simpa using ha), cellsE, hl1, if_neg (by simpa using hb), cellsE]
  obtain ⟨t', ht', htl⟩ := allT_cells s.data.toList [a, b] (cells0 s.size) s hc0 h3
  rw [hall] at ht'
  injection ht' with ht'
  subst ht'
  have hg := cellsE_good s.data.toList [a, b] (cells0 s.size) (sorted_cells0 s.size) h3
  have hap := scr_app s.data.toList (cellsE (cells0 s.size) [a, b]).2 0 0 [] hg (Nat.le_refl _) (Nat.zero_le _)
  rw [List.take_zero, List.drop_nil, List.nil_append, List.nil_append, ← htl] at hap
  have hm : manyL s.size [a, b] = scr 0 [] ((cellsE (cells0 s.size) [a, b]).2 ++ [((s.size : Int), (0 : UInt8))]) := by unfold manyL; rw [Int.toNat_natCast]
  have hco := scr_codes (n := s.size) (cellsE (cells0 s.size) [a, b]).2 0 [] true 0 s.size hg (Int.le_refl _) (by omega) (fun h => by cases h)
  rw [← hm] at hco
  have hap' : app s.data.toList 0 (manyL s.size [a, b]) = u.data.toList := by rw [hm]; exact hap
  unfold manyI
  rw [if_neg (by omega), if_neg (by simp), Int.toNat_natCast, if_neg (by simpa using h3)]
  unfold checkE
  rw [if_neg (by omega)]
  by_cases h20 : 20 < (manyL s.size [a, b]).length
  · rw [if_pos h20]; exact .inr rfl
  · rw [if_neg h20]
    rcases hco with h | h | h
    · exact .inl h
    · exact .inr h
    · exfalso
      have hok := chk_ok _ _ _ _ _ (.inr h)
      have hf := chk_full _ _ _ _ (s.size : Int) hok
      rw [h] at hf
      have hok' : OkE s.data.toList.length true (0 : Nat) (manyL s.size [a, b]) := hok
      have hlen := app_length (e := 0) hok' (fun _ => rfl) (Nat.zero_le _)
      rw [hap'] at hlen
      have h1 : u.data.toList.length = u.size := rfl
      have h2 : s.data.toList.length = s.size := rfl
      rw [if_neg (by omega)] at hf
      cases hf
/-- All that is known of a script of Make. -/
theorem made_law (a b : ByteArray) (ha : a.size ≤ 200) (hb : b.size ≤ 200) (h20 : cv a b ≤ 20) :
    checkE a.size (makeE a b) = 0 ∧ apT a (makeE a b) = b ∧ (makeE a b).length ≤ 20 ∧ OkLs (makeE a b) ∧ OkL (makeE a b) ∧
      checkE b.size (undoE a.data.toList 0 (makeE a b)) = 0 ∧ apT b (undoE a.data.toList 0 (makeE a b)) = a ∧ ∀ x ∈ makeE a b, x.2.1 ≤ 40 := by
  obtain ⟨h1, h2, h3⟩ := makes_law a b (ce_ok ⟨ha, hb⟩) h20
  obtain ⟨g0, g1, g2, g3, g4⟩ := checkE_ok h1
  have hdel : ∀ x ∈ makeE a b, x.2.1 ≤ 40 := by
    have hall := ok_all g1 g3
    rw [← h3] at h20
    clear h1 h2 h3 g2 g3 g4
    generalize makeE a b = l at *
    have key : ∀ l : List Ed, (∀ x ∈ l, 0 ≤ x.1 ∧ 0 ≤ x.2.1 ∧ x.1 + x.2.1 ≤ (a.size : Int) ∧ x.2.2.size ≤ 40) → 0 ≤ costE l ∧ ∀ x ∈ l, x.2.1 ≤ costE l := by
      intro l
      induction l with
      | nil => intro _; exact ⟨Int.le_refl _, fun x hx => by cases hx⟩
      | cons y l ih =>
        intro h
        obtain ⟨i1, i2⟩ := ih fun x hx => h x (List.mem_cons_of_mem _ hx)
        obtain ⟨y1, y2, y3, y4⟩ := h y List.mem_cons_self
        rw [costE]
        refine ⟨by omega, fun x hx => ?_⟩
        rcases List.mem_cons.1 hx with rfl | hx
        · omega
        · have := i2 x hx; omega
    intro x hx
    have := (key l hall).2 x hx
    omega
  have hu := edit_undone a.data.toList (makeE a b) h1 hdel
  have e : app a.data.toList 0 (makeE a b) = b.data.toList := congrArg (fun x : ByteArray => x.data.toList) h2
  rw [e] at hu
  refine ⟨h1, h2, g2, okls_oke g1 g3, ok_bounds g1 g3, hu.1, ?_, hdel⟩
  unfold apT
  have hz : (⟨a.data.toList.toArray⟩ : ByteArray) = a := e8_of a
  rw [hu.2.1, hz]
end Go.Proofs.YtmephgemokngnaaDoor
