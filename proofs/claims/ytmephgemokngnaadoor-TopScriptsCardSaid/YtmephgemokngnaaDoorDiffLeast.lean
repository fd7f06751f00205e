/- DiffLeast's walk: no script has a smaller cost. -/
import Derived.Test.YtmephgemokngnaaDoorDiffLaws
import Derived.Test.YtmephgemokngnaaDoorApply
import Derived.Test.YtmephgemokngnaaDoorArgs
namespace Go.Proofs.YtmephgemokngnaaDoor
open Go.RowKit
set_option linter.unusedVariables false

theorem costE_take (l : List Ed) (k : Nat) (h : k < l.length) (d : Ed) : costE (l.take (k + 1)) = costE (l.take k) + ((l.getD k d).2.1 + ((l.getD k d).2.2.size : Int)) := by
  rw [take_succ_getD l k d h, costE_append, costE, costE]; omega
theorem costE_bd {n : Int} (hn : n ≤ 200) {l : List Ed} {f : Bool} {e : Int} (h : OkE n f e l) : ∀ k, 0 ≤ costE (l.take k) ∧ costE (l.take k) ≤ 240 * (l.take k).length := by
  have hall := ok_all hn h
  have : ∀ m : List Ed, (∀ x ∈ m, 0 ≤ x.1 ∧ 0 ≤ x.2.1 ∧ x.1 + x.2.1 ≤ n ∧ x.2.2.size ≤ 40) → 0 ≤ costE m ∧ costE m ≤ 240 * m.length := by
    intro m
    induction m with
    | nil => exact fun _ => ⟨by simp [costE], by simp [costE]⟩
    | cons x m ih =>
      intro hx
      obtain ⟨a, b, c, d⟩ := hx x (by simp)
      have := ih (fun y hy => hx y (by simp [hy]))
      rw [costE, List.length_cons]
      omega
  exact fun k => this _ (fun x hx => hall x (List.mem_of_mem_take hx))
theorem least_law (s : ByteArray) (l : List Ed) (h : checkE s.size l = 0) : ce s ⟨(app s.data.toList 0 l).toArray⟩ = 0 ∧ cv s ⟨(app s.data.toList 0 l).toArray⟩ ≤ costE l := by
  obtain ⟨h0, h1, h2, h3, h4⟩ := checkE_ok h
  have hs : s.data.toList.length = s.size := rfl
  have h3' : OkE s.data.toList.length true (0 : Nat) l := h3
  have hlen := app_length (e := 0) h3' (fun _ => rfl) (Nat.zero_le _)
  have hl := app_lcs (e := 0) h3' (fun _ => rfl) (Nat.zero_le _)
  have hsz : (ByteArray.mk (app s.data.toList 0 l).toArray).size = (app s.data.toList 0 l).length := rfl
  have hb : s.size ≤ 200 ∧ (ByteArray.mk (app s.data.toList 0 l).toArray).size ≤ 200 := by omega
  refine ⟨ce_ok hb, ?_⟩
  rw [cv_ok hb, hsz]
  rw [List.drop_zero] at hl
  have : (ByteArray.mk (app s.data.toList 0 l).toArray).data.toList = app s.data.toList 0 l := rfl
  rw [this]
  omega

end Go.Proofs.YtmephgemokngnaaDoor
