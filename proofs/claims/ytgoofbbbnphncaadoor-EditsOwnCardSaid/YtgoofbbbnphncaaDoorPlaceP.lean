/- Plain: where a place lies behind edits. -/
import Derived.Test.YtgoofbbbnphncaaDoorUndoP
namespace Go.Proofs.YtgoofbbbnphncaaDoor
set_option linter.unusedVariables false

/-- What Place tells of a place that lies within. -/
def plc (at_ : Int) : Int → List Ed → Int × Bool
  | m, [] => (at_ + m, true)
  | m, x :: l => if at_ < x.1 then (at_ + m, true) else if at_ < x.1 + x.2.1 then (x.1 + m, false) else plc at_ (m + (x.2.2.size - x.2.1)) l

theorem getD_app_at (l m : List UInt8) (j : Nat) : (l ++ m).getD j 0 = if j < l.length then l.getD j 0 else m.getD (j - l.length) 0 := by
  rw [List.getD_eq_getElem?_getD, List.getElem?_append]
  split
  · rw [List.getD_eq_getElem?_getD]
  · rw [List.getD_eq_getElem?_getD]
theorem getD_dropE (l : List UInt8) (a j : Nat) : (l.drop a).getD j 0 = l.getD (a + j) 0 := by
  rw [List.getD_eq_getElem?_getD, List.getElem?_drop, List.getD_eq_getElem?_getD]
theorem getD_takeE (l : List UInt8) (a j : Nat) (h : j < a) : (l.take a).getD j 0 = l.getD j 0 := by
  rw [List.getD_eq_getElem?_getD, List.getElem?_take, if_pos h, List.getD_eq_getElem?_getD]

theorem plc_spec {s : List UInt8} : ∀ {l : List Ed} {f : Bool} {e : Nat} {m : Int} {a : Nat}, OkE s.length f e l → (f = true → e = 0) → e ≤ a → a ≤ s.length →
    ∃ q : Nat, (plc a m l).1 = e + m + q ∧ q ≤ (app s e l).length ∧ ((plc a m l).2 = true → (a = s.length → q = (app s e l).length) ∧ (a < s.length → q < (app s e l).length ∧ (app s e l).getD q 0 = s.getD a 0))
  | [], f, e, m, a, _, _, hea, has => by
    refine ⟨a - e, by rw [plc]; omega, by rw [app, List.length_drop]; omega, fun _ => ⟨fun h => by rw [app, List.length_drop]; omega, fun h => ⟨by rw [app, List.length_drop]; omega, ?_⟩⟩⟩
    rw [app, getD_dropE]; congr 1; omega
  | x :: l, f, e, m, a, ⟨h1, h2, h3, h4, h5, h6, h7⟩, hf, hea, has => by
    obtain ⟨at_, del, ins⟩ := x
    simp only at h1 h2 h3 h4 h5 h6 h7
    obtain ⟨i, rfl⟩ : ∃ i : Nat, at_ = i := ⟨at_.toNat, by omega⟩
    obtain ⟨d, rfl⟩ : ∃ i : Nat, del = i := ⟨del.toNat, by omega⟩
    have hle : e ≤ i := by
      cases f with
      | true => have := hf rfl; omega
      | false => have := h6 rfl; omega
    have hi : ins.data.toList.length = ins.size := rfl
    have hfl : ((s.take i).drop e).length = i - e := by rw [List.length_drop, List.length_take]; omega
    rw [plc, app]
    simp only [Int.toNat_natCast]
    rw [show ((i : Int) + (d : Int)).toNat = i + d from by omega]
    have hL : ((s.take i).drop e ++ ins.data.toList ++ app s (i + d) l).length = (i - e) + ins.size + (app s (i + d) l).length := by
      rw [List.length_append, List.length_append, hfl, hi]
    by_cases c1 : (a : Int) < i
    · rw [if_pos c1]
      refine ⟨a - e, by simp only; omega, by rw [hL]; omega, fun _ => ⟨fun h => by omega, fun h => ⟨by rw [hL]; omega, ?_⟩⟩⟩
      rw [List.append_assoc, getD_app_at, if_pos (by rw [hfl]; omega), getD_dropE, getD_takeE _ _ _ (by omega)]
      congr 1; omega
    rw [if_neg c1]
    by_cases c2 : (a : Int) < (i : Int) + d
    · rw [if_pos c2]
      exact ⟨i - e, by simp only; omega, by rw [hL]; omega, fun h => by cases h⟩
    rw [if_neg c2]
    obtain ⟨q, g1, g2, g3⟩ := plc_spec (s := s) (l := l) (f := false) (e := i + d) (m := m + ((ins.size : Int) - (d : Int))) (a := a) (by rw [show ((i + d : Nat) : Int) = (i : Int) + (d : Int) from by omega]; exact h7) (by simp) (by omega) has
    refine ⟨(i - e) + ins.size + q, by rw [g1]; omega, by rw [hL]; omega, fun hh => ?_⟩
    obtain ⟨g4, g5⟩ := g3 hh
    refine ⟨fun h => by rw [hL, g4 h], fun h => ⟨by rw [hL]; have := (g5 h).1; omega, ?_⟩⟩
    rw [getD_app_at, if_neg (by rw [List.length_append, hfl, hi]; omega), List.length_append, hfl, hi, show i - e + ins.size + q - (i - e + ins.size) = q from by omega]
    exact (g5 h).2
theorem plc_mono {s : List UInt8} : ∀ {l : List Ed} {f : Bool} {e : Nat} {m : Int} {a b : Nat}, OkE s.length f e l → (f = true → e = 0) → e ≤ a → a ≤ b → b ≤ s.length →
    (plc a m l).1 ≤ (plc b m l).1 ∧ ((plc a m l).2 = true → a < b → (plc a m l).1 < (plc b m l).1)
  | [], f, e, m, a, b, _, _, hea, hab, hbs => by rw [plc, plc]; exact ⟨by simp only; omega, fun _ h => by simp only; omega⟩
  | x :: l, f, e, m, a, b, ⟨h1, h2, h3, h4, h5, h6, h7⟩, hf, hea, hab, hbs => by
    obtain ⟨at_, del, ins⟩ := x
    simp only at h1 h2 h3 h4 h5 h6 h7
    obtain ⟨i, rfl⟩ : ∃ i : Nat, at_ = i := ⟨at_.toNat, by omega⟩
    obtain ⟨d, rfl⟩ : ∃ i : Nat, del = i := ⟨del.toNat, by omega⟩
    have h7' : OkE s.length false ((i + d : Nat) : Int) l := by rw [show ((i + d : Nat) : Int) = (i : Int) + (d : Int) from by omega]; exact h7
    have hrec : ∀ b : Nat, i + d ≤ b → b ≤ s.length → (i : Int) + m + ins.size ≤ (plc b (m + ((ins.size : Int) - (d : Int))) l).1 := fun b hb hbs => by
      obtain ⟨q, g1, _⟩ := plc_spec (m := m + ((ins.size : Int) - (d : Int))) h7' (by simp) hb hbs
      rw [g1]; omega
    rw [plc, plc]
    simp only
    by_cases c1 : (a : Int) < i
    · rw [if_pos c1]
      by_cases c2 : (b : Int) < i
      · rw [if_pos c2]; exact ⟨by simp only; omega, fun _ h => by simp only; omega⟩
      rw [if_neg c2]
      by_cases c3 : (b : Int) < (i : Int) + d
      · rw [if_pos c3]; exact ⟨by simp only; omega, fun _ h => by simp only; omega⟩
      rw [if_neg c3]
      have := hrec b (by omega) hbs
      exact ⟨by simp only; omega, fun _ h => by simp only; omega⟩
    rw [if_neg c1, if_neg (show ¬ (b : Int) < i by omega)]
    by_cases c2 : (a : Int) < (i : Int) + d
    · rw [if_pos c2]
      by_cases c3 : (b : Int) < (i : Int) + d
      · rw [if_pos c3]; exact ⟨Int.le_refl _, fun h => by cases h⟩
      rw [if_neg c3]
      have := hrec b (by omega) hbs
      exact ⟨by simp only; omega, fun h => by cases h⟩
    rw [if_neg c2, if_neg (show ¬ (b : Int) < (i : Int) + d by omega)]
    exact plc_mono h7' (by simp) (by omega) hab hbs

end Go.Proofs.YtgoofbbbnphncaaDoor
