/- Plain: runs of bytes; a text is told by its runs, and runs by their text. -/
import Derived.Test.YtccbfhaoepomnaaPlain
namespace Go.Proofs.Ytccbfhaoepomnaa

/-- A byte more. -/
def addRun (l : List (UInt8 × Int)) (c : UInt8) : List (UInt8 × Int) :=
  if 0 < l.length ∧ (l.getD (l.length - 1) (0, 0)).1 = c then l.set (l.length - 1) (c, (l.getD (l.length - 1) (0, 0)).2 + 1) else l ++ [(c, 1)]
def runsOf (s : List UInt8) : List (UInt8 × Int) := s.foldl addRun []
def expand (l : List (UInt8 × Int)) : List UInt8 := l.flatMap fun r => List.replicate r.2.toNat r.1
/-- Runs of at least one byte, neighbours of other bytes. -/
def ValidR (l : List (UInt8 × Int)) : Prop := ∀ j, j < l.length → 1 ≤ (l.getD j (0, 0)).2 ∧ (0 < j → (l.getD (j - 1) (0, 0)).1 ≠ (l.getD j (0, 0)).1)

theorem expand_append (l m : List (UInt8 × Int)) : expand (l ++ m) = expand l ++ expand m := by simp [expand]
theorem expand_one (b : UInt8) (n : Int) : expand [(b, n)] = List.replicate n.toNat b := by simp [expand]

theorem valid_take {l : List (UInt8 × Int)} (h : ValidR l) (k : Nat) : ValidR (l.take k) := by
  intro j hj
  rw [List.length_take] at hj
  have h1 := h j (by omega)
  rw [getD_take _ _ _ _ (by omega)]
  refine ⟨h1.1, fun hp => ?_⟩
  rw [getD_take _ _ _ _ (by omega)]
  exact h1.2 hp

theorem split_last (l : List (UInt8 × Int)) (h : 0 < l.length) : l = l.take (l.length - 1) ++ [l.getD (l.length - 1) (0, 0)] := by
  have := take_succ_getD l (l.length - 1) (0, 0) (by omega)
  rw [show l.length - 1 + 1 = l.length from by omega, List.take_length] at this
  exact this

theorem addRun_valid {l : List (UInt8 × Int)} (h : ValidR l) (c : UInt8) : ValidR (addRun l c) := by
  unfold addRun
  by_cases hc : 0 < l.length ∧ (l.getD (l.length - 1) (0, 0)).1 = c
  · rw [if_pos hc]
    intro j hj
    rw [List.length_set] at hj
    rw [getD_set _ _ _ _ (by omega), getD_set _ _ _ _ (by omega)]
    have h1 := h j hj
    by_cases e : j = l.length - 1
    · rw [if_pos e]
      refine ⟨by have := (h (l.length - 1) (by omega)).1; omega, fun hp => ?_⟩
      rw [if_neg (by omega)]
      have := h1.2 hp
      rw [e, hc.2] at this
      rw [e]; exact this
    · rw [if_neg e]
      exact ⟨h1.1, fun hp => by rw [if_neg (by omega)]; exact h1.2 hp⟩
  · rw [if_neg hc]
    intro j hj
    rw [List.length_append, List.length_singleton] at hj
    by_cases e : j = l.length
    · rw [e, getD_app_right _ _ _ _ (Nat.le_refl _), Nat.sub_self]
      refine ⟨by simp, fun hp => ?_⟩
      rw [getD_app_left _ _ _ _ (by omega)]
      intro h2
      exact hc ⟨hp, h2⟩
    · rw [getD_app_left _ _ _ _ (by omega)]
      have h1 := h j (by omega)
      exact ⟨h1.1, fun hp => by rw [getD_app_left _ _ _ _ (by omega)]; exact h1.2 hp⟩

theorem addRun_expand {l : List (UInt8 × Int)} (h : ValidR l) (c : UInt8) : expand (addRun l c) = expand l ++ [c] := by
  unfold addRun
  by_cases hc : 0 < l.length ∧ (l.getD (l.length - 1) (0, 0)).1 = c
  · rw [if_pos hc]
    have e := split_last l hc.1
    have hn := (h (l.length - 1) (by omega)).1
    have e2 : l.set (l.length - 1) (c, (l.getD (l.length - 1) (0, 0)).2 + 1) = l.take (l.length - 1) ++ [(c, (l.getD (l.length - 1) (0, 0)).2 + 1)] := by
      rw [List.set_eq_take_append_cons_drop, if_pos (by omega), show l.length - 1 + 1 = l.length from by omega, List.drop_length]
    rw [e2]
    generalize hx : l.getD (l.length - 1) (0, 0) = x at *
    obtain ⟨b, n⟩ := x
    obtain ⟨_, rfl⟩ := hc
    simp only at hn e ⊢
    rw [expand_append, expand_one]
    conv => rhs; rw [e, expand_append, expand_one]
    rw [List.append_assoc]
    congr 1
    have : (n + 1).toNat = n.toNat + 1 := by omega
    rw [this, List.replicate_succ']
  · rw [if_neg hc, expand_append, expand_one]; rfl

theorem runsOf_snoc (s : List UInt8) (c : UInt8) : runsOf (s ++ [c]) = addRun (runsOf s) c := by simp [runsOf]
theorem runs_valid (s : List UInt8) : ValidR (runsOf s) := by
  suffices h : ∀ (s : List UInt8) (l : List (UInt8 × Int)), ValidR l → ValidR (s.foldl addRun l) from h s [] (fun j hj => by simp at hj)
  intro s
  induction s with
  | nil => intro l h; exact h
  | cons c s ih => intro l h; exact ih _ (addRun_valid h c)
theorem runs_expand (s : List UInt8) : expand (runsOf s) = s := by
  suffices h : ∀ (s : List UInt8) (l : List (UInt8 × Int)), ValidR l → expand (s.foldl addRun l) = expand l ++ s by
    have := h s [] (fun j hj => by simp at hj)
    simpa [expand, runsOf] using this
  intro s
  induction s with
  | nil => intro l _; simp
  | cons c s ih => intro l h; rw [List.foldl_cons, ih _ (addRun_valid h c), addRun_expand h c]; simp
theorem addRun_length (l : List (UInt8 × Int)) (c : UInt8) : (addRun l c).length ≤ l.length + 1 := by
  unfold addRun
  split
  · rw [List.length_set]; omega
  · simp
theorem runs_length (s : List UInt8) : (runsOf s).length ≤ s.length := by
  suffices h : ∀ (s : List UInt8) (l : List (UInt8 × Int)), (s.foldl addRun l).length ≤ l.length + s.length by
    have := h s []
    simpa [runsOf] using this
  intro s
  induction s with
  | nil => intro l; simp
  | cons c s ih => intro l; have := ih (addRun l c); have := addRun_length l c; simp only [List.foldl_cons, List.length_cons]; omega

theorem addRun_same (l : List (UInt8 × Int)) (b : UInt8) (n : Int) : addRun (l ++ [(b, n)]) b = l ++ [(b, n + 1)] := by
  unfold addRun
  have h1 : (l ++ [(b, n)]).length - 1 = l.length := by simp
  have h2 : (l ++ [(b, n)]).getD ((l ++ [(b, n)]).length - 1) (0, 0) = (b, n) := by rw [h1, getD_app_right _ _ _ _ (Nat.le_refl _), Nat.sub_self]; rfl
  rw [h2, if_pos ⟨by simp, rfl⟩, h1]
  simp
theorem fold_same (l : List (UInt8 × Int)) (b : UInt8) : ∀ (k : Nat) (n : Int), (List.replicate k b).foldl addRun (l ++ [(b, n)]) = l ++ [(b, n + k)]
  | 0, n => by simp
  | k + 1, n => by
    rw [List.replicate_succ, List.foldl_cons, addRun_same, fold_same l b k]
    congr 3; omega
theorem fold_run (l : List (UInt8 × Int)) (b : UInt8) (n : Int) (hn : 1 ≤ n) (h : 0 < l.length → (l.getD (l.length - 1) (0, 0)).1 ≠ b) :
    (List.replicate n.toNat b).foldl addRun l = l ++ [(b, n)] := by
  obtain ⟨k, hk⟩ : ∃ k : Nat, n = k + 1 := ⟨(n - 1).toNat, by omega⟩
  subst hk
  rw [show ((k : Int) + 1).toNat = k + 1 from by omega, List.replicate_succ, List.foldl_cons]
  have : addRun l b = l ++ [(b, 1)] := by
    unfold addRun
    rw [if_neg (fun hc => h hc.1 hc.2)]
  rw [this, fold_same]
  congr 3; omega
theorem expand_runs (l : List (UInt8 × Int)) (h : ValidR l) : runsOf (expand l) = l := by
  suffices hh : ∀ k, k ≤ l.length → runsOf (expand (l.take k)) = l.take k by
    have := hh l.length (Nat.le_refl _)
    rwa [List.take_length] at this
  intro k
  induction k with
  | zero => intro _; rfl
  | succ k ih =>
    intro hk
    rw [take_succ_getD l k (0, 0) (by omega), expand_append]
    generalize hx : l.getD k (0, 0) = x
    obtain ⟨b, n⟩ := x
    rw [expand_one]
    unfold runsOf
    rw [List.foldl_append]
    have := ih (by omega)
    unfold runsOf at this
    rw [this]
    have hv := h k (by omega)
    rw [hx] at hv
    refine fold_run _ b n hv.1 fun hp => ?_
    rw [List.length_take, Nat.min_eq_left (by omega)] at hp ⊢
    rw [getD_take _ _ _ _ (by omega)]
    exact hv.2 hp

/-- What of the first k runs Whole lets in. -/
def WholeOk (l : List (UInt8 × Int)) : Prop := ValidR l ∧ (expand l).length ≤ 200
theorem wholeOk_runs (s : List UInt8) (h : s.length ≤ 200) : WholeOk (runsOf s) := ⟨runs_valid s, by rw [runs_expand]; exact h⟩
theorem expand_take_le (l : List (UInt8 × Int)) (k : Nat) : (expand (l.take k)).length ≤ (expand l).length := by
  conv => rhs; rw [← List.take_append_drop k l, expand_append]
  rw [List.length_append]; omega
theorem wholeOk_take {l : List (UInt8 × Int)} (h : WholeOk l) (k : Nat) : WholeOk (l.take k) := ⟨valid_take h.1 k, Nat.le_trans (expand_take_le l k) h.2⟩
theorem wholeOk_succ {l : List (UInt8 × Int)} {k : Nat} (hk : k < l.length) (h : WholeOk (l.take k)) (h1 : 1 ≤ (l.getD k (0, 0)).2) (h2 : 0 < k → (l.getD (k - 1) (0, 0)).1 ≠ (l.getD k (0, 0)).1)
    (h3 : (l.getD k (0, 0)).2 ≤ 200 - ((expand (l.take k)).length : Int)) : WholeOk (l.take (k + 1)) := by
  refine ⟨fun j hj => ?_, ?_⟩
  · rw [List.length_take] at hj
    rw [getD_take _ _ _ _ (by omega)]
    by_cases e : j = k
    · subst e
      exact ⟨h1, fun hp => by rw [getD_take _ _ _ _ (by omega)]; exact h2 hp⟩
    · have := h.1 j (by rw [List.length_take]; omega)
      rw [getD_take _ _ _ _ (by omega)] at this
      refine ⟨this.1, fun hp => ?_⟩
      have h4 := this.2 hp
      rw [getD_take _ _ _ _ (by omega)] at h4
      rw [getD_take _ _ _ _ (by omega)]
      exact h4
  · rw [take_succ_getD l k (0, 0) hk, expand_append, List.length_append]
    generalize l.getD k (0, 0) = x at *
    obtain ⟨b, n⟩ := x
    rw [expand_one, List.length_replicate]
    simp only at h3 h1
    omega
theorem wholeOk_at {l : List (UInt8 × Int)} {k : Nat} (hk : k < l.length) (h : WholeOk l) :
    1 ≤ (l.getD k (0, 0)).2 ∧ (0 < k → (l.getD (k - 1) (0, 0)).1 ≠ (l.getD k (0, 0)).1) ∧ (l.getD k (0, 0)).2 ≤ 200 - ((expand (l.take k)).length : Int) := by
  have h1 := h.1 k hk
  refine ⟨h1.1, h1.2, ?_⟩
  have h2 := (wholeOk_take h (k + 1)).2
  rw [take_succ_getD l k (0, 0) hk, expand_append, List.length_append] at h2
  generalize l.getD k (0, 0) = x at *
  obtain ⟨b, n⟩ := x
  rw [expand_one, List.length_replicate] at h2
  simp only at h1 ⊢
  omega

theorem count_le (l : List (UInt8 × Int)) (k : Nat) (hk : k < l.length) : (l.getD k (0, 0)).2 ≤ ((expand l).length : Int) := by
  have h := expand_take_le l (k + 1)
  rw [take_succ_getD l k (0, 0) hk, expand_append, List.length_append] at h
  generalize l.getD k (0, 0) = x at *
  obtain ⟨b, n⟩ := x
  rw [expand_one, List.length_replicate] at h
  simp only
  omega
theorem addRun_hit {l : List (UInt8 × Int)} {c : UInt8} {m : Nat} (hl : l.length = m + 1) (h : (l.getD m (0, 0)).1 = c) : addRun l c = l.set m (c, (l.getD m (0, 0)).2 + 1) := by
  unfold addRun
  rw [hl, show m + 1 - 1 = m from rfl, if_pos ⟨by omega, h⟩]
theorem addRun_miss {l : List (UInt8 × Int)} {c : UInt8} {m : Nat} (hl : l.length = m + 1) (h : (l.getD m (0, 0)).1 ≠ c) : addRun l c = l ++ [(c, 1)] := by
  unfold addRun
  rw [hl, show m + 1 - 1 = m from rfl, if_neg (fun hc => h hc.2)]
theorem addRun_none (c : UInt8) : addRun [] c = [(c, 1)] := rfl

end Go.Proofs.Ytccbfhaoepomnaa
