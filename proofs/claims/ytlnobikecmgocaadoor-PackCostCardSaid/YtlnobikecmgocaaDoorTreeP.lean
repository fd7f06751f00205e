/- The plain laws of the tree group: TreeLeast, TreeShannon, TreeHeavy out of LensOk. -/
import Derived.Test.YtlnobikecmgocaaDoorHuffP
namespace Go.Proofs.YtlnobikecmgocaaDoor
set_option linter.unusedVariables false

theorem LensOk.kr {ws o : List Nat} (h : LensOk ws o) : Kr ws.length (ws.zip o) := by
  refine ⟨fun x hx => ?_, h.room _ (Nat.le_refl _)⟩
  obtain ⟨i, hi, rfl⟩ := List.getElem_of_mem hx
  have hi' := hi
  rw [List.length_zip, h.len, Nat.min_self] at hi'
  rw [List.getElem_zip]
  have := (h.bd i hi').2
  rw [List.getD_eq_getElem?_getD, List.getElem?_eq_getElem (by rw [h.len]; exact hi')] at this
  exact this
/-- Sums of two rows, one below the other. -/
theorem sumL_le {f g : Nat → Nat} : ∀ {l : List Nat}, (∀ k ∈ l, f k ≤ g k) → sumL f l ≤ sumL g l
  | [], _ => Nat.le_refl _
  | k :: l, h => by
    rw [sumL, sumL]
    exact Nat.add_le_add (h k (by simp)) (sumL_le fun j hj => h j (by simp [hj]))
theorem sumL_add (f g : Nat → Nat) : ∀ l : List Nat, sumL (fun k => f k + g k) l = sumL f l + sumL g l
  | [] => rfl
  | k :: l => by rw [sumL, sumL, sumL, sumL_add f g l]; omega
theorem sumL_mul (c : Nat) (f : Nat → Nat) : ∀ l : List Nat, sumL (fun k => c * f k) l = c * sumL f l
  | [] => by simp [sumL]
  | k :: l => by rw [sumL, sumL, sumL_mul c f l, Nat.mul_add]
def allW (ws : List Nat) : Nat := sumL (fun k => ws.getD k 0) (List.range ws.length)
theorem LensOk.all_le {ws o : List Nat} (h : LensOk ws o) : allW ws ≤ costO ws o :=
  sumL_le fun k hk => by
    have := (h.bd k (List.mem_range.1 hk)).1
    calc ws.getD k 0 = ws.getD k 0 * 1 := (Nat.mul_one _).symm
      _ ≤ _ := Nat.mul_le_mul_left _ this
/-- The least lengths by which each weight comes to all: no cheaper. -/
theorem LensOk.shannon_up {ws o q : List Nat} (h : LensOk ws o) (hq : q.length = ws.length) (h1 : ∀ k, k < ws.length → 1 ≤ q.getD k 0) (hw : ∀ k, k < ws.length → allW ws ≤ ws.getD k 0 * 2 ^ q.getD k 0) (L : Nat) (hL : ∀ k, k < ws.length → q.getD k 0 ≤ L) :
    costO ws o ≤ costO ws q := by
  rcases Nat.eq_zero_or_pos (allW ws) with h0 | h0
  · have hz : ∀ k, k < ws.length → ws.getD k 0 = 0 := fun k hk => by
      have := sumL_ge (f := fun k => ws.getD k 0) (l := List.range ws.length) (List.mem_range.2 hk)
      show ws.getD k 0 = 0
      unfold allW at h0
      omega
    have e : costO ws o = 0 := by
      unfold costO
      rw [sumL_congr (g := fun _ => 0 * 0) fun k hk => by rw [hz k (List.mem_range.1 hk)]; simp]
      rw [sumL_mul]; simp
    rw [e]; exact Nat.zero_le _
  refine h.least q L hq h1 ⟨fun x hx => ?_, ?_⟩
  · obtain ⟨i, hi, rfl⟩ := List.getElem_of_mem hx
    have hi' := hi
    rw [List.length_zip, hq, Nat.min_self] at hi'
    rw [List.getElem_zip]
    have := hL i hi'
    rw [List.getD_eq_getElem?_getD, List.getElem?_eq_getElem (by rw [hq]; exact hi')] at this
    exact this
  · rw [krW_zip L ws q hq]
    have key : allW ws * sumL (fun k => 2 ^ (L - q.getD k 0)) (List.range ws.length) ≤ allW ws * 2 ^ L := by
      rw [← sumL_mul]
      refine Nat.le_trans (sumL_le (g := fun k => 2 ^ L * ws.getD k 0) fun k hk => ?_) (by rw [sumL_mul]; unfold allW; rw [Nat.mul_comm]; exact Nat.le_refl _)
      have hk := List.mem_range.1 hk
      calc allW ws * 2 ^ (L - q.getD k 0) ≤ (ws.getD k 0 * 2 ^ q.getD k 0) * 2 ^ (L - q.getD k 0) := Nat.mul_le_mul_right _ (hw k hk)
        _ = ws.getD k 0 * 2 ^ L := by rw [Nat.mul_assoc, ← Nat.pow_add, Nat.add_sub_cancel' (hL k hk)]
        _ = _ := Nat.mul_comm _ _
    exact Nat.le_of_mul_le_mul_left key h0
theorem pow_ge (d : Nat) : d + 1 ≤ 2 ^ d := by
  induction d with
  | zero => exact Nat.le_refl 1
  | succ d ih => rw [Nat.pow_succ]; omega
/-- One weight's share. -/
theorem share (A w m o L : Nat) (hm : w * 2 ^ m ≤ A) (hL : o ≤ L) : (w * m + w) * 2 ^ L ≤ w * o * 2 ^ L + A * 2 ^ (L - o) := by
  have e : 2 ^ L = 2 ^ o * 2 ^ (L - o) := by rw [← Nat.pow_add, Nat.add_sub_cancel' hL]
  rcases Nat.lt_or_ge m o with h | h
  · have : w * m + w ≤ w * o := by
      calc w * m + w = w * (m + 1) := by rw [Nat.mul_add, Nat.mul_one]
        _ ≤ w * o := Nat.mul_le_mul_left _ h
    exact Nat.le_trans (Nat.mul_le_mul_right _ this) (Nat.le_add_right _ _)
  · obtain ⟨d, rfl⟩ := Nat.exists_eq_add_of_le h
    have h1 : w * (o + d) + w = w * o + w * (d + 1) := by simp only [Nat.mul_add, Nat.mul_one]; omega
    rw [h1, Nat.add_mul]
    refine Nat.add_le_add_left ?_ _
    calc w * (d + 1) * 2 ^ L ≤ w * 2 ^ d * 2 ^ L := Nat.mul_le_mul_right _ (Nat.mul_le_mul_left _ (pow_ge d))
      _ = (w * 2 ^ (o + d)) * 2 ^ (L - o) := by rw [e, Nat.pow_add]; simp only [Nat.mul_assoc, Nat.mul_left_comm]
      _ ≤ A * 2 ^ (L - o) := Nat.mul_le_mul_right _ hm
theorem LensOk.shannon_low {ws o m : List Nat} (h : LensOk ws o) (hm : ∀ k, k < ws.length → ws.getD k 0 * 2 ^ m.getD k 0 ≤ allW ws) : costO ws m ≤ costO ws o := by
  have hk := h.room ws.length (Nat.le_refl _)
  rw [krW_zip _ ws o h.len] at hk
  have hs : sumL (fun k => (ws.getD k 0 * m.getD k 0 + ws.getD k 0) * 2 ^ ws.length) (List.range ws.length) ≤ sumL (fun k => ws.getD k 0 * o.getD k 0 * 2 ^ ws.length + allW ws * 2 ^ (ws.length - o.getD k 0)) (List.range ws.length) :=
    sumL_le fun k hk => share _ _ _ _ _ (hm k (List.mem_range.1 hk)) (h.bd k (List.mem_range.1 hk)).2
  rw [sumL_add, sumL_mul] at hs
  have e1 : sumL (fun k => (ws.getD k 0 * m.getD k 0 + ws.getD k 0) * 2 ^ ws.length) (List.range ws.length) = 2 ^ ws.length * (costO ws m + allW ws) := by
    rw [sumL_congr (g := fun k => 2 ^ ws.length * (ws.getD k 0 * m.getD k 0 + ws.getD k 0)) (fun k _ => Nat.mul_comm _ _), sumL_mul, sumL_add]; rfl
  have e2 : sumL (fun k => ws.getD k 0 * o.getD k 0 * 2 ^ ws.length) (List.range ws.length) = 2 ^ ws.length * costO ws o := by
    rw [sumL_congr (g := fun k => 2 ^ ws.length * (ws.getD k 0 * o.getD k 0)) (fun k _ => Nat.mul_comm _ _), sumL_mul]; rfl
  rw [e1, e2] at hs
  have h2 : allW ws * sumL (fun k => 2 ^ (ws.length - o.getD k 0)) (List.range ws.length) ≤ 2 ^ ws.length * allW ws := by
    rw [Nat.mul_comm (2 ^ _)]; exact Nat.mul_le_mul_left _ hk
  have h3 : 2 ^ ws.length * (costO ws m + allW ws) ≤ 2 ^ ws.length * (costO ws o + allW ws) := by
    rw [Nat.mul_add (2 ^ _) (costO ws o)]; omega
  have := Nat.le_of_mul_le_mul_left h3 (Nat.pow_pos (by decide))
  omega
theorem sumL_two {f : Nat → Nat} {l : List Nat} {i k : Nat} (hn : l.Nodup) (hi : i ∈ l) (hk : k ∈ l) (hik : i ≠ k) : ∃ r, sumL f l = f i + (f k + r) ∧ ∀ g : Nat → Nat, (∀ j, j ≠ i → j ≠ k → g j = f j) → sumL g l = g i + (g k + r) := by
  have p1 : l.Perm (i :: l.erase i) := List.perm_cons_erase hi
  have hk2 : k ∈ l.erase i := (List.mem_erase_of_ne (Ne.symm hik)).2 hk
  have p2 : (l.erase i).Perm (k :: (l.erase i).erase k) := List.perm_cons_erase hk2
  refine ⟨sumL f ((l.erase i).erase k), by rw [sumL_perm f p1, sumL, sumL_perm f p2, sumL], fun g hg => ?_⟩
  rw [sumL_perm g p1, sumL, sumL_perm g p2, sumL]
  congr 2
  refine sumL_congr fun j hj => hg j ?_ ?_
  · rintro rfl
    exact (List.Nodup.mem_erase_iff hn).1 (List.mem_of_mem_erase hj) |>.1 rfl
  · rintro rfl
    exact (List.Nodup.mem_erase_iff (hn.erase i)).1 hj |>.1 rfl
/-- What weighs more has no longer word. -/
theorem LensOk.heavy {ws o : List Nat} (h : LensOk ws o) {i k : Nat} (hi : i < ws.length) (hk : k < ws.length) (hw : ws.getD k 0 < ws.getD i 0) : o.getD i 0 ≤ o.getD k 0 := by
  refine Nat.le_of_not_lt fun hlt => ?_
  have hik : i ≠ k := by rintro rfl; omega
  have hol := h.len
  obtain ⟨q, hqd⟩ : ∃ q, q = (o.set i (o.getD k 0)).set k (o.getD i 0) := ⟨_, rfl⟩
  have hql : q.length = ws.length := by rw [hqd]; simpa using hol
  have qk : q.getD k 0 = o.getD i 0 := by rw [hqd, getD_set _ _ _ _ (by simp; omega), if_pos rfl]
  have qi : q.getD i 0 = o.getD k 0 := by rw [hqd, getD_set _ _ _ _ (by simp; omega), if_neg hik, getD_set _ _ _ _ (by omega), if_pos rfl]
  have qj : ∀ j, j ≠ i → j ≠ k → q.getD j 0 = o.getD j 0 := fun j h1 h2 => by rw [hqd, getD_set _ _ _ _ (by simp; omega), if_neg h2, getD_set _ _ _ _ (by omega), if_neg h1]
  have hn : (List.range ws.length).Nodup := List.nodup_range
  have mi := List.mem_range.2 hi
  have mk := List.mem_range.2 hk
  have hkr : Kr ws.length (ws.zip q) := by
    refine ⟨fun x hx => ?_, ?_⟩
    · obtain ⟨j, hj, rfl⟩ := List.getElem_of_mem hx
      have hj' := hj
      rw [List.length_zip, hql, Nat.min_self] at hj'
      rw [List.getElem_zip]
      have e : q.getD j 0 = q[j]'(by omega) := by rw [List.getD_eq_getElem?_getD, List.getElem?_eq_getElem (by omega)]; rfl
      show q[j] ≤ _
      rw [← e]
      by_cases e1 : j = i
      · rw [e1, qi]; exact (h.bd k hk).2
      · by_cases e2 : j = k
        · rw [e2, qk]; exact (h.bd i hi).2
        · rw [qj j e1 e2]; exact (h.bd j hj').2
    · have hr := h.room ws.length (Nat.le_refl _)
      rw [krW_zip _ ws o hol] at hr
      rw [krW_zip _ ws q hql]
      obtain ⟨r, e1, e2⟩ := sumL_two (f := fun k => 2 ^ (ws.length - o.getD k 0)) hn mi mk hik
      rw [e2 (fun k => 2 ^ (ws.length - q.getD k 0)) (fun j h1 h2 => by simp only [qj j h1 h2])]
      rw [e1] at hr
      simp only [qi, qk]
      omega
  have hle := h.least q ws.length hql (fun j hj => by
    by_cases e1 : j = i
    · rw [e1, qi]; exact (h.bd k hk).1
    · by_cases e2 : j = k
      · rw [e2, qk]; exact (h.bd i hi).1
      · rw [qj j e1 e2]; exact (h.bd j hj).1) hkr
  obtain ⟨r, e1, e2⟩ := sumL_two (f := fun k => ws.getD k 0 * o.getD k 0) hn mi mk hik
  have e3 := e2 (fun k => ws.getD k 0 * q.getD k 0) (fun j h1 h2 => by simp only [qj j h1 h2])
  unfold costO at hle
  rw [e1, e3, qi, qk] at hle
  obtain ⟨d, hd⟩ : ∃ d, o.getD i 0 = o.getD k 0 + (d + 1) := ⟨o.getD i 0 - o.getD k 0 - 1, by omega⟩
  obtain ⟨b, hb⟩ : ∃ b, ws.getD i 0 = ws.getD k 0 + (b + 1) := ⟨ws.getD i 0 - ws.getD k 0 - 1, by omega⟩
  rw [hd, hb] at hle
  generalize o.getD k 0 = x at *
  generalize ws.getD k 0 = v at *
  have g1 : (v + (b + 1)) * (x + (d + 1)) = v * x + v * (d + 1) + (b + 1) * x + (b + 1) * (d + 1) := by simp only [Nat.add_mul, Nat.mul_add]; omega
  have g2 : (v + (b + 1)) * x = v * x + (b + 1) * x := by rw [Nat.add_mul]
  have g3 : v * (x + (d + 1)) = v * x + v * (d + 1) := by rw [Nat.mul_add]
  have g4 : 0 < (b + 1) * (d + 1) := Nat.mul_pos (by omega) (by omega)
  rw [g1, g2, g3] at hle
  omega
theorem costO_scale (c : Nat) (ws o : List Nat) : costO (ws.map (c * ·)) o = c * costO ws o := by
  unfold costO
  rw [List.length_map, ← sumL_mul]
  refine sumL_congr fun k hk => ?_
  have hk := List.mem_range.1 hk
  rw [show (ws.map (c * ·)).getD k 0 = c * ws.getD k 0 from by rw [List.getD_eq_getElem?_getD, List.getElem?_map, List.getD_eq_getElem?_getD, List.getElem?_eq_getElem hk]; rfl, Nat.mul_assoc]
/-- So many times as heavy: so many times the cost. -/
theorem LensOk.scale {ws o m : List Nat} {c : Nat} (hc : 1 ≤ c) (h : LensOk ws o) (hm : LensOk (ws.map (c * ·)) m) : costO (ws.map (c * ·)) m = c * costO ws o := by
  have hml : m.length = ws.length := by rw [hm.len, List.length_map]
  have zl : ∀ (D : Nat) (x y : List Nat), x.length = y.length → ∀ o : List Nat, o.length = x.length → krW D (x.zip o) = krW D (y.zip o) := fun D x y hxy o ho => by
    rw [krW_zip D x o ho, krW_zip D y o (by omega), hxy]
  have a1 : costO (ws.map (c * ·)) m ≤ costO (ws.map (c * ·)) o := by
    refine hm.least o ws.length (by rw [h.len, List.length_map]) (fun k hk => (h.bd k (by simpa using hk)).1) ⟨fun x hx => ?_, ?_⟩
    · obtain ⟨j, hj, rfl⟩ := List.getElem_of_mem hx
      have hj' := hj
      rw [List.length_zip, List.length_map, h.len, Nat.min_self] at hj'
      rw [List.getElem_zip]
      have := (h.bd j hj').2
      rw [List.getD_eq_getElem?_getD, List.getElem?_eq_getElem (by rw [h.len]; exact hj')] at this
      exact this
    · rw [zl _ _ ws (by simp) o (by simpa using h.len)]
      exact h.room _ (Nat.le_refl _)
  have a2 : costO ws o ≤ costO ws m := by
    refine h.least m ws.length hml (fun k hk => (hm.bd k (by simpa using hk)).1) ⟨fun x hx => ?_, ?_⟩
    · obtain ⟨j, hj, rfl⟩ := List.getElem_of_mem hx
      have hj' := hj
      rw [List.length_zip, hml, Nat.min_self] at hj'
      rw [List.getElem_zip]
      have := (hm.bd j (by simpa using hj')).2
      rw [List.length_map, List.getD_eq_getElem?_getD, List.getElem?_eq_getElem (by rw [hml]; exact hj')] at this
      exact this
    · rw [← zl _ (ws.map (c * ·)) ws (by simp) m (by simpa using hml)]
      exact hm.room _ (by simp)
  rw [costO_scale c ws o] at a1
  refine Nat.le_antisymm a1 ?_
  rw [costO_scale c ws m]
  exact Nat.mul_le_mul_left _ a2
end Go.Proofs.YtlnobikecmgocaaDoor
