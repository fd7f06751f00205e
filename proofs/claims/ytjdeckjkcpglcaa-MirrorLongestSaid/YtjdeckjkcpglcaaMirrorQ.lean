/- Plain: all palindromes by their middles; what is left of a sorted row once neighbours that are alike are one. -/
import Derived.Test.YtjdeckjkcpglcaaMirrorP
import Derived.Test.YtjdeckjkcpglcaaMirror
import Derived.Lib.SlicesCompact
namespace Go.Proofs.Ytjdeckjkcpglcaa
open Go.Lib
set_option linter.unusedVariables false

def seg (s : List UInt8) (a n : Nat) : List UInt8 := (s.drop a).take n
theorem seg_len {s : List UInt8} {a n : Nat} (h : a + n ≤ s.length) : (seg s a n).length = n := by unfold seg; rw [List.length_take, List.length_drop]; omega
theorem seg_getD {s : List UInt8} {a n x : Nat} (hx : x < n) : (seg s a n).getD x 0 = s.getD (a + x) 0 := by unfold seg; rw [getD_take _ _ _ _ hx, getD_drop]
theorem arm_pal {s : List UInt8} {a n : Nat} (h : Arm s (n + 2 * a) n) : (seg s a n).reverse = seg s a n := by
  have h2 := h.2.1
  have hl := seg_len (s := s) (a := a) (n := n) (by omega)
  refine ext_getD _ _ 0 (by rw [List.length_reverse]) fun x hx => ?_
  rw [List.length_reverse, hl] at hx
  rw [getD_reverse _ _ _ (by rw [hl]; exact hx), hl, seg_getD (by omega), seg_getD hx]
  have key : ∀ j, j ≤ n → j % 2 ≠ n % 2 → s.getD ((n + 2 * a - j) / 2) 0 = s.getD ((n + 2 * a + j) / 2) 0 := fun j hj hpar => by
    have := h.2.2 j hj
    rw [gapped_odd _ _ (by omega), gapped_odd _ _ (by omega)] at this
    exact Option.some.inj this
  by_cases hc : 2 * x + 1 ≤ n
  · have := key (n - (2 * x + 1)) (by omega) (by omega)
    rw [show (n + 2 * a - (n - (2 * x + 1))) / 2 = a + x from by omega, show (n + 2 * a + (n - (2 * x + 1))) / 2 = a + (n - 1 - x) from by omega] at this
    exact this.symm
  · have := key (2 * x + 1 - n) (by omega) (by omega)
    rw [show (n + 2 * a - (2 * x + 1 - n)) / 2 = a + (n - 1 - x) from by omega, show (n + 2 * a + (2 * x + 1 - n)) / 2 = a + x from by omega] at this
    exact this
theorem pal_arm {s : List UInt8} {a n : Nat} (hn : a + n ≤ s.length) (h : (seg s a n).reverse = seg s a n) : Arm s (n + 2 * a) n := by
  refine ⟨by omega, by omega, fun j hj => ?_⟩
  rcases Nat.mod_two_eq_zero_or_one (n + 2 * a - j) with e | e
  · rw [gapped_even _ _ e, gapped_even _ _ (by omega)]
  · rw [gapped_odd _ _ e, gapped_odd _ _ (by omega)]
    have hl := seg_len hn
    obtain ⟨x, hx⟩ : ∃ x, x = (n - j - 1) / 2 := ⟨_, rfl⟩
    have hx1 : x < n := by omega
    have h1 : (seg s a n).reverse.getD x 0 = (seg s a n).getD x 0 := by rw [h]
    rw [getD_reverse _ _ _ (by rw [hl]; exact hx1), hl, seg_getD (by omega), seg_getD hx1] at h1
    rw [show (n + 2 * a - j) / 2 = a + x from by omega, show (n + 2 * a + j) / 2 = a + (n - 1 - x) from by omega, h1]
/-- The palindromes around a middle, the longest first. -/
def palK (s : List UInt8) (k : Nat) : Nat → List (List UInt8)
  | 0 => []
  | 1 => [seg s ((k - 1) / 2) 1]
  | x + 2 => seg s ((k - (x + 2)) / 2) (x + 2) :: palK s k x
theorem palK_mem (s : List UInt8) (k : Nat) : ∀ (x : Nat) (y : List UInt8), y ∈ palK s k x ↔ ∃ m, 0 < m ∧ m ≤ x ∧ m % 2 = x % 2 ∧ y = seg s ((k - m) / 2) m
  | 0, y => by
    constructor
    · intro h; cases h
    · rintro ⟨m, h1, h2, _⟩; omega
  | 1, y => by
    rw [palK, List.mem_singleton]
    constructor
    · rintro rfl; exact ⟨1, by omega, by omega, rfl, rfl⟩
    · rintro ⟨m, h1, h2, _, rfl⟩
      obtain rfl : m = 1 := by omega
      rfl
  | x + 2, y => by
    rw [palK, List.mem_cons, palK_mem s k x y]
    constructor
    · rintro (rfl | ⟨m, h1, h2, h3, h4⟩)
      · exact ⟨x + 2, by omega, by omega, rfl, rfl⟩
      · exact ⟨m, h1, by omega, by omega, h4⟩
    · rintro ⟨m, h1, h2, h3, h4⟩
      by_cases e : m = x + 2
      · subst e; exact .inl h4
      · exact .inr ⟨m, h1, by omega, by omega, h4⟩
/-- All of them, by their middles. -/
def palA (s : List UInt8) (f : Nat → Nat) (k : Nat) : List (List UInt8) := (List.range k).flatMap fun k => palK s k (f k)
theorem palA_succ (s : List UInt8) (f : Nat → Nat) (k : Nat) : palA s f (k + 1) = palA s f k ++ palK s k (f k) := by
  unfold palA
  rw [List.range_succ, List.flatMap_append]
  simp
theorem palA_mem {s : List UInt8} {f : Nat → Nat} (h : ∀ k, k < 2 * s.length + 1 → IsArm s k (f k)) {y : List UInt8} : y ∈ palA s f (2 * s.length + 1) ↔ Pal s y := by
  unfold palA
  rw [List.mem_flatMap]
  constructor
  · rintro ⟨k, hk, hy⟩
    have hk := List.mem_range.1 hk
    rw [palK_mem] at hy
    obtain ⟨m, h1, h2, h3, rfl⟩ := hy
    have ha := h k hk
    have hb := isArm_bd ha
    have hp := isArm_parity ha
    obtain ⟨a, hka⟩ : ∃ a, k = m + 2 * a := ⟨(k - m) / 2, by omega⟩
    have e1 : (k - m) / 2 = a := by omega
    rw [e1]
    have hle : a + m ≤ s.length := by omega
    have harm : Arm s (m + 2 * a) m := by rw [← hka]; exact ha.1.less h2
    have hl := seg_len hle
    refine ⟨⟨fun e => by rw [e] at hl; simp at hl; omega, a, by omega, List.take_prefix _ _⟩, arm_pal harm⟩
  · rintro ⟨⟨h0, a, ha, hp⟩, hr⟩
    have hlen := hp.length_le
    rw [List.length_drop] at hlen
    have hpos := List.length_pos_iff.2 h0
    have hys : y = seg s a y.length := List.prefix_iff_eq_take.1 hp
    have hle : a + y.length ≤ s.length := by omega
    have harm : Arm s (y.length + 2 * a) y.length := pal_arm hle (by rw [← hys]; exact hr)
    have hi := h (y.length + 2 * a) (by omega)
    have hmax : y.length ≤ f (y.length + 2 * a) := Nat.le_of_not_lt fun hlt => hi.2 (harm.less hlt)
    have hpar := isArm_parity hi
    refine ⟨y.length + 2 * a, List.mem_range.2 (by omega), ?_⟩
    rw [palK_mem]
    exact ⟨y.length, hpos, hmax, by omega, by rw [show (y.length + 2 * a - y.length) / 2 = a by omega]; exact hys⟩

/-- The library's order of texts is ours. -/
theorem lt_llt : ∀ a b : List UInt8, a < b ↔ llt a b = true
  | [], [] => by simp [llt]
  | [], _ :: _ => by simp [llt]
  | _ :: _, [] => by simp [llt]
  | x :: a, y :: b => by
    rw [List.cons_lt_cons_iff, llt_cons, lt_llt a b]
theorem le_lle (a b : List UInt8) : a ≤ b ↔ lle a b := by
  show ¬ b < a ↔ _
  rw [lt_llt]
  unfold lle
  rw [Bool.not_eq_true]
theorem sorted_lle (l : List (List UInt8)) : (l.mergeSort fun x y => decide (x ≤ y)).Pairwise lle := by
  have := List.pairwise_mergeSort (le := fun x y : List UInt8 => decide (x ≤ y)) (fun a b c h1 h2 => by
    have h1 := of_decide_eq_true h1
    have h2 := of_decide_eq_true h2
    rw [le_lle] at h1 h2
    exact decide_eq_true ((le_lle _ _).2 (lle_trans h1 h2))) (fun a b => by
    rcases llt_tri a b with h | h | h
    · rw [decide_eq_true ((le_lle _ _).2 (lle_of_lt h)), Bool.true_or]
    · rw [decide_eq_true ((le_lle _ _).2 (h ▸ lle_refl _)), Bool.true_or]
    · rw [decide_eq_true ((le_lle b a).2 (lle_of_lt h)), Bool.or_true]) l
  exact this.imp fun h => (le_lle _ _).1 (of_decide_eq_true h)
theorem compact_sorted {zs : List (List UInt8)} (hs : zs.Pairwise lle) : ∀ m, m ≤ zs.length → (compactUpTo zs.toArray m).Nodup ∧ ∀ y, y ∈ compactUpTo zs.toArray m ↔ y ∈ zs.take m
  | 0, _ => ⟨by simp [compactUpTo], fun y => by simp [compactUpTo]⟩
  | m + 1, hm => by
    obtain ⟨h1, h2⟩ := compact_sorted hs m (by omega)
    have ed : ∀ j, j < zs.length → zs.toArray[j]! = zs.getD j [] := fun j hj => by
      rw [getElem!_pos zs.toArray j (by simpa using hj), getD_some _ _ _ hj]; simp
    rw [compactUpTo_succ, take_succ_getD zs m [] (by omega), ed m (by omega)]
    by_cases hk : keeps zs.toArray m = true
    · rw [if_pos hk]
      have hnew : zs.getD m [] ∉ compactUpTo zs.toArray m := fun hmem => by
        rw [h2] at hmem
        obtain ⟨j, hj, e⟩ := List.getElem_of_mem hmem
        rw [List.length_take] at hj
        rw [List.getElem_take] at e
        have h0 : m ≠ 0 := by omega
        unfold keeps at hk
        have hk := of_decide_eq_true hk
        rcases hk with hk | hk
        · exact h0 hk
        · rw [ed m (by omega), ed (m - 1) (by omega)] at hk
          have a1 : lle (zs.getD (m - 1) []) (zs.getD m []) := by
            rw [getD_some _ _ _ (by omega), getD_some _ _ _ (by omega)]
            exact List.pairwise_iff_getElem.1 hs (m - 1) m _ _ (by omega)
          have a2 : lle (zs.getD m []) (zs.getD (m - 1) []) := by
            rw [← e]
            rcases Nat.lt_or_ge j (m - 1) with hjm | hjm
            · rw [getD_some _ _ _ (show m - 1 < zs.length by omega)]
              exact List.pairwise_iff_getElem.1 hs j (m - 1) _ _ hjm
            · obtain rfl : j = m - 1 := by omega
              rw [getD_some _ _ _ (show m - 1 < zs.length by omega)]
              exact lle_refl _
          exact hk (lle_antisymm a2 a1)
      refine ⟨?_, fun y => ?_⟩
      · rw [List.nodup_append]
        refine ⟨h1, by simp, fun a ha b hb => ?_⟩
        rw [List.mem_singleton] at hb
        subst hb
        rintro rfl
        exact hnew ha
      · rw [List.mem_append, List.mem_append, h2]
    · rw [if_neg hk, List.append_nil]
      refine ⟨h1, fun y => ?_⟩
      rw [h2, List.mem_append, List.mem_singleton]
      refine ⟨.inl, ?_⟩
      rintro (h | rfl)
      · exact h
      · have hk2 : ¬ (m = 0 ∨ zs.toArray[m]! ≠ zs.toArray[m - 1]!) := fun h => hk (decide_eq_true h)
        have h0 : m ≠ 0 := fun e => hk2 (.inl e)
        have he : zs.toArray[m]! = zs.toArray[m - 1]! := Decidable.byContradiction fun h => hk2 (.inr h)
        rw [ed m (by omega), ed (m - 1) (by omega)] at he
        rw [he, getD_some _ _ _ (by omega)]
        exact List.mem_take_iff_getElem.2 ⟨m - 1, by omega, rfl⟩
theorem compact_many {P : List UInt8 → Prop} {l : List (List UInt8)} (h : ∀ y, y ∈ l ↔ P y) : Many P (compact (l.mergeSort fun x y => decide (x ≤ y))).length := by
  obtain ⟨h1, h2⟩ := compact_sorted (sorted_lle l) _ (Nat.le_refl _)
  refine ⟨_, h1, fun y => ?_, rfl⟩
  rw [h2, List.take_length, (List.mergeSort_perm l _).mem_iff, h]
end Go.Proofs.Ytjdeckjkcpglcaa
