/- Plain laws of the number of readings of a text in words. -/
import Derived.Test.YtgoofbbbnphncaaDoorCodeQ
namespace Go.Proofs.YtgoofbbbnphncaaDoor
set_option linter.unusedVariables false

/-- How often a text is read in words: by its last word. -/
def cntF (l : List Wd) : Nat → Wd → Nat
  | 0, u => if u = [] then 1 else 0
  | f + 1, u => if u = [] then 1 else (l.map fun w => if w ≠ [] ∧ w <:+ u then cntF l f (u.take (u.length - w.length)) else 0).sum
def cnt (l : List Wd) (u : Wd) : Nat := cntF l u.length u
theorem sum_congr {α : Type} {f g : α → Nat} : ∀ {l : List α}, (∀ x ∈ l, f x = g x) → (l.map f).sum = (l.map g).sum
  | [], _ => rfl
  | x :: l, h => by
    simp only [List.map_cons, List.sum_cons]
    rw [h x (by simp), sum_congr fun y hy => h y (by simp [hy])]
theorem sum_le {α : Type} {f g : α → Nat} : ∀ {l : List α}, (∀ x ∈ l, f x ≤ g x) → (l.map f).sum ≤ (l.map g).sum
  | [], _ => Nat.le_refl _
  | x :: l, h => by
    simp only [List.map_cons, List.sum_cons]
    exact Nat.add_le_add (h x (by simp)) (sum_le fun y hy => h y (by simp [hy]))
theorem cntF_two (l : List Wd) : ∀ (f : Nat) (u : Wd), u.length ≤ f → ∀ g, u.length ≤ g → cntF l f u = cntF l g u
  | f, [], _, g, _ => by cases f <;> cases g <;> simp [cntF]
  | 0, a :: u, h, _, _ => by simp at h
  | f + 1, a :: u, h, 0, h' => by simp at h'
  | f + 1, a :: u, h, g + 1, h' => by
    rw [cntF, cntF, if_neg (by simp), if_neg (by simp)]
    refine sum_congr fun w _ => ?_
    by_cases c : w ≠ [] ∧ w <:+ (a :: u)
    · rw [if_pos c, if_pos c]
      have hw : 0 < w.length := List.length_pos_iff.2 c.1
      have hl : (List.take ((a :: u).length - w.length) (a :: u)).length ≤ u.length := by
        rw [List.length_take]; simp only [List.length_cons]; omega
      simp only [List.length_cons] at h h'
      exact cntF_two l f _ (by omega) g (by omega)
    · rw [if_neg c, if_neg c]
theorem cntF_more (l : List Wd) (f : Nat) (u : Wd) (h : u.length ≤ f) : cntF l f u = cntF l u.length u := cntF_two l f u h _ (Nat.le_refl _)
theorem sum_mul {α : Type} (c : Nat) (f : α → Nat) : ∀ l : List α, c * (l.map f).sum = (l.map fun x => c * f x).sum
  | [] => by simp
  | x :: l => by simp only [List.map_cons, List.sum_cons]; rw [Nat.mul_add, sum_mul c f l]
theorem cnt_nil (l : List Wd) : cnt l [] = 1 := rfl
theorem cnt_eq (l : List Wd) {u : Wd} (h : u ≠ []) : cnt l u = (l.map fun w => if w ≠ [] ∧ w <:+ u then cnt l (u.take (u.length - w.length)) else 0).sum := by
  unfold cnt
  rcases u with _ | ⟨a, u⟩
  · exact absurd rfl h
  show cntF l (u.length + 1) (a :: u) = _
  rw [cntF, if_neg h]
  refine sum_congr fun w _ => ?_
  by_cases c : w ≠ [] ∧ w <:+ (a :: u)
  · rw [if_pos c, if_pos c]
    have hw : 0 < w.length := List.length_pos_iff.2 c.1
    exact cntF_more l u.length _ (by rw [List.length_take]; simp only [List.length_cons]; omega)
  · rw [if_neg c, if_neg c]
theorem suffix_take {w u : Wd} (h : w <:+ u) : u = u.take (u.length - w.length) ++ w := by
  obtain ⟨t, rfl⟩ := h
  rw [List.length_append, Nat.add_sub_cancel, List.take_left]

/-- Of two texts in a row no fewer. -/
theorem cnt_mul (l : List Wd) (s : Wd) : ∀ (n : Nat) (t : Wd), t.length ≤ n → cnt l s * cnt l t ≤ cnt l (s ++ t)
  | 0, t, h => by
    have : t = [] := List.eq_nil_of_length_eq_zero (by omega)
    subst this
    rw [cnt_nil, List.append_nil, Nat.mul_one]
    exact Nat.le_refl _
  | n + 1, t, h => by
    by_cases ht : t = []
    · subst ht
      rw [cnt_nil, List.append_nil, Nat.mul_one]
      exact Nat.le_refl _
    rw [cnt_eq l ht, cnt_eq l (u := s ++ t) (by simp [ht]), sum_mul]
    refine sum_le fun w _ => ?_
    by_cases c : w ≠ [] ∧ w <:+ t
    · have c2 : w ≠ [] ∧ w <:+ (s ++ t) := ⟨c.1, c.2.trans (List.suffix_append _ _)⟩
      rw [if_pos c, if_pos c2]
      have hw : 0 < w.length := List.length_pos_iff.2 c.1
      have hle := c.2.length_le
      have e : (s ++ t).take ((s ++ t).length - w.length) = s ++ t.take (t.length - w.length) := by
        rw [List.length_append, Nat.add_sub_assoc hle, List.take_length_add_append]
      rw [e]
      exact cnt_mul l s n _ (by rw [List.length_take]; omega)
    · rw [if_neg c, Nat.mul_zero]
      exact Nat.zero_le _

/-- The readings, in a row. -/
theorem cnt_list {l : List Wd} (hnd : l.Nodup) : ∀ (n : Nat) (u : Wd), u.length ≤ n → ∃ D : List (List Wd), D.Nodup ∧ D.length = cnt l u ∧ ∀ q ∈ D, (∀ w ∈ q, w ∈ l) ∧ q.flatten = u
  | n, [], _ => ⟨[[]], by simp, rfl, fun q hq => by rw [List.mem_singleton.1 hq]; exact ⟨fun w hw => by simp at hw, rfl⟩⟩
  | 0, a :: u, h => by simp at h
  | n + 1, a :: u, h => by
    rw [cnt_eq l (by simp)]
    generalize hU : a :: u = U at *
    have key : ∀ m : List Wd, m.Nodup → (∀ w ∈ m, w ∈ l) → ∃ D : List (List Wd), D.Nodup ∧ D.length = (m.map fun w => if w ≠ [] ∧ w <:+ U then cnt l (U.take (U.length - w.length)) else 0).sum ∧ ∀ q ∈ D, (∀ w ∈ q, w ∈ l) ∧ q.flatten = U ∧ ∃ p w, w ∈ m ∧ q = p ++ [w] := by
      intro m
      induction m with
      | nil => exact fun _ _ => ⟨[], List.nodup_nil, rfl, fun q hq => by simp at hq⟩
      | cons w m ih =>
        intro h1 h2
        obtain ⟨h3, h4⟩ := List.nodup_cons.1 h1
        obtain ⟨D, d1, d2, d3⟩ := ih h4 fun v hv => h2 v (by simp [hv])
        simp only [List.map_cons, List.sum_cons]
        by_cases c : w ≠ [] ∧ w <:+ U
        · rw [if_pos c]
          have hw : 0 < w.length := List.length_pos_iff.2 c.1
          obtain ⟨D', e1, e2, e3⟩ := cnt_list hnd n (U.take (U.length - w.length)) (by rw [List.length_take]; omega)
          refine ⟨D'.map (· ++ [w]) ++ D, List.nodup_append.2 ⟨?_, d1, ?_⟩, by rw [List.length_append, List.length_map, e2, d2], ?_⟩
          · rw [List.Nodup, List.pairwise_map]
            exact e1.imp fun hne he => hne (List.append_cancel_right he)
          · intro q hq r hr he
            subst he
            obtain ⟨p, hp, rfl⟩ := List.mem_map.1 hq
            obtain ⟨_, _, p2, w2, hw2, he⟩ := d3 _ hr
            have := (List.append_inj' he rfl).2
            injection this with this
            subst this
            exact h3 hw2
          · intro q hq
            rcases List.mem_append.1 hq with hq | hq
            · obtain ⟨p, hp, rfl⟩ := List.mem_map.1 hq
              obtain ⟨a1, a2⟩ := e3 p hp
              refine ⟨fun v hv => ?_, ?_, p, w, by simp, rfl⟩
              · rcases List.mem_append.1 hv with hv | hv
                · exact a1 v hv
                · rw [List.mem_singleton.1 hv]; exact h2 w (by simp)
              · rw [List.flatten_append, a2, List.flatten_cons, List.flatten_nil, List.append_nil]
                exact (suffix_take c.2).symm
            · obtain ⟨a1, a2, p, v, hv, rfl⟩ := d3 q hq
              exact ⟨a1, a2, p, v, by simp [hv], rfl⟩
        · rw [if_neg c, Nat.zero_add]
          refine ⟨D, d1, d2, fun q hq => ?_⟩
          obtain ⟨a1, a2, p, v, hv, rfl⟩ := d3 q hq
          exact ⟨a1, a2, p, v, by simp [hv], rfl⟩
    obtain ⟨D, d1, d2, d3⟩ := key l hnd fun _ h => h
    exact ⟨D, d1, d2, fun q hq => ⟨(d3 q hq).1, (d3 q hq).2.1⟩⟩
/-- With uniquely decodable words at most one. -/
theorem cnt_one {l : List Wd} (hnd : l.Nodup) (h : UD l) (u : Wd) : cnt l u ≤ 1 := by
  obtain ⟨D, d1, d2, d3⟩ := cnt_list hnd _ u (Nat.le_refl _)
  rw [← d2]
  rcases D with _ | ⟨p, _ | ⟨q, D⟩⟩
  · simp
  · simp
  · exfalso
    have := h p q (d3 p (by simp)).1 (d3 q (by simp)).1 ((d3 p (by simp)).2.trans (d3 q (by simp)).2.symm)
    subst this
    simp at d1

theorem pow_sum : ∀ (n : Nat) (xs : List Nat), xs.Nodup → (∀ x ∈ xs, x < n) → (xs.map fun x => 2 ^ x).sum < 2 ^ n
  | 0, xs, _, h => by
    rcases xs with _ | ⟨x, xs⟩
    · simp
    · exact absurd (h x (by simp)) (by omega)
  | n + 1, xs, hd, h => by
    by_cases hm : n ∈ xs
    · have hp := List.perm_cons_erase hm
      rw [(hp.map _).sum_nat, List.map_cons, List.sum_cons, Nat.pow_succ]
      have := pow_sum n (xs.erase n) (hd.erase _) fun x hx => by
        have h1 := h x (List.mem_of_mem_erase hx)
        have h2 : x ≠ n := fun e => by
          subst e
          exact (List.Nodup.not_mem_erase hd) hx
        omega
      omega
    · have := pow_sum n xs hd fun x hx => by
        have h1 := h x hx
        have h2 : x ≠ n := fun e => hm (e ▸ hx)
        omega
      rw [Nat.pow_succ]
      omega
/-- Not so many. -/
theorem cnt_pow {l : List Wd} (hnd : l.Nodup) : ∀ (n : Nat) (u : Wd), u.length ≤ n → cnt l u ≤ 2 ^ u.length
  | n, [], _ => Nat.le_refl _
  | 0, a :: u, h => by simp at h
  | n + 1, a :: u, h => by
    rw [cnt_eq l (by simp)]
    generalize hU : a :: u = U at *
    have h1 : (l.map fun w => if w ≠ [] ∧ w <:+ U then cnt l (U.take (U.length - w.length)) else 0).sum ≤ (l.map fun w => if w ≠ [] ∧ w <:+ U then 2 ^ (U.length - w.length) else 0).sum := by
      refine sum_le fun w _ => ?_
      by_cases c : w ≠ [] ∧ w <:+ U
      · rw [if_pos c, if_pos c]
        have hw : 0 < w.length := List.length_pos_iff.2 c.1
        have := cnt_pow hnd n (U.take (U.length - w.length)) (by rw [List.length_take]; omega)
        rw [List.length_take, Nat.min_eq_left (by omega)] at this
        exact this
      · rw [if_neg c, if_neg c]; exact Nat.le_refl _
    have h2 : ∀ m : List Wd, (m.map fun w => if w ≠ [] ∧ w <:+ U then 2 ^ (U.length - w.length) else 0).sum = (((m.filter fun w => decide (w ≠ [] ∧ w <:+ U)).map fun w => U.length - w.length).map fun x => 2 ^ x).sum := by
      intro m
      induction m with
      | nil => rfl
      | cons w m ih =>
        by_cases c : w ≠ [] ∧ w <:+ U
        · rw [List.map_cons, List.sum_cons, if_pos c, List.filter_cons_of_pos (by simpa using c), List.map_cons, List.map_cons, List.sum_cons, ih]
        · rw [List.map_cons, List.sum_cons, if_neg c, List.filter_cons_of_neg (by simpa using c), ih, Nat.zero_add]
    have h3 : (((l.filter fun w => decide (w ≠ [] ∧ w <:+ U)).map fun w => U.length - w.length)).Nodup := by
      rw [List.Nodup, List.pairwise_map]
      refine (List.Nodup.sublist List.filter_sublist hnd).imp_of_mem ?_
      intro v w hv hw hne he
      have hv := of_decide_eq_true (List.mem_filter.1 hv).2
      have hw := of_decide_eq_true (List.mem_filter.1 hw).2
      have l1 := hv.2.length_le
      have l2 := hw.2.length_le
      have e : v.length = w.length := by omega
      obtain ⟨t1, e1⟩ := hv.2
      obtain ⟨t2, e2⟩ := hw.2
      exact hne (List.append_inj' (e1.trans e2.symm) e).2
    have h4 := pow_sum U.length _ h3 fun x hx => by
      obtain ⟨w, hw, rfl⟩ := List.mem_map.1 hx
      have hw := of_decide_eq_true (List.mem_filter.1 hw).2
      have l1 := hw.2.length_le
      have l2 : 0 < w.length := List.length_pos_iff.2 hw.1
      omega
    rw [h2] at h1
    omega

/-- What stands at place j of Ways' row when all places before k and the words before m at place k are done. -/
def wayP (l : List Wd) (s : Wd) (k j : Nat) : Nat := if j = 0 then 1 else (l.map fun w => if w ≠ [] ∧ w <:+ s.take j ∧ j - w.length < k then cnt l (s.take (j - w.length)) else 0).sum
def wayQ (l : List Wd) (s : Wd) (k m j : Nat) : Nat := wayP l s k j + ((l.take m).map fun w => if w <+: s.drop k ∧ j = k + w.length then cnt l (s.take k) else 0).sum
def rowQ (l : List Wd) (s : Wd) (k m : Nat) : List Int := (List.range (s.length + 1)).map fun j => (wayQ l s k m j : Int)

theorem sum_add {α : Type} (f g : α → Nat) : ∀ l : List α, (l.map f).sum + (l.map g).sum = (l.map fun x => f x + g x).sum
  | [] => by simp
  | x :: l => by
    simp only [List.map_cons, List.sum_cons]
    rw [← sum_add f g l]
    omega
theorem sum_nil {α : Type} {f : α → Nat} : ∀ {l : List α}, (∀ x ∈ l, f x = 0) → (l.map f).sum = 0
  | [], _ => rfl
  | x :: l, h => by
    simp only [List.map_cons, List.sum_cons]
    rw [h x (by simp), sum_nil fun y hy => h y (by simp [hy])]
theorem suffix_prefix {s w : Wd} {k : Nat} (h : k + w.length ≤ s.length) : w <:+ s.take (k + w.length) ↔ w <+: s.drop k := by
  have e : s.take (k + w.length) = s.take k ++ (s.drop k).take w.length := List.take_add
  have hl : ((s.drop k).take w.length).length = w.length := by rw [List.length_take, List.length_drop]; omega
  rw [List.prefix_iff_eq_take, e]
  constructor
  · rintro ⟨t, ht⟩
    exact (List.append_inj' ht hl.symm).2
  · intro h
    exact ⟨s.take k, congrArg (s.take k ++ ·) h⟩
theorem take_take_le (s : Wd) {a b : Nat} (h : a ≤ b) : (s.take b).take a = s.take a := by rw [List.take_take, Nat.min_eq_left h]
theorem wayP_le (l : List Wd) (s : Wd) (k j : Nat) (hj : j ≤ s.length) : wayP l s k j ≤ cnt l (s.take j) := by
  unfold wayP
  by_cases h0 : j = 0
  · subst h0
    rw [if_pos rfl, List.take_zero, cnt_nil]
    exact Nat.le_refl _
  have hl : (s.take j).length = j := by rw [List.length_take]; omega
  rw [if_neg h0, cnt_eq l (u := s.take j) (fun h => h0 (by rw [← hl, h]; rfl))]
  refine sum_le fun w _ => ?_
  by_cases c : w ≠ [] ∧ w <:+ s.take j ∧ j - w.length < k
  · rw [if_pos c, if_pos ⟨c.1, c.2.1⟩, hl, take_take_le s (Nat.sub_le _ _)]
    exact Nat.le_refl _
  · rw [if_neg c]
    exact Nat.zero_le _
theorem wayP_at (l : List Wd) (s : Wd) (k j : Nat) (hj : j ≤ s.length) (hk : j ≤ k) : wayP l s k j = cnt l (s.take j) := by
  unfold wayP
  by_cases h0 : j = 0
  · subst h0
    rw [if_pos rfl, List.take_zero, cnt_nil]
  have hl : (s.take j).length = j := by rw [List.length_take]; omega
  rw [if_neg h0, cnt_eq l (u := s.take j) (fun h => h0 (by rw [← hl, h]; rfl))]
  refine sum_congr fun w _ => ?_
  by_cases c : w ≠ [] ∧ w <:+ s.take j
  · have hw : 0 < w.length := List.length_pos_iff.2 c.1
    rw [if_pos c, if_pos ⟨c.1, c.2, by omega⟩, hl, take_take_le s (Nat.sub_le _ _)]
  · rw [if_neg c, if_neg fun h => c ⟨h.1, h.2.1⟩]
theorem wayQ_next {l : List Wd} (hne : ∀ w ∈ l, w ≠ []) (s : Wd) (k j : Nat) (hj : j ≤ s.length) : wayQ l s k l.length j = wayP l s (k + 1) j := by
  unfold wayQ wayP
  rw [List.take_length]
  by_cases h0 : j = 0
  · rw [if_pos h0, if_pos h0, sum_nil fun w hw => if_neg fun h => ?_]
    have := List.length_pos_iff.2 (hne w hw)
    omega
  rw [if_neg h0, if_neg h0, sum_add]
  refine sum_congr fun w hw => ?_
  have hp := List.length_pos_iff.2 (hne w hw)
  by_cases c1 : j = k + w.length
  · subst c1
    have e := suffix_prefix hj
    rw [if_neg fun h => by omega, Nat.zero_add]
    by_cases c2 : w <+: s.drop k
    · rw [if_pos ⟨c2, rfl⟩, if_pos ⟨hne w hw, e.2 c2, by omega⟩, Nat.add_sub_cancel]
    · rw [if_neg fun h => c2 h.1, if_neg fun h => c2 (e.1 h.2.1)]
  · rw [if_neg (c := w <+: s.drop k ∧ j = k + w.length) fun h => c1 h.2, Nat.add_zero]
    by_cases c2 : w ≠ [] ∧ w <:+ s.take j ∧ j - w.length < k
    · rw [if_pos c2, if_pos ⟨c2.1, c2.2.1, by omega⟩]
    · rw [if_neg c2, if_neg fun h => c2 ⟨h.1, h.2.1, by
        have := h.2.1.length_le
        rw [List.length_take] at this
        omega⟩]
theorem sum_take_le {α : Type} (f : α → Nat) : ∀ (l : List α) (m : Nat), ((l.take m).map f).sum ≤ (l.map f).sum
  | [], m => by simp
  | x :: l, 0 => by simp
  | x :: l, m + 1 => by
    simp only [List.take_succ_cons, List.map_cons, List.sum_cons]
    have := sum_take_le f l m
    omega
theorem wayQ_le {l : List Wd} (hne : ∀ w ∈ l, w ≠ []) (hnd : l.Nodup) (s : Wd) (k m j : Nat) (hj : j ≤ s.length) : wayQ l s k m j ≤ 2 ^ j := by
  have h1 : wayQ l s k m j ≤ wayQ l s k l.length j := by
    unfold wayQ
    rw [List.take_length]
    exact Nat.add_le_add_left (sum_take_le _ l m) _
  have h2 := wayP_le l s (k + 1) j hj
  have h3 := cnt_pow hnd _ (s.take j) (Nat.le_refl _)
  rw [wayQ_next hne s k j hj] at h1
  rw [List.length_take, Nat.min_eq_left hj] at h3
  omega
theorem wayQ_at {l : List Wd} (hne : ∀ w ∈ l, w ≠ []) (s : Wd) (k m : Nat) (hk : k ≤ s.length) : wayQ l s k m k = cnt l (s.take k) := by
  unfold wayQ
  rw [wayP_at l s k k hk (Nat.le_refl _), sum_nil fun w hw => if_neg fun h => ?_, Nat.add_zero]
  have := List.length_pos_iff.2 (hne w (List.mem_of_mem_take hw))
  omega
theorem wayQ_step {l : List Wd} (s : Wd) (k m j : Nat) (w : Wd) (h : l.take (m + 1) = l.take m ++ [w]) : wayQ l s k (m + 1) j = wayQ l s k m j + if w <+: s.drop k ∧ j = k + w.length then cnt l (s.take k) else 0 := by
  unfold wayQ
  rw [h, List.map_append, List.sum_append, Nat.add_assoc]
  simp

theorem rowQ_len (l : List Wd) (s : Wd) (k m : Nat) : (rowQ l s k m).length = s.length + 1 := by simp [rowQ]
theorem rowQ_get (l : List Wd) (s : Wd) (k m j : Nat) (h : j ≤ s.length) : (rowQ l s k m).getD j 0 = (wayQ l s k m j : Int) := by
  unfold rowQ
  rw [List.getD_eq_getElem?_getD, List.getElem?_map, List.getElem?_range (by omega)]
  rfl
theorem rowQ_start (l : List Wd) (s : Wd) (hne : ∀ w ∈ l, w ≠ []) : (List.replicate (s.length + 1) (0 : Int)).set 0 1 = rowQ l s 0 0 := by
  refine List.ext_getElem (by simp [rowQ]) fun j h1 h2 => ?_
  rw [List.getElem_set, List.getElem_replicate]
  simp only [rowQ, List.getElem_map, List.getElem_range]
  unfold wayQ wayP
  rw [List.take_zero]
  by_cases h : 0 = j
  · rw [if_pos h, if_pos h.symm]; rfl
  · rw [if_neg h, if_neg fun e => h e.symm, sum_nil fun w _ => if_neg fun h => by omega]; rfl
theorem rowQ_next {l : List Wd} (hne : ∀ w ∈ l, w ≠ []) (s : Wd) (k : Nat) : rowQ l s k l.length = rowQ l s (k + 1) 0 := by
  unfold rowQ
  refine List.map_congr_left fun j hj => ?_
  rw [wayQ_next hne s k j (by have := List.mem_range.1 hj; omega)]
  unfold wayQ
  simp
theorem rowQ_no {l : List Wd} (s : Wd) (k m : Nat) (w : Wd) (h : l.take (m + 1) = l.take m ++ [w]) (hp : ¬ w <+: s.drop k) : rowQ l s k (m + 1) = rowQ l s k m := by
  unfold rowQ
  refine List.map_congr_left fun j hj => ?_
  rw [wayQ_step s k m j w h, if_neg fun h => hp h.1, Nat.add_zero]
theorem rowQ_yes {l : List Wd} (s : Wd) (k m : Nat) (w : Wd) (h : l.take (m + 1) = l.take m ++ [w]) (hp : w <+: s.drop k) (hle : k + w.length ≤ s.length) :
    (rowQ l s k m).set (k + w.length) ((wayQ l s k m (k + w.length) : Int) + (cnt l (s.take k) : Int)) = rowQ l s k (m + 1) := by
  refine List.ext_getElem (by simp [rowQ]) fun j h1 h2 => ?_
  rw [List.getElem_set]
  simp only [rowQ, List.getElem_map, List.getElem_range]
  rw [wayQ_step s k m j w h]
  by_cases e : k + w.length = j
  · rw [if_pos e, if_pos ⟨hp, e.symm⟩, e]
    omega
  · rw [if_neg e, if_neg fun h => e h.2.symm, Nat.add_zero]
theorem rowQ_room {l : List Wd} (hne : ∀ w ∈ l, w ≠ []) (hnd : l.Nodup) (s : Wd) (k m : Nat) (w : Wd) (h : l.take (m + 1) = l.take m ++ [w]) (hp : w <+: s.drop k) (hle : k + w.length ≤ s.length) (hs : s.length ≤ 40) :
    wayQ l s k m (k + w.length) + cnt l (s.take k) ≤ 1099511627776 := by
  have h1 := wayQ_step s k m (k + w.length) w h
  rw [if_pos ⟨hp, rfl⟩] at h1
  have h2 := wayQ_le hne hnd s k (m + 1) (k + w.length) hle
  have h3 : 2 ^ (k + w.length) ≤ 2 ^ 40 := Nat.pow_le_pow_right (by omega) (by omega)
  rw [h1] at h2
  exact Nat.le_trans h2 h3
end Go.Proofs.YtgoofbbbnphncaaDoor
