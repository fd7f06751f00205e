/- Plain: backward search over the last bytes of the sorted turns counts where a text stands around the ring. -/
import Derived.Test.YtmkcmjhdbjhmmaaSuffixP
namespace Go.Proofs.Ytmkcmjhdbjhmmaa
set_option linter.unusedVariables false

/-- The first m bytes from place i on, around the ring. -/
def pw (s : List UInt8) (i : Nat) : Nat → List UInt8
  | 0 => []
  | m + 1 => s.getD (i % s.length) 0 :: pw s (i + 1) m
theorem pw_len (s : List UInt8) : ∀ (m i : Nat), (pw s i m).length = m
  | 0, _ => rfl
  | m + 1, i => by rw [pw, List.length_cons, pw_len s m]
theorem pw_add (s : List UInt8) : ∀ (a i b : Nat), pw s i (a + b) = pw s i a ++ pw s (i + a) b
  | 0, i, b => by rw [Nat.zero_add]; rfl
  | a + 1, i, b => by
    rw [show a + 1 + b = (a + b) + 1 by omega, pw, pw, pw_add s a, show i + 1 + a = i + (a + 1) by omega]; rfl
theorem pw_turn (s : List UInt8) : ∀ (m i : Nat), pw s (i + s.length) m = pw s i m
  | 0, _ => rfl
  | m + 1, i => by rw [pw, pw, Nat.add_mod_right, show i + s.length + 1 = (i + 1) + s.length by omega, pw_turn s m]
theorem pw_mod (s : List UInt8) (i m : Nat) : pw s (i % s.length) m = pw s i m := by
  have h := Nat.mod_add_div i s.length
  have key : ∀ k a, pw s (a + s.length * k) m = pw s a m := fun k => by
    induction k with
    | zero => intro a; rfl
    | succ k ih => intro a; rw [Nat.mul_succ, ← Nat.add_assoc, pw_turn, ih]
  have := key (i / s.length) (i % s.length)
  rw [h] at this
  exact this.symm
theorem pw_getD (s : List UInt8) : ∀ (m i j : Nat), j < m → (pw s i m).getD j 0 = s.getD ((i + j) % s.length) 0
  | 0, _, _, h => absurd h (Nat.not_lt_zero _)
  | m + 1, i, 0, _ => by rw [pw]; rfl
  | m + 1, i, j + 1, h => by
    rw [pw]
    show (pw s (i + 1) m).getD j 0 = _
    rw [pw_getD s m (i + 1) j (by omega), show i + 1 + j = i + (j + 1) by omega]
theorem pw_rot {s : List UInt8} {i : Nat} (hi : i < s.length) : pw s i s.length = rotL s i := by
  refine ext_getD _ _ 0 (by rw [pw_len, rotL_len]) fun j hj => ?_
  rw [pw_len] at hj
  rw [pw_getD s _ _ _ hj]
  unfold rotL
  rcases Nat.lt_or_ge (i + j) s.length with h | h
  · rw [getD_app_left _ _ _ _ (by rw [List.length_drop]; omega), getD_drop, Nat.mod_eq_of_lt h]
  · rw [getD_app_right _ _ _ _ (by rw [List.length_drop]; omega), List.length_drop, getD_take _ _ _ _ (by omega), Nat.mod_eq_sub_mod h, Nat.mod_eq_of_lt (by omega)]
    congr 1; omega
theorem lle_take : ∀ (m : Nat) {a b : List UInt8}, lle a b → lle (a.take m) (b.take m)
  | 0, a, b, _ => by rw [List.take_zero, List.take_zero]; exact lle_refl _
  | m + 1, [], b, _ => by rw [List.take_nil]; exact llt_nil _
  | m + 1, x :: a, [], h => by unfold lle at h; simp [llt] at h
  | m + 1, x :: a, y :: b, h => by
    rw [List.take_succ_cons, List.take_succ_cons]
    rw [lle_cons] at h ⊢
    rcases h with h | ⟨h, k⟩
    · exact .inl h
    · exact .inr ⟨h, lle_take m k⟩
theorem pw_take (s : List UInt8) (i : Nat) {m n : Nat} (h : m ≤ n) : pw s i m = (pw s i n).take m := by
  obtain ⟨d, rfl⟩ := Nat.exists_eq_add_of_le h
  rw [pw_add, List.take_left' (pw_len s m i)]
theorem pw_same {s : List UInt8} {i k : Nat} (h : pw s i s.length = pw s k s.length) (h0 : 0 < s.length) : ∀ (f m : Nat), m ≤ f → pw s i m = pw s k m
  | 0, m, hm => by obtain rfl : m = 0 := by omega
                   rfl
  | f + 1, m, hm => by
    rcases Nat.le_total m s.length with hle | hle
    · rw [pw_take s i hle, pw_take s k hle, h]
    · obtain ⟨d, rfl⟩ := Nat.exists_eq_add_of_le hle
      rw [pw_add, pw_add, pw_turn, pw_turn, h, pw_same h h0 f d (by omega)]
/-- Sorted turns stay sorted by however many bytes. -/
theorem pw_le {s : List UInt8} {i k : Nat} (h0 : 0 < s.length) (h : lle (pw s i s.length) (pw s k s.length)) (m : Nat) : lle (pw s i m) (pw s k m) := by
  rcases lle_iff.1 h with hlt | he
  · rcases Nat.le_total m s.length with hle | hle
    · rw [pw_take s i hle, pw_take s k hle]; exact lle_take m h
    · obtain ⟨d, rfl⟩ := Nat.exists_eq_add_of_le hle
      rcases llt_dif hlt with hd | ⟨c, hc, e⟩
      · rw [pw_add, pw_add]
        exact lle_of_lt (hd.app _ _).lt
      · have := congrArg List.length e
        rw [List.length_append, pw_len, pw_len] at this
        exact absurd (List.eq_nil_of_length_eq_zero (by omega)) hc
  · rw [pw_same he h0 m m (Nat.le_refl _)]; exact lle_refl _

theorem countP_down {α : Type} (g : α → Bool) : ∀ (l : List α), l.Pairwise (fun a b => g b = true → g a = true) → l.filter g = l.take (l.countP g)
  | [], _ => rfl
  | x :: l, h => by
    rw [List.pairwise_cons] at h
    by_cases hx : g x = true
    · rw [List.filter_cons_of_pos hx, List.countP_cons_of_pos hx, List.take_succ_cons, countP_down g l h.2]
    · have hn : ∀ y ∈ l, ¬ g y = true := fun y hy e => hx (h.1 y hy e)
      rw [List.filter_cons_of_neg hx, List.countP_cons_of_neg hx, List.countP_eq_zero.2 hn, List.filter_eq_nil_iff.2 hn, List.take_zero]
theorem countP_cut {α : Type} (f g : α → Bool) {l : List α} (h : l.Pairwise (fun a b => g b = true → g a = true)) : l.countP (fun x => f x && g x) = (l.take (l.countP g)).countP f := by
  rw [← countP_down g l h, List.countP_filter]
theorem countP_split {α : Type} (f g h : α → Bool) : ∀ (l : List α), (∀ x ∈ l, h x = (f x || g x)) → (∀ x ∈ l, f x = true → g x = false) → l.countP h = l.countP f + l.countP g
  | [], _, _ => rfl
  | x :: l, h1, h2 => by
    have ih := countP_split f g h l (fun y hy => h1 y (List.mem_cons_of_mem _ hy)) (fun y hy => h2 y (List.mem_cons_of_mem _ hy))
    have e1 := h1 x List.mem_cons_self
    have e2 := h2 x List.mem_cons_self
    rw [List.countP_cons, List.countP_cons, List.countP_cons, ih, e1]
    cases hf : f x
    · simp; omega
    · rw [e2 hf]; simp; omega
/-- Once around: the next place. -/
theorem ring_next {n : Nat} (f : Nat → Bool) (hn : 0 < n) : (List.range n).countP (fun i => f ((i + 1) % n)) = (List.range n).countP f := by
  have hp : ((List.range n).map fun i => (i + 1) % n).Perm (List.range n) := by
    obtain ⟨m, rfl⟩ : ∃ m, n = m + 1 := ⟨n - 1, by omega⟩
    have e : ((List.range (m + 1)).map fun i => (i + 1) % (m + 1)) = (List.range m).map Nat.succ ++ [0] := by
      rw [List.range_succ, List.map_append]
      congr 1
      · exact List.map_congr_left fun i hi => by rw [List.mem_range] at hi; exact Nat.mod_eq_of_lt (by omega)
      · simp
    rw [e, List.range_succ_eq_map]
    exact List.perm_append_singleton _ _
  rw [← hp.countP_eq f, List.countP_map]
  rfl
/-- Turns that are less than q; at most q. -/
def lowQ (s q : List UInt8) : Nat := (List.range s.length).countP fun i => llt (pw s i q.length) q
def highQ (s q : List UInt8) : Nat := (List.range s.length).countP fun i => !llt q (pw s i q.length)
def hitsQ (s q : List UInt8) : Nat := (List.range s.length).countP fun i => pw s i q.length == q
def lessC (t : List UInt8) (c : Nat) : Nat := t.countP fun b => decide (b.toNat < c)
theorem lowQ_nil (s : List UInt8) : lowQ s [] = 0 := List.countP_eq_zero.2 fun i _ => by rw [llt_nil]; simp
theorem highQ_nil (s : List UInt8) : highQ s [] = s.length := by
  have h : highQ s [] = (List.range s.length).length := List.countP_eq_length.2 fun i _ => rfl
  rw [h, List.length_range]
theorem hits_eq (s q : List UInt8) : lowQ s q + hitsQ s q = highQ s q := by
  refine (countP_split _ _ _ _ (fun i _ => ?_) (fun i _ h => ?_)).symm
  · rw [Bool.eq_iff_iff, Bool.or_eq_true, Bool.not_eq_true', beq_iff_eq]
    exact lle_iff
  · rw [beq_eq_false_iff_ne]
    intro e
    rw [e, llt_irrefl] at h
    cases h
theorem hits_more {s : List UInt8} : ∀ {a q : List UInt8}, hitsQ s q = 0 → hitsQ s (a ++ q) = 0 := by
  intro a q h
  unfold hitsQ at h ⊢
  rw [List.countP_eq_zero] at h ⊢
  intro i hi e
  rw [beq_iff_eq, List.length_append, pw_add] at e
  have h2 := (List.append_inj e (pw_len s _ _)).2
  have h0 : 0 < s.length := by have := List.mem_range.1 hi; omega
  refine h ((i + a.length) % s.length) (List.mem_range.2 (Nat.mod_lt _ h0)) ?_
  rw [pw_mod, h2]; simp
theorem range_getD_map (s : List UInt8) : (List.range s.length).map (fun i => s.getD i 0) = s := by
  refine List.ext_getElem (by simp) fun j h1 h2 => ?_
  rw [List.getElem_map, List.getElem_range, getD_some _ _ _ h2]
theorem less_range (s : List UInt8) (c : Nat) : (List.range s.length).countP (fun i => decide ((s.getD i 0).toNat < c)) = lessC s c := by
  have := List.countP_map (p := fun b : UInt8 => decide (b.toNat < c)) (f := fun i => s.getD i 0) (l := List.range s.length)
  rw [range_getD_map] at this
  exact this.symm
theorem prevB_mod {s : List UInt8} {i : Nat} (hi : i < s.length) : prevB s ((i + 1) % s.length) = s.getD i 0 := by
  unfold prevB
  rcases Nat.lt_or_ge (i + 1) s.length with h | h
  · rw [Nat.mod_eq_of_lt h, show i + 1 + s.length - 1 = s.length + i by omega, getD_app_r]
  · obtain rfl : i = s.length - 1 := by omega
    rw [show s.length - 1 + 1 = s.length by omega, Nat.mod_self, show 0 + s.length - 1 = s.length - 1 by omega, getD_app_l _ _ (by omega)]
/-- One byte more ahead. -/
theorem step_gen {s : List UInt8} {ord : List Nat} (ho : IsOrd s ord) (h0 : 0 < s.length) (c : UInt8) (g : Nat → Bool) (hg : ∀ i, g (i % s.length) = g i) (hd : ord.Pairwise (fun a b => g b = true → g a = true)) (k : Nat) (hk : k = (List.range s.length).countP g) (h : Nat → Bool)
    (hh : ∀ i, i < s.length → h i = (decide (s.getD i 0 < c) || (s.getD i 0 == c && g (i + 1)))) : (List.range s.length).countP h = lessC s c.toNat + ((lastB s ord).take k).count c := by
  rw [countP_split (fun i => decide (s.getD i 0 < c)) (fun i => s.getD i 0 == c && g (i + 1)) h _ (fun i hi => hh i (List.mem_range.1 hi)) (fun i _ e => by
    have e := of_decide_eq_true e
    have : (s.getD i 0 == c) = false := by
      rw [beq_eq_false_iff_ne]; intro e2; rw [e2] at e; exact u8_irrefl _ e
    rw [this]; rfl)]
  congr 1
  · rw [← less_range]
    exact List.countP_congr fun i _ => by rw [decide_eq_true_iff, decide_eq_true_iff, UInt8.lt_iff_toNat_lt]
  · have e1 : (List.range s.length).countP (fun i => s.getD i 0 == c && g (i + 1)) = (List.range s.length).countP (fun i => (fun j => prevB s j == c && g j) ((i + 1) % s.length)) :=
      List.countP_congr fun i hi => by
        have hi := List.mem_range.1 hi
        show _ ↔ (prevB s ((i + 1) % s.length) == c && g ((i + 1) % s.length)) = true
        rw [prevB_mod hi, hg]
    rw [e1, ring_next (fun j => prevB s j == c && g j) h0, ← ho.perm.countP_eq, countP_cut _ _ hd, ho.perm.countP_eq, ← hk]
    unfold lastB
    rw [← List.map_take, List.count, List.countP_map]
    rfl
theorem IsOrd.pw_sorted {s : List UInt8} {o : List Nat} (h : IsOrd s o) (m : Nat) : o.Pairwise fun a b => lle (pw s a m) (pw s b m) := by
  have hr := h.rows_sorted
  unfold rowsR at hr
  rw [List.pairwise_map] at hr
  refine hr.imp_of_mem fun {a b} ha hb k => ?_
  have ha := h.lt ha
  have hb := h.lt hb
  exact pw_le (by omega) (by rw [pw_rot ha, pw_rot hb]; exact k) m
theorem low_step {s : List UInt8} {o : List Nat} (ho : IsOrd s o) (h0 : 0 < s.length) (c : UInt8) (q : List UInt8) : lowQ s (c :: q) = lessC s c.toNat + ((lastB s o).take (lowQ s q)).count c := by
  refine step_gen ho h0 c (fun i => llt (pw s i q.length) q) (fun i => by rw [pw_mod]) ((ho.pw_sorted q.length).imp fun {a b} k e => llt_of_le_lt k e) _ rfl _ fun i hi => ?_
  rw [List.length_cons, pw, Nat.mod_eq_of_lt hi, Bool.eq_iff_iff, llt_cons]
  simp
theorem high_step {s : List UInt8} {o : List Nat} (ho : IsOrd s o) (h0 : 0 < s.length) (c : UInt8) (q : List UInt8) : highQ s (c :: q) = lessC s c.toNat + ((lastB s o).take (highQ s q)).count c := by
  refine step_gen ho h0 c (fun i => !llt q (pw s i q.length)) (fun i => by rw [pw_mod]) ((ho.pw_sorted q.length).imp fun {a b} k e => ?_) _ rfl _ fun i hi => ?_
  · rw [Bool.not_eq_true'] at *
    exact lle_trans k e
  · rw [List.length_cons, pw, Nat.mod_eq_of_lt hi, Bool.eq_iff_iff, Bool.not_eq_true']
    have := lle_cons (s.getD i 0) c (pw s (i + 1) q.length) q
    unfold lle at this
    rw [this]
    simp
theorem lastB_perm {s : List UInt8} {o : List Nat} (ho : IsOrd s o) : (lastB s o).Perm s := by
  rcases Nat.eq_zero_or_pos s.length with h0 | h0
  · obtain rfl : s = [] := List.eq_nil_of_length_eq_zero h0
    have := ho.len
    obtain rfl : o = [] := List.eq_nil_of_length_eq_zero this
    exact List.Perm.refl _
  · have hp : ((List.range s.length).map fun i => (i + 1) % s.length).Perm (List.range s.length) := by
      obtain ⟨m, hm⟩ : ∃ m, s.length = m + 1 := ⟨s.length - 1, by omega⟩
      rw [hm]
      have e : ((List.range (m + 1)).map fun i => (i + 1) % (m + 1)) = (List.range m).map Nat.succ ++ [0] := by
        rw [List.range_succ, List.map_append]
        congr 1
        · exact List.map_congr_left fun i hi => by rw [List.mem_range] at hi; exact Nat.mod_eq_of_lt (by omega)
        · simp
      rw [e, List.range_succ_eq_map]
      exact List.perm_append_singleton _ _
    have h1 : (lastB s o).Perm ((List.range s.length).map (prevB s)) := ho.perm.map _
    have h2 := (hp.map (prevB s)).symm
    rw [List.map_map] at h2
    have e : (List.range s.length).map (prevB s ∘ fun i => (i + 1) % s.length) = s := by
      have : (List.range s.length).map (prevB s ∘ fun i => (i + 1) % s.length) = (List.range s.length).map (fun i => s.getD i 0) := List.map_congr_left fun i hi => prevB_mod (List.mem_range.1 hi)
      rw [this, range_getD_map]
    rw [e] at h2
    exact h1.trans h2
theorem lessC_perm {s t : List UInt8} (h : s.Perm t) (c : Nat) : lessC s c = lessC t c := h.countP_eq _
end Go.Proofs.Ytmkcmjhdbjhmmaa
