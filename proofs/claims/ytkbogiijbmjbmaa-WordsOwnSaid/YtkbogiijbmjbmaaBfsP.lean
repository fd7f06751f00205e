/- Plain: level by level through a tree of words: all links come out right; and what a search along the links finds. -/
import Derived.Test.YtkbogiijbmjbmaaAhoP
namespace Go.Proofs.Ytkbogiijbmjbmaa
set_option linter.unusedVariables false

theorem flatMap_lenB {α β : Type} (f : α → List β) (c : Nat) (h : ∀ x, (f x).length = c) : ∀ l : List α, (l.flatMap f).length = l.length * c
  | [] => by simp
  | x :: l => by rw [List.flatMap_cons, List.length_append, h, flatMap_lenB f c h l, List.length_cons, Nat.succ_mul]; omega
theorem nodup_leB {α : Type} : ∀ {l m : List α}, l.Nodup → (∀ x ∈ l, x ∈ m) → l.length ≤ m.length
  | [], _, _, _ => Nat.zero_le _
  | a :: l, m, hn, h => by
    classical
    obtain ⟨ha, hl⟩ := List.nodup_cons.1 hn
    obtain ⟨m1, m2, rfl⟩ := List.append_of_mem (h a (by simp))
    have := nodup_leB (l := l) (m := m1 ++ m2) hl fun x hx => by
      have := h x (by simp [hx])
      rw [List.mem_append, List.mem_cons] at this
      rw [List.mem_append]
      rcases this with k | rfl | k
      · exact .inl k
      · exact absurd hx ha
      · exact .inr k
    rw [List.length_append] at this
    rw [List.length_append, List.length_cons, List.length_cons]
    omega
section
variable {T : List Nd} {W : List (List UInt8)}
def lenW (W : List (List UInt8)) (i : Nat) : Nat := (W.getD i []).length
/-- Nodes that are done (D), and nodes that wait (Q). -/
structure Bfs (T : List Nd) (W : List (List UInt8)) (D Q : List Nat) : Prop where
  tree : Tree T W
  nd : (D ++ Q).Nodup
  lt : ∀ i ∈ D ++ Q, i < W.length
  zero : 0 ∈ D ++ Q
  par : ∀ t ∈ D ++ Q, t ≠ 0 → ∃ i ∈ D, ∃ b, W.getD t [] = W.getD i [] ++ [b]
  lev1 : ∀ i ∈ D, ∀ q ∈ Q, lenW W i ≤ lenW W q
  lev2 : Q.Pairwise fun p q => lenW W p ≤ lenW W q
  lev3 : ∀ p ∈ Q, ∀ q ∈ Q, lenW W q ≤ lenW W p + 1
  fail : ∀ t ∈ D ++ Q, t ≠ 0 → FailOk T W t
  zf : ∀ t, t ∉ D ++ Q → (T.getD t nd0).fail = 0
/-- All children of the done ones have been met. -/
def Kids (T : List Nd) (D V : List Nat) : Prop := ∀ i ∈ D, ∀ x ∈ (T.getD i nd0).next, x.2 ∈ V
theorem bfs_start (h : Tree T W) (hz : ∀ t, (T.getD t nd0).fail = 0) : Bfs T W [] [0] ∧ Kids T [] [0] := by
  have h1 : ∀ i ∈ ([] : List Nat) ++ [0], i = 0 := fun i hi => by simpa using hi
  have h2 : ∀ i ∈ [0], i = 0 := fun i hi => by simpa using hi
  refine ⟨⟨h, by simp, fun i hi => ?_, by simp, fun t ht h0 => absurd (h1 t ht) h0, fun i hi => absurd hi (List.not_mem_nil), by simp, fun p hp q hq => ?_, fun t ht h0 => absurd (h1 t ht) h0, fun t _ => hz t⟩, fun i hi => absurd hi (List.not_mem_nil)⟩
  · rw [h1 i hi]; exact h.pos
  · rw [h2 p hp, h2 q hq]; exact Nat.le_succ _
/-- A word that is one byte longer than its parent's. -/
theorem Tree.parent (h : Tree T W) {t : Nat} (ht : t < W.length) (h0 : t ≠ 0) : ∃ i b, i < W.length ∧ W.getD t [] = W.getD i [] ++ [b] ∧ (b, t) ∈ (T.getD i nd0).next := h.e2 t (by omega) ht
/-- Whatever is not longer than the one that comes next has been met. -/
theorem bfs_met {D Q : List Nat} {a : Nat} (h : Bfs T W D (a :: Q)) (hk : Kids T D (D ++ a :: Q)) : ∀ (n t : Nat), lenW W t ≤ n → t < W.length → lenW W t ≤ lenW W a → t ∈ D ++ a :: Q
  | n, t, hn, ht, hla => by
    rcases Nat.eq_zero_or_pos t with h0 | h0
    · rw [h0]; exact h.zero
    · obtain ⟨i, b, hi, e, hm⟩ := h.tree.parent ht (by omega)
      have hl : lenW W t = lenW W i + 1 := by unfold lenW; rw [e]; simp
      match n, hn with
      | 0, hn => omega
      | n + 1, hn =>
        have hiv := bfs_met h hk n i (by omega) hi (by omega)
        rcases List.mem_append.1 hiv with hd | hq
        · exact hk i hd _ hm
        · have : lenW W a ≤ lenW W i := by
            rcases List.mem_cons.1 hq with rfl | hq
            · exact Nat.le_refl _
            · exact (List.pairwise_cons.1 h.lev2).1 i hq
          omega
theorem bfs_all {D : List Nat} (h : Bfs T W D []) (hk : Kids T D D) : ∀ (n t : Nat), lenW W t ≤ n → t < W.length → t ∈ D
  | n, t, hn, ht => by
    rcases Nat.eq_zero_or_pos t with h0 | h0
    · rw [h0]; have := h.zero; rwa [List.append_nil] at this
    · obtain ⟨i, b, hi, e, hm⟩ := h.tree.parent ht (by omega)
      have hl : lenW W t = lenW W i + 1 := by unfold lenW; rw [e]; simp
      match n, hn with
      | 0, hn => omega
      | n + 1, hn => exact hk i (bfs_all h hk n i (by omega) hi) _ hm
theorem bfs_end {D : List Nat} (h : Bfs T W D []) (hk : Kids T D D) : ∀ t, t < W.length → t ≠ 0 → FailOk T W t := fun t ht h0 =>
  h.fail t (by rw [List.append_nil]; exact bfs_all h hk _ t (Nat.le_refl _) ht) h0
/-- While the children of a are met: the first j of them have been. -/
structure BfsIn (T : List Nd) (W : List (List UInt8)) (D : List Nat) (a : Nat) (Q : List Nat) (j : Nat) : Prop where
  bfs : Bfs T W (D ++ [a]) Q
  kids : Kids T D (D ++ [a] ++ Q)
  mine : ∀ x ∈ (T.getD a nd0).next.take j, x.2 ∈ D ++ [a] ++ Q
  only : ∀ t ∈ D ++ [a] ++ Q, (∃ b, W.getD t [] = W.getD a [] ++ [b]) → ∃ x ∈ (T.getD a nd0).next.take j, x.2 = t
  low : ∀ i ∈ D, lenW W i ≤ lenW W a
  high : ∀ q ∈ Q, lenW W q ≤ lenW W a + 1
  met : ∀ t, t < W.length → lenW W t ≤ lenW W a → t ∈ D ++ [a] ++ Q
theorem bfs_in {D Q : List Nat} {a : Nat} (h : Bfs T W D (a :: Q)) (hk : Kids T D (D ++ a :: Q)) : BfsIn T W D a Q 0 := by
  have e : D ++ [a] ++ Q = D ++ a :: Q := by simp
  have hlow : ∀ i ∈ D, lenW W i ≤ lenW W a := fun i hi => h.lev1 i hi a List.mem_cons_self
  refine ⟨⟨h.tree, by rw [e]; exact h.nd, by rw [e]; exact h.lt, by rw [e]; exact h.zero, fun t ht h0 => ?_, fun i hi q hq => ?_, (List.pairwise_cons.1 h.lev2).2, fun p hp q hq => h.lev3 p (List.mem_cons_of_mem _ hp) q (List.mem_cons_of_mem _ hq), by rw [e]; exact h.fail, by rw [e]; exact h.zf⟩, by rw [e]; exact hk, fun x hx => by simp at hx, fun t ht ⟨b, hb⟩ => ?_, hlow, fun q hq => h.lev3 a List.mem_cons_self q (List.mem_cons_of_mem _ hq), fun t ht hl => by rw [e]; exact bfs_met h hk _ t (Nat.le_refl _) ht hl⟩
  · rw [e] at ht
    obtain ⟨i, hi, b, hb⟩ := h.par t ht h0
    exact ⟨i, List.mem_append.2 (.inl hi), b, hb⟩
  · rcases List.mem_append.1 hi with hi | hi
    · exact h.lev1 i hi q (List.mem_cons_of_mem _ hq)
    · rw [List.mem_singleton] at hi
      rw [hi]
      exact (List.pairwise_cons.1 h.lev2).1 q hq
  · exfalso
    rw [e] at ht
    have ht0 : t ≠ 0 := fun h0 => by rw [h0, h.tree.root] at hb; simp at hb
    obtain ⟨i, hi, b', hb'⟩ := h.par t ht ht0
    rw [hb] at hb'
    obtain ⟨e2, _⟩ := snoc_inj hb'
    have := h.tree.inj _ _ (h.lt a (List.mem_append.2 (.inr List.mem_cons_self))) (h.lt i (List.mem_append.2 (.inl hi))) e2
    subst this
    exact (List.nodup_append.1 h.nd).2.2 a hi a List.mem_cons_self rfl
theorem BfsIn.out {D Q : List Nat} {a j : Nat} (h : BfsIn T W D a Q j) (hj : (T.getD a nd0).next.length ≤ j) : Bfs T W (D ++ [a]) Q ∧ Kids T (D ++ [a]) (D ++ [a] ++ Q) := ⟨h.bfs, fun i hi x hx => by
  rcases List.mem_append.1 hi with hi | hi
  · exact h.kids i hi x hx
  · rw [List.mem_singleton] at hi
    subst hi
    exact h.mine x (by rw [List.take_of_length_le hj]; exact hx)⟩
/-- The next child has not been met. -/
theorem BfsIn.fresh {D Q : List Nat} {a j : Nat} (h : BfsIn T W D a Q j) {x : UInt8 × Nat} (hx : (T.getD a nd0).next[j]? = some x) : x.2 ∉ D ++ [a] ++ Q := fun hv => by
  have ha := h.bfs.lt a (by simp)
  obtain ⟨hxl, hxw⟩ := h.bfs.tree.e1 a ha x (List.mem_of_getElem? hx)
  obtain ⟨hjl, hjx⟩ := List.getElem?_eq_some_iff.1 hx
  obtain ⟨y, hy, e⟩ := h.only x.2 hv ⟨_, hxw⟩
  have hn := h.bfs.tree.e3 a ha
  obtain ⟨i, hi, hiy⟩ := List.getElem_of_mem hy
  rw [List.length_take] at hi
  rw [List.getElem_take] at hiy
  have := (List.nodup_iff_pairwise_ne.1 hn)
  rw [List.pairwise_map] at this
  exact List.pairwise_iff_getElem.1 this i j (by omega) hjl (by omega) (by rw [hiy, hjx]; exact e)
/-- One child more: its link is set to r. -/
theorem BfsIn.child {D Q : List Nat} {a j : Nat} (h : BfsIn T W D a Q j) {x : UInt8 × Nat} (hx : (T.getD a nd0).next[j]? = some x) {T' : List Nd} (hT : T' = T ∨ ∃ r, T' = T.set x.2 { T.getD x.2 nd0 with fail := r })
    (hf : FailOk T' W x.2) : BfsIn T' W D a (Q ++ [x.2]) (j + 1) := by
  have haV : a ∈ D ++ [a] ++ Q := by simp
  have ha := h.bfs.lt a haV
  have hxm : x ∈ (T.getD a nd0).next := List.mem_of_getElem? hx
  obtain ⟨hxl, hxw⟩ := h.bfs.tree.e1 a ha x hxm
  have hx0 := h.bfs.tree.to_ne ha x hxm
  obtain ⟨hjl, hjx⟩ := List.getElem?_eq_some_iff.1 hx
  have hnew : x.2 ∉ D ++ [a] ++ Q := fun hv => by
    obtain ⟨y, hy, e⟩ := h.only x.2 hv ⟨_, hxw⟩
    have hn := h.bfs.tree.e3 a ha
    obtain ⟨i, hi, hiy⟩ := List.getElem_of_mem hy
    rw [List.length_take] at hi
    rw [List.getElem_take] at hiy
    have := (List.nodup_iff_pairwise_ne.1 hn)
    rw [List.pairwise_map] at this
    exact List.pairwise_iff_getElem.1 this i j (by omega) hjl (by omega) (by rw [hiy, hjx]; exact e)
  have hnx : ∀ i, (T'.getD i nd0).next = (T.getD i nd0).next := fun i => by
    rcases hT with rfl | ⟨r, rfl⟩
    · rfl
    · rw [setNd (by rw [h.bfs.tree.len]; exact hxl)]
      split
      · rename_i e; rw [e]
      · rfl
  have hfl : ∀ i, i ≠ x.2 → (T'.getD i nd0).fail = (T.getD i nd0).fail := fun i hi => by
    rcases hT with rfl | ⟨r, rfl⟩
    · rfl
    · rw [setNd (by rw [h.bfs.tree.len]; exact hxl), if_neg hi]
  have hlen : T'.length = T.length := by
    rcases hT with rfl | ⟨r, rfl⟩
    · rfl
    · simp
  have hlx : lenW W x.2 = lenW W a + 1 := by unfold lenW; rw [hxw]; simp
  have e : D ++ [a] ++ (Q ++ [x.2]) = (D ++ [a] ++ Q) ++ [x.2] := by simp
  have key : ∀ t, t ∈ D ++ [a] ++ (Q ++ [x.2]) ↔ t ∈ D ++ [a] ++ Q ∨ t = x.2 := fun t => by rw [e, List.mem_append, List.mem_singleton]
  have hDa : ∀ i ∈ D ++ [a], lenW W i ≤ lenW W a := fun i hi => by
    rcases List.mem_append.1 hi with hi | hi
    · exact h.low i hi
    · rw [List.mem_singleton] at hi; rw [hi]; exact Nat.le_refl _
  refine ⟨⟨h.bfs.tree.congr hlen hnx, ?_, fun i hi => ?_, (key 0).2 (.inl h.bfs.zero), fun t ht h0 => ?_, fun i hi q hq => ?_, ?_, fun p hp q hq => ?_, fun t ht h0 => ?_, fun t ht => ?_⟩, fun i hi y hy => ?_, fun y hy => ?_, fun t ht ⟨b, hb⟩ => ?_, h.low, fun q hq => ?_, fun t ht hl => (key t).2 (.inl (h.met t ht hl))⟩
  · rw [e]
    refine List.nodup_append.2 ⟨h.bfs.nd, by simp, fun p hp q hq => ?_⟩
    rw [List.mem_singleton] at hq
    rintro rfl
    exact hnew (hq ▸ hp)
  · rcases (key i).1 hi with hi | rfl
    · exact h.bfs.lt i hi
    · exact hxl
  · rcases (key t).1 ht with ht | rfl
    · exact h.bfs.par t ht h0
    · exact ⟨a, by simp, _, hxw⟩
  · rcases List.mem_append.1 hq with hq | hq
    · exact h.bfs.lev1 i hi q hq
    · rw [List.mem_singleton] at hq
      rw [hq, hlx]
      have := hDa i hi
      omega
  · refine List.pairwise_append.2 ⟨h.bfs.lev2, by simp, fun p hp q hq => ?_⟩
    rw [List.mem_singleton] at hq
    rw [hq, hlx]
    exact h.high p hp
  · have hlo : ∀ p ∈ Q ++ [x.2], lenW W a ≤ lenW W p := fun p hp => by
      rcases List.mem_append.1 hp with hp | hp
      · exact h.bfs.lev1 a (by simp) p hp
      · rw [List.mem_singleton] at hp; rw [hp, hlx]; omega
    have hhi : ∀ p ∈ Q ++ [x.2], lenW W p ≤ lenW W a + 1 := fun p hp => by
      rcases List.mem_append.1 hp with hp | hp
      · exact h.high p hp
      · rw [List.mem_singleton] at hp; rw [hp, hlx]; exact Nat.le_refl _
    have := hlo p hp
    have := hhi q hq
    omega
  · rcases (key t).1 ht with ht | rfl
    · exact (h.bfs.fail t ht h0).congr (hfl t fun e => hnew (e ▸ ht))
    · exact hf
  · have h1 : t ∉ D ++ [a] ++ Q := fun h => ht ((key t).2 (.inl h))
    have h2 : t ≠ x.2 := fun h => ht ((key t).2 (.inr h))
    rw [hfl t h2]
    exact h.bfs.zf t h1
  · rw [hnx] at hy
    exact (key _).2 (.inl (h.kids i hi y hy))
  · rw [hnx, List.take_add_one, hx] at hy
    rcases List.mem_append.1 hy with hy | hy
    · exact (key _).2 (.inl (h.mine y hy))
    · have hy : y = x := by simpa using hy
      exact (key _).2 (.inr (by rw [hy]))
  · rw [hnx, List.take_add_one, hx]
    rcases (key t).1 ht with ht | rfl
    · obtain ⟨y, hy, e⟩ := h.only t ht ⟨b, hb⟩
      exact ⟨y, List.mem_append.2 (.inl hy), e⟩
    · exact ⟨x, List.mem_append.2 (.inr (by simp)), rfl⟩
  · rcases List.mem_append.1 hq with hq | hq
    · exact h.high q hq
    · rw [List.mem_singleton] at hq; rw [hq, hlx]; exact Nat.le_refl _
/-- The nodes that a step from a link comes by are all right. -/
theorem BfsIn.links {D Q : List Nat} {a j : Nat} (h : BfsIn T W D a Q j) {u : Nat} (hu : u < W.length) (h0 : u ≠ 0) (hl : lenW W u ≤ lenW W a) : FailOk T W u := h.bfs.fail u (h.met u hu hl) h0
/-- How many nodes there are at most. -/
theorem nodup_lt {l : List Nat} {n : Nat} (hn : l.Nodup) (h : ∀ i ∈ l, i < n) : l.length ≤ n := by
  have := nodup_leB hn (fun i hi => List.mem_range.2 (h i hi))
  rwa [List.length_range] at this
end

/-- What a search has found: the hits that end at i or ahead of it, and of those that end at the next byte the ones of more than L bytes. -/
structure Found (s : List UInt8) (P : List (List UInt8)) (i L : Nat) (out : List (Nat × Nat)) : Prop where
  nd : out.Nodup
  mem : ∀ a k, (a, k) ∈ out ↔ k < P.length ∧ P.getD k [] <+: s.drop a ∧ (a + (P.getD k []).length ≤ i ∨ a + (P.getD k []).length = i + 1 ∧ L < (P.getD k []).length)
/-- A tree that is built. -/
structure Built (T : List Nd) (W : List (List UInt8)) (P : List (List UInt8)) : Prop where
  tree : Tree T W
  ends : EndsAt T W P
  fail : ∀ t, t < W.length → t ≠ 0 → FailOk T W t
section
variable {T : List Nd} {W P : List (List UInt8)} {s : List UInt8}
theorem found_start (hP : ∀ p ∈ P, p ≠ []) (L : Nat) (hL : ∀ p ∈ P, p.length ≤ L) : Found s P 0 L [] := ⟨List.Pairwise.nil, fun a k => ⟨fun h => (by cases h), fun ⟨h1, h2, h3⟩ => by
  have hm : P.getD k [] ∈ P := by rw [getD_some _ _ _ h1]; exact List.getElem_mem _
  have h4 : (P.getD k []).length ≠ 0 := fun e => hP _ hm (List.eq_nil_of_length_eq_zero e)
  have h5 := hL _ hm
  rcases h3 with h3 | ⟨_, h3⟩ <;> omega⟩⟩
/-- A hit that ends at e is an end of the text's first e bytes. -/
theorem hit_suffix {p : List UInt8} {a e : Nat} (h : p <+: s.drop a) (he : a + p.length = e) (hp : p ≠ []) : p <:+ s.take e := by
  have hp0 : p.length ≠ 0 := fun e => hp (List.eq_nil_of_length_eq_zero e)
  have hl := h.length_le
  rw [List.length_drop] at hl
  have h2 := List.prefix_iff_eq_take.1 h
  refine ⟨s.take a, ?_⟩
  subst he
  rw [List.take_add, ← h2]
theorem suffix_hit {p : List UInt8} {e : Nat} (he : e ≤ s.length) (h : p <:+ s.take e) : p <+: s.drop (e - p.length) ∧ p.length ≤ e := by
  have hl := h.length_le
  rw [List.length_take, Nat.min_eq_left he] at hl
  obtain ⟨y, hy⟩ := h
  have hyl : y.length = e - p.length := by
    have := congrArg List.length hy
    rw [List.length_append, List.length_take, Nat.min_eq_left he] at this
    omega
  refine ⟨?_, hl⟩
  have h2 : s = y ++ (p ++ s.drop e) := by rw [← List.append_assoc, hy, List.take_append_drop]
  rw [← hyl]
  conv => rhs; rw [h2]
  rw [List.drop_left]
  exact List.prefix_append _ _
/-- A byte on: nothing longer than the node's word ends there. -/
theorem Found.next {i r L : Nat} {out : List (Nat × Nat)} (hb : Built T W P) (hP : ∀ p ∈ P, p ≠ []) (hi : i < s.length) (hr : LongIn W (s.take (i + 1)) r) (hL : ∀ p ∈ P, p.length ≤ L) (h : Found s P i L out) : Found s P i (W.getD r []).length out := by
  refine ⟨h.nd, fun a k => (h.mem a k).trans ?_⟩
  refine and_congr_right fun hk => and_congr_right fun hp => ?_
  have hm : P.getD k [] ∈ P := by rw [getD_some _ _ _ hk]; exact List.getElem_mem _
  constructor
  · rintro (h1 | ⟨h1, h2⟩)
    · exact .inl h1
    · have := hL _ hm; omega
  · rintro (h1 | ⟨h1, h2⟩)
    · exact .inl h1
    · exfalso
      obtain ⟨u, hu, e, _⟩ := hb.ends.pats k hk
      have hs := hit_suffix hp h1 (hP _ hm)
      rw [← e] at hs h2
      have := hr.most u hu hs
      omega
/-- Done with this byte. -/
theorem Found.over {i L : Nat} {out : List (Nat × Nat)} (hP : ∀ p ∈ P, p ≠ []) (hL : ∀ p ∈ P, p.length ≤ L) (h : Found s P i 0 out) : Found s P (i + 1) L out := by
  refine ⟨h.nd, fun a k => (h.mem a k).trans ?_⟩
  refine and_congr_right fun hk => and_congr_right fun hp => ?_
  have hm : P.getD k [] ∈ P := by rw [getD_some _ _ _ hk]; exact List.getElem_mem _
  have h4 : (P.getD k []).length ≠ 0 := fun e => hP _ hm (List.eq_nil_of_length_eq_zero e)
  have h5 := hL _ hm
  omega
/-- At a node of the chain. -/
theorem Found.node {i k : Nat} {out : List (Nat × Nat)} (hb : Built T W P) (hP : ∀ p ∈ P, p ≠ []) (hnd : P.Nodup) (hi : i < s.length) (hk : k < W.length) (h0 : k ≠ 0) (hs : W.getD k [] <:+ s.take (i + 1)) (h : Found s P i (W.getD k []).length out) :
    ((T.getD k nd0).ends = -1 → Found s P i (W.getD (T.getD k nd0).fail []).length out) ∧
    (∀ w : Nat, (T.getD k nd0).ends = (w : Int) → w < P.length ∧ (P.getD w []).length ≤ i + 1 ∧ Found s P i (W.getD (T.getD k nd0).fail []).length (out ++ [(i + 1 - (P.getD w []).length, w)])) := by
  have hf := hb.fail k hk h0
  -- a pattern that ends here, longer than the link's word, not longer than this one's: it is this one
  have key : ∀ a x, x < P.length → P.getD x [] <+: s.drop a → a + (P.getD x []).length = i + 1 → (W.getD (T.getD k nd0).fail []).length < (P.getD x []).length → (P.getD x []).length ≤ (W.getD k []).length → P.getD x [] = W.getD k [] := fun a x hx hp he hl1 hl2 => by
    have hm : P.getD x [] ∈ P := by rw [getD_some _ _ _ hx]; exact List.getElem_mem _
    have h1 := List.suffix_of_suffix_length_le (hit_suffix hp he (hP _ hm)) hs hl2
    obtain ⟨u, hu, e, _⟩ := hb.ends.pats x hx
    rcases Nat.lt_or_ge (P.getD x []).length (W.getD k []).length with h2 | h2
    · rw [← e] at h1 h2 hl1
      have := hf.most u hu h1 h2
      omega
    · exact h1.eq_of_length (by omega)
  have hsh := hf.short
  refine ⟨fun he => ⟨h.nd, fun a x => (h.mem a x).trans ?_⟩, fun w he => ?_⟩
  · refine and_congr_right fun hx => and_congr_right fun hp => ?_
    constructor
    · rintro (h1 | ⟨h1, h2⟩)
      · exact .inl h1
      · exact .inr ⟨h1, by omega⟩
    · rintro (h1 | ⟨h1, h2⟩)
      · exact .inl h1
      · rcases Nat.lt_or_ge (W.getD k []).length (P.getD x []).length with h3 | h3
        · exact .inr ⟨h1, h3⟩
        · exfalso
          have h4 := key a x hx hp h1 h2 h3
          obtain ⟨u, hu, e, e2⟩ := hb.ends.pats x hx
          rw [h4] at e
          have := hb.tree.inj _ _ hu hk e
          rw [this, he] at e2
          omega
  · have hw : w < P.length ∧ W.getD k [] = P.getD w [] := by
      rcases hb.ends.only k hk with h1 | ⟨x, h1, h2, h3⟩
      · rw [h1] at he; omega
      · have : x = w := by rw [h2] at he; omega
        subst this
        exact ⟨h1, h3⟩
    obtain ⟨hw1, hw2⟩ := hw
    have hh := suffix_hit (show i + 1 ≤ s.length by omega) hs
    rw [hw2] at hh
    have hno : (i + 1 - (P.getD w []).length, w) ∉ out := fun hm => by
      have := ((h.mem _ _).1 hm).2.2
      rw [hw2] at this
      omega
    refine ⟨hw1, hh.2, List.nodup_append.2 ⟨h.nd, by simp, fun p hp q hq => ?_⟩, fun a x => ?_⟩
    · rw [List.mem_singleton] at hq
      rintro rfl
      exact hno (hq ▸ hp)
    · rw [List.mem_append, List.mem_singleton, h.mem]
      constructor
      · rintro (⟨hx, hp, h1⟩ | e)
        · refine ⟨hx, hp, ?_⟩
          rcases h1 with h1 | ⟨h1, h2⟩
          · exact .inl h1
          · exact .inr ⟨h1, by omega⟩
        · injection e with e1 e2
          subst e1; subst e2
          exact ⟨hw1, hh.1, .inr ⟨by omega, by rw [← hw2]; exact hsh⟩⟩
      · rintro ⟨hx, hp, h1⟩
        rcases h1 with h1 | ⟨h1, h2⟩
        · exact .inl ⟨hx, hp, .inl h1⟩
        · rcases Nat.lt_or_ge (W.getD k []).length (P.getD x []).length with h3 | h3
          · exact .inl ⟨hx, hp, .inr ⟨h1, h3⟩⟩
          · right
            have h4 := key a x hx hp h1 h2 h3
            rw [hw2] at h4
            have hxw : x = w := by
              rw [getD_some _ _ _ hx, getD_some _ _ _ hw1] at h4
              exact (List.getElem_inj hnd).1 h4
            subst hxw
            have : a = i + 1 - (P.getD x []).length := by omega
            rw [this]
theorem Found.size {i L : Nat} {out : List (Nat × Nat)} (h : Found s P i L out) (hP : ∀ p ∈ P, p ≠ []) : out.length ≤ s.length * P.length := by
  have h1 : ∀ x ∈ out, x ∈ (List.range s.length).flatMap fun a => (List.range P.length).map fun k => (a, k) := fun ⟨a, k⟩ hx => by
    obtain ⟨hk, hp, _⟩ := (h.mem a k).1 hx
    have hm : P.getD k [] ∈ P := by rw [getD_some _ _ _ hk]; exact List.getElem_mem _
    have hl := hp.length_le
    rw [List.length_drop] at hl
    have h4 : (P.getD k []).length ≠ 0 := fun e => hP _ hm (List.eq_nil_of_length_eq_zero e)
    refine List.mem_flatMap.2 ⟨a, List.mem_range.2 (by omega), List.mem_map.2 ⟨k, List.mem_range.2 hk, rfl⟩⟩
  have h2 := nodup_leB h.nd h1
  refine Nat.le_trans h2 ?_
  rw [flatMap_lenB _ P.length (fun a => by simp), List.length_range]
  exact Nat.le_refl _
end
/-- Hits in order. -/
def ltH (x y : Nat × Nat) : Prop := x.1 < y.1 ∨ x.1 = y.1 ∧ x.2 < y.2
structure IsHits (s : List UInt8) (P : List (List UInt8)) (H : List (Nat × Nat)) : Prop where
  sorted : H.Pairwise ltH
  mem : ∀ a k, (a, k) ∈ H ↔ k < P.length ∧ P.getD k [] <+: s.drop a
theorem ltH_irrefl (x : Nat × Nat) : ¬ ltH x x := fun h => by unfold ltH at h; omega
theorem ltH_trans {x y z : Nat × Nat} (h : ltH x y) (k : ltH y z) : ltH x z := by unfold ltH at *; omega
theorem ltH_tri (x y : Nat × Nat) : ltH x y ∨ x = y ∨ ltH y x := by
  obtain ⟨a, b⟩ := x
  obtain ⟨c, d⟩ := y
  unfold ltH
  simp only [Prod.mk.injEq]
  omega
theorem Found.hits {s : List UInt8} {P : List (List UInt8)} {L : Nat} {out H : List (Nat × Nat)} (h : Found s P s.length L out) (hP : ∀ p ∈ P, p ≠ []) (hp : H.Perm out) (hs : H.Pairwise fun x y => ¬ ltH y x) : IsHits s P H := by
  refine ⟨?_, fun a k => ?_⟩
  · have hn := hp.nodup_iff.2 h.nd
    refine (List.Pairwise.and hs hn).imp fun {x y} h => ?_
    rcases ltH_tri x y with k | k | k
    · exact k
    · exact absurd k h.2
    · exact absurd k h.1
  · rw [hp.mem_iff, h.mem]
    refine and_congr_right fun hk => ⟨fun h => h.1, fun hpre => ⟨hpre, .inl ?_⟩⟩
    have hm : P.getD k [] ∈ P := by rw [getD_some _ _ _ hk]; exact List.getElem_mem _
    have hl := hpre.length_le
    rw [List.length_drop] at hl
    have h4 : (P.getD k []).length ≠ 0 := fun e => hP _ hm (List.eq_nil_of_length_eq_zero e)
    omega
end Go.Proofs.Ytkbogiijbmjbmaa
