/- Plain: a tree of words with its links to the longest ends (Aho, Corasick). -/
import Derived.Test.YtkbogiijbmjbmaaPlain
namespace Go.Proofs.Ytkbogiijbmjbmaa
set_option linter.unusedVariables false

/-- A node of a tree of words. -/
structure Nd where
  next : List (UInt8 × Nat)
  fail : Nat
  ends : Int
def nd0 : Nd := ⟨[], 0, -1⟩
def leadE : List (UInt8 × Nat) → UInt8 → Nat
  | [], _ => 0
  | x :: r, c => if x.1 = c then x.2 else leadE r c
theorem lead_mem : ∀ {l : List (UInt8 × Nat)} {c : UInt8}, leadE l c ≠ 0 → (c, leadE l c) ∈ l
  | [], _, h => absurd rfl h
  | x :: r, c, h => by
    rw [leadE] at h ⊢
    by_cases e : x.1 = c
    · rw [if_pos e]; subst e; exact List.mem_cons_self
    · rw [if_neg e] at h ⊢; exact List.mem_cons_of_mem _ (lead_mem h)
theorem lead_zero : ∀ {l : List (UInt8 × Nat)} {c : UInt8}, (∀ x ∈ l, x.2 ≠ 0) → leadE l c = 0 → ∀ x ∈ l, x.1 ≠ c
  | [], _, _, _, x, hx => by cases hx
  | y :: r, c, h0, h, x, hx => by
    rw [leadE] at h
    by_cases e : y.1 = c
    · rw [if_pos e] at h; exact absurd h (h0 y List.mem_cons_self)
    · rw [if_neg e] at h
      rcases List.mem_cons.1 hx with rfl | hx
      · exact e
      · exact lead_zero (fun z hz => h0 z (List.mem_cons_of_mem _ hz)) h x hx
/-- The tree's nodes stand for words: the root for the empty one; edges lead one byte on. -/
structure Tree (T : List Nd) (W : List (List UInt8)) : Prop where
  len : T.length = W.length
  pos : 0 < W.length
  root : W.getD 0 [] = []
  inj : ∀ i j, i < W.length → j < W.length → W.getD i [] = W.getD j [] → i = j
  e1 : ∀ i, i < W.length → ∀ x ∈ (T.getD i nd0).next, x.2 < W.length ∧ W.getD x.2 [] = W.getD i [] ++ [x.1]
  e2 : ∀ t, 0 < t → t < W.length → ∃ i b, i < W.length ∧ W.getD t [] = W.getD i [] ++ [b] ∧ (b, t) ∈ (T.getD i nd0).next
  e3 : ∀ i, i < W.length → ((T.getD i nd0).next.map (·.2)).Nodup
theorem snoc_inj {u v : List UInt8} {a b : UInt8} (h : u ++ [a] = v ++ [b]) : u = v ∧ a = b := by
  have := List.append_inj' h rfl
  exact ⟨this.1, by simpa using this.2⟩
section
variable {T : List Nd} {W : List (List UInt8)}
theorem Tree.to_ne (h : Tree T W) {i : Nat} (hi : i < W.length) : ∀ x ∈ (T.getD i nd0).next, x.2 ≠ 0 := fun x hx e => by
  have := (h.e1 i hi x hx).2
  rw [e, h.root] at this
  simp at this
theorem Tree.lead_yes (h : Tree T W) {i : Nat} (hi : i < W.length) {c : UInt8} (hn : leadE (T.getD i nd0).next c ≠ 0) : leadE (T.getD i nd0).next c < W.length ∧ W.getD (leadE (T.getD i nd0).next c) [] = W.getD i [] ++ [c] :=
  h.e1 i hi _ (lead_mem hn)
theorem Tree.lead_no (h : Tree T W) {i : Nat} (hi : i < W.length) {c : UInt8} (hn : leadE (T.getD i nd0).next c = 0) {t : Nat} (ht : t < W.length) : W.getD t [] ≠ W.getD i [] ++ [c] := fun e => by
  have ht0 : 0 < t := by
    rcases Nat.eq_zero_or_pos t with h0 | h0
    · rw [h0, h.root] at e; simp at e
    · exact h0
  obtain ⟨j, b, hj, e2, hm⟩ := h.e2 t ht0 ht
  rw [e] at e2
  obtain ⟨e3, rfl⟩ := snoc_inj e2
  obtain rfl := h.inj _ _ hi hj e3
  exact lead_zero (h.to_ne hi) hn _ hm rfl
theorem Tree.pre (h : Tree T W) {t : Nat} (ht : t < W.length) {u : List UInt8} {b : UInt8} (e : W.getD t [] = u ++ [b]) : ∃ i, i < W.length ∧ W.getD i [] = u ∧ (b, t) ∈ (T.getD i nd0).next := by
  have ht0 : 0 < t := by
    rcases Nat.eq_zero_or_pos t with h0 | h0
    · rw [h0, h.root] at e; simp at e
    · exact h0
  obtain ⟨j, b', hj, e2, hm⟩ := h.e2 t ht0 ht
  rw [e] at e2
  obtain ⟨e3, rfl⟩ := snoc_inj e2
  exact ⟨j, hj, e3.symm, hm⟩
theorem Tree.congr (h : Tree T W) {T' : List Nd} (hl : T'.length = T.length) (hn : ∀ i, (T'.getD i nd0).next = (T.getD i nd0).next) : Tree T' W :=
  ⟨hl.trans h.len, h.pos, h.root, h.inj, fun i hi => by rw [hn]; exact h.e1 i hi, fun t h0 ht => by
    obtain ⟨i, b, hi, e, hm⟩ := h.e2 t h0 ht
    exact ⟨i, b, hi, e, by rw [hn]; exact hm⟩, fun i hi => by rw [hn]; exact h.e3 i hi⟩
theorem setNd {i : Nat} {x : Nd} (hi : i < T.length) (j : Nat) : (T.set i x).getD j nd0 = if j = i then x else T.getD j nd0 := getD_set T i x nd0 hi j
theorem Tree.set (h : Tree T W) {i : Nat} (hi : i < W.length) {x : Nd} (hx : x.next = (T.getD i nd0).next) : Tree (T.set i x) W :=
  h.congr (by simp) fun j => by
    rw [setNd (by rw [h.len]; exact hi)]
    split
    · rename_i e; rw [e]; exact hx
    · rfl
theorem tree_one : Tree [nd0] [[]] := by
  refine ⟨rfl, by decide, rfl, fun i j hi hj _ => ?_, fun i hi x hx => ?_, fun t h0 ht => ?_, fun i hi => ?_⟩
  · have hi : i < 1 := hi
    have hj : j < 1 := hj
    omega
  · obtain rfl : i = 0 := by have hi : i < 1 := hi; omega
    cases hx
  · have ht : t < 1 := ht
    omega
  · obtain rfl : i = 0 := by have hi : i < 1 := hi; omega
    exact List.Pairwise.nil
/-- One node more. -/
def growT (T : List Nd) (i : Nat) (c : UInt8) : List Nd := T.set i { T.getD i nd0 with next := (T.getD i nd0).next ++ [(c, T.length)] } ++ [nd0]
theorem growT_getD {i : Nat} {c : UInt8} (hi : i < T.length) (j : Nat) : (growT T i c).getD j nd0 = if j = i then { T.getD i nd0 with next := (T.getD i nd0).next ++ [(c, T.length)] } else T.getD j nd0 := by
  unfold growT
  rcases Nat.lt_or_ge j T.length with hj | hj
  · rw [getD_app_left _ _ _ _ (by rw [List.length_set]; exact hj), setNd hi]
  · rw [getD_app_right _ _ _ _ (by rw [List.length_set]; exact hj), List.length_set, if_neg (by omega), getD_none T nd0 j hj]
    rcases Nat.eq_zero_or_pos (j - T.length) with h0 | h0
    · rw [h0]; rfl
    · exact getD_none _ _ _ h0
theorem Tree.grow (h : Tree T W) {i : Nat} (hi : i < W.length) {c : UInt8} (hn : leadE (T.getD i nd0).next c = 0) : Tree (growT T i c) (W ++ [W.getD i [] ++ [c]]) := by
  have hiT : i < T.length := by rw [h.len]; exact hi
  have hold : ∀ j, j < W.length → (W ++ [W.getD i [] ++ [c]]).getD j [] = W.getD j [] := fun j hj => getD_app_left _ _ _ _ hj
  have hnew : (W ++ [W.getD i [] ++ [c]]).getD W.length [] = W.getD i [] ++ [c] := by rw [getD_app_right _ _ _ _ (Nat.le_refl _), Nat.sub_self]; rfl
  have hlen : (W ++ [W.getD i [] ++ [c]]).length = W.length + 1 := by simp
  refine ⟨by rw [hlen, ← h.len]; simp [growT], by omega, by rw [hold 0 h.pos]; exact h.root, fun a b ha hb e => ?_, fun j hj x hx => ?_, fun t h0 ht => ?_, fun j hj => ?_⟩
  · rw [hlen] at ha hb
    rcases Nat.lt_or_ge a W.length with ha' | ha'
    · rw [hold a ha'] at e
      rcases Nat.lt_or_ge b W.length with hb' | hb'
      · rw [hold b hb'] at e; exact h.inj a b ha' hb' e
      · obtain rfl : b = W.length := by omega
        rw [hnew] at e
        exact absurd e (h.lead_no hi hn ha')
    · obtain rfl : a = W.length := by omega
      rw [hnew] at e
      rcases Nat.lt_or_ge b W.length with hb' | hb'
      · rw [hold b hb'] at e
        exact absurd e.symm (h.lead_no hi hn hb')
      · omega
  · rw [hlen] at hj ⊢
    rw [growT_getD hiT] at hx
    by_cases e : j = i
    · subst e
      rw [if_pos rfl] at hx
      rw [hold j hi]
      rcases List.mem_append.1 hx with hx | hx
      · obtain ⟨k1, k2⟩ := h.e1 j hi x hx
        exact ⟨by omega, by rw [hold _ k1]; exact k2⟩
      · rw [List.mem_singleton] at hx
        subst hx
        show T.length < W.length + 1 ∧ (W ++ [W.getD j [] ++ [c]]).getD T.length [] = _
        rw [h.len]
        exact ⟨by omega, hnew⟩
    · rw [if_neg e] at hx
      rcases Nat.lt_or_ge j W.length with hj' | hj'
      · obtain ⟨k1, k2⟩ := h.e1 j hj' x hx
        exact ⟨by omega, by rw [hold _ k1, hold _ hj']; exact k2⟩
      · rw [getD_none T nd0 j (by rw [h.len]; exact hj')] at hx
        cases hx
  · rw [hlen] at ht
    rcases Nat.lt_or_ge t W.length with ht' | ht'
    · obtain ⟨j, b, hj, e, hm⟩ := h.e2 t h0 ht'
      refine ⟨j, b, by omega, by rw [hold _ ht', hold _ hj]; exact e, ?_⟩
      rw [growT_getD hiT]
      split
      · rename_i e; subst e; exact List.mem_append.2 (.inl hm)
      · exact hm
    · obtain rfl : t = W.length := by omega
      refine ⟨i, c, by omega, by rw [hnew, hold _ hi], ?_⟩
      rw [growT_getD hiT, if_pos rfl, h.len]
      exact List.mem_append.2 (.inr (by simp))
  · rw [hlen] at hj
    rw [growT_getD hiT]
    split
    · rename_i e
      subst e
      show (List.map (·.2) ((T.getD j nd0).next ++ [(c, T.length)])).Nodup
      rw [List.map_append]
      refine List.nodup_append.2 ⟨h.e3 j hi, by simp, fun a ha b hb => ?_⟩
      obtain ⟨x, hx, rfl⟩ := List.mem_map.1 ha
      have hb : b = T.length := by simpa using hb
      have := (h.e1 j hi x hx).1
      rw [hb, h.len]
      omega
    · rcases Nat.lt_or_ge j W.length with hj' | hj'
      · exact h.e3 j hj'
      · rw [getD_none T nd0 j (by rw [h.len]; exact hj')]; exact List.Pairwise.nil
/-- Which words end where. -/
structure EndsAt (T : List Nd) (W : List (List UInt8)) (P : List (List UInt8)) : Prop where
  pats : ∀ k, k < P.length → ∃ i, i < W.length ∧ W.getD i [] = P.getD k [] ∧ (T.getD i nd0).ends = (k : Int)
  only : ∀ i, i < W.length → (T.getD i nd0).ends = -1 ∨ ∃ k, k < P.length ∧ (T.getD i nd0).ends = (k : Int) ∧ W.getD i [] = P.getD k []
theorem ends_one : EndsAt [nd0] [[]] [] := by
  refine ⟨fun k hk => absurd hk (Nat.not_lt_zero _), fun i hi => ?_⟩
  obtain rfl : i = 0 := by have hi : i < 1 := hi; omega
  exact .inl rfl
theorem EndsAt.grow {P : List (List UInt8)} (h : EndsAt T W P) (ht : Tree T W) {i : Nat} (hi : i < W.length) {c : UInt8} : EndsAt (growT T i c) (W ++ [W.getD i [] ++ [c]]) P := by
  have hiT : i < T.length := by rw [ht.len]; exact hi
  have hold : ∀ j, j < W.length → (W ++ [W.getD i [] ++ [c]]).getD j [] = W.getD j [] := fun j hj => getD_app_left _ _ _ _ hj
  have he : ∀ j, ((growT T i c).getD j nd0).ends = (T.getD j nd0).ends := fun j => by
    rw [growT_getD hiT]
    split
    · rename_i e; rw [e]
    · rfl
  refine ⟨fun k hk => ?_, fun j hj => ?_⟩
  · obtain ⟨j, hj, e1, e2⟩ := h.pats k hk
    exact ⟨j, by simp; omega, by rw [hold _ hj]; exact e1, by rw [he]; exact e2⟩
  · rw [he]
    rcases Nat.lt_or_ge j W.length with hj' | hj'
    · rw [hold _ hj']; exact h.only j hj'
    · rw [getD_none T nd0 j (by rw [ht.len]; exact hj')]; exact .inl rfl
theorem EndsAt.add {P : List (List UInt8)} (h : EndsAt T W P) (ht : Tree T W) {i : Nat} (hi : i < W.length) {p : List UInt8} (hp : W.getD i [] = p) (hnew : p ∉ P) : EndsAt (T.set i { T.getD i nd0 with ends := (P.length : Int) }) W (P ++ [p]) := by
  have hiT : i < T.length := by rw [ht.len]; exact hi
  refine ⟨fun k hk => ?_, fun j hj => ?_⟩
  · have hk : k < P.length + 1 := by simpa using hk
    rcases Nat.lt_or_ge k P.length with hk' | hk'
    · obtain ⟨j, hj, e1, e2⟩ := h.pats k hk'
      refine ⟨j, hj, by rw [getD_app_left _ _ _ _ hk']; exact e1, ?_⟩
      rw [setNd hiT, if_neg ?_]
      · exact e2
      · rintro rfl
        rw [hp] at e1
        exact hnew (by rw [e1, getD_some _ _ _ hk']; exact List.getElem_mem _)
    · obtain rfl : k = P.length := by omega
      refine ⟨i, hi, by rw [getD_app_right _ _ _ _ (Nat.le_refl _), Nat.sub_self, hp]; rfl, ?_⟩
      rw [setNd hiT, if_pos rfl]
  · rw [setNd hiT]
    by_cases e : j = i
    · subst e
      rw [if_pos rfl]
      exact .inr ⟨P.length, by simp, rfl, by rw [getD_app_right _ _ _ _ (Nat.le_refl _), Nat.sub_self, hp]; rfl⟩
    · rw [if_neg e]
      rcases h.only j hj with h1 | ⟨k, h1, h2, h3⟩
      · exact .inl h1
      · exact .inr ⟨k, by simp; omega, h2, by rw [getD_app_left _ _ _ _ h1]; exact h3⟩
theorem EndsAt.congr {P : List (List UInt8)} (h : EndsAt T W P) {T' : List Nd} (hn : ∀ i, (T'.getD i nd0).ends = (T.getD i nd0).ends) : EndsAt T' W P :=
  ⟨fun k hk => by obtain ⟨i, a, b, c⟩ := h.pats k hk; exact ⟨i, a, b, by rw [hn]; exact c⟩, fun i hi => by rw [hn]; exact h.only i hi⟩
/-- The link of a node leads to the longest end of its word that is a node, too. -/
structure FailOk (T : List Nd) (W : List (List UInt8)) (i : Nat) : Prop where
  lt : (T.getD i nd0).fail < W.length
  suf : W.getD (T.getD i nd0).fail [] <:+ W.getD i []
  short : (W.getD (T.getD i nd0).fail []).length < (W.getD i []).length
  most : ∀ u, u < W.length → W.getD u [] <:+ W.getD i [] → (W.getD u []).length < (W.getD i []).length → (W.getD u []).length ≤ (W.getD (T.getD i nd0).fail []).length
/-- The longest end of a text that is a node. -/
structure LongIn (W : List (List UInt8)) (x : List UInt8) (r : Nat) : Prop where
  lt : r < W.length
  suf : W.getD r [] <:+ x
  most : ∀ u, u < W.length → W.getD u [] <:+ x → (W.getD u []).length ≤ (W.getD r []).length
theorem LongIn.self {i : Nat} (hi : i < W.length) : LongIn W (W.getD i []) i := ⟨hi, List.suffix_refl _, fun u _ h => h.length_le⟩
theorem LongIn.nil (h : Tree T W) : LongIn W [] 0 := ⟨h.pos, by rw [h.root]; exact List.suffix_refl _, fun u _ h2 => Nat.le_trans h2.length_le (Nat.zero_le _)⟩
structure StepAt (W : List (List UInt8)) (x : List UInt8) (c : UInt8) (a : Nat) : Prop where
  lt : a < W.length
  suf : W.getD a [] <:+ x
  most : ∀ u, u < W.length → ∀ v, W.getD u [] = v ++ [c] → v <:+ x → v.length ≤ (W.getD a []).length
theorem snoc_suffix {u x : List UInt8} {c : UInt8} (h : u <:+ x ++ [c]) : u = [] ∨ ∃ v, u = v ++ [c] ∧ v <:+ x := by
  rcases List.eq_nil_or_concat u with rfl | ⟨v, b, rfl⟩
  · exact .inl rfl
  · obtain ⟨y, hy⟩ := h
    rw [List.concat_eq_append, ← List.append_assoc] at hy
    obtain ⟨h1, rfl⟩ := snoc_inj hy
    exact .inr ⟨v, by simp, y, h1⟩
theorem suffix_snoc {v x : List UInt8} (c : UInt8) (h : v <:+ x) : v ++ [c] <:+ x ++ [c] := by
  obtain ⟨y, rfl⟩ := h
  exact ⟨y, by simp⟩
theorem step_start (h : Tree T W) {x : List UInt8} {a : Nat} (hl : LongIn W x a) (c : UInt8) : StepAt W x c a := ⟨hl.lt, hl.suf, fun u hu v e hv => by
  obtain ⟨i, hi, e2, _⟩ := h.pre hu e
  rw [← e2] at hv ⊢
  exact hl.most i hi hv⟩
theorem step_yes (h : Tree T W) {x : List UInt8} {c : UInt8} {a : Nat} (hs : StepAt W x c a) (hn : leadE (T.getD a nd0).next c ≠ 0) : LongIn W (x ++ [c]) (leadE (T.getD a nd0).next c) := by
  obtain ⟨h1, h2⟩ := h.lead_yes hs.lt hn
  refine ⟨h1, by rw [h2]; exact suffix_snoc c hs.suf, fun u hu hx => ?_⟩
  rw [h2, List.length_append]
  rcases snoc_suffix hx with e | ⟨v, e, hv⟩
  · rw [e]; exact Nat.zero_le _
  · rw [e, List.length_append]
    exact Nat.add_le_add_right (hs.most u hu v e hv) _
theorem step_root (h : Tree T W) {x : List UInt8} {c : UInt8} (hs : StepAt W x c 0) (hn : leadE (T.getD 0 nd0).next c = 0) : LongIn W (x ++ [c]) 0 := by
  refine ⟨h.pos, by rw [h.root]; exact List.nil_suffix, fun u hu hx => ?_⟩
  rcases snoc_suffix hx with e | ⟨v, e, hv⟩
  · rw [e]; exact Nat.zero_le _
  · have := hs.most u hu v e hv
    rw [h.root] at this
    have hv0 : v = [] := List.eq_nil_of_length_eq_zero (by simpa using this)
    subst hv0
    exact absurd (by rw [e, h.root]) (h.lead_no h.pos hn hu)
theorem step_fail (h : Tree T W) {x : List UInt8} {c : UInt8} {a : Nat} (hs : StepAt W x c a) (hn : leadE (T.getD a nd0).next c = 0) (hf : FailOk T W a) : StepAt W x c (T.getD a nd0).fail := by
  refine ⟨hf.lt, hf.suf.trans hs.suf, fun u hu v e hv => ?_⟩
  have hle := hs.most u hu v e hv
  have hva : v <:+ W.getD a [] := List.suffix_of_suffix_length_le hv hs.suf hle
  obtain ⟨i, hi, e2, _⟩ := h.pre hu e
  rcases Nat.lt_or_ge v.length (W.getD a []).length with hlt | hge
  · rw [← e2] at hva hlt ⊢
    exact hf.most i hi hva hlt
  · have : v = W.getD a [] := hva.eq_of_length (Nat.le_antisymm hle hge)
    rw [this] at e
    exact absurd e (h.lead_no hs.lt hn hu)
/-- The link of a child. -/
theorem child_fail (h : Tree T W) {a t r : Nat} {b : UInt8} (ht : t < W.length) (e : W.getD t [] = W.getD a [] ++ [b]) (hf : FailOk T W a) (hr : LongIn W (W.getD (T.getD a nd0).fail [] ++ [b]) r) {T' : List Nd} (hT : (T'.getD t nd0).fail = r) : FailOk T' W t := by
  have hl := hr.suf.length_le
  rw [List.length_append, List.length_singleton] at hl
  refine ⟨by rw [hT]; exact hr.lt, ?_, ?_, fun u hu hx hlt => ?_⟩
  · rw [hT, e]; exact hr.suf.trans (suffix_snoc b hf.suf)
  · rw [hT, e, List.length_append, List.length_singleton]
    have := hf.short
    omega
  · rw [hT]
    rw [e] at hx hlt
    rcases snoc_suffix hx with e2 | ⟨v, e2, hv⟩
    · rw [e2]; exact Nat.zero_le _
    · rw [e2, List.length_append, List.length_append] at hlt
      obtain ⟨i, hi, e3, _⟩ := h.pre hu e2
      have hm := hf.most i hi (by rw [e3]; exact hv) (by rw [e3]; simpa using hlt)
      rw [e3] at hm
      refine hr.most u hu ?_
      rw [e2]
      exact suffix_snoc b (List.suffix_of_suffix_length_le hv hf.suf hm)
theorem child_root (h : Tree T W) {t : Nat} {b : UInt8} (ht : t < W.length) (e : W.getD t [] = [b]) {T' : List Nd} (hT : (T'.getD t nd0).fail = 0) : FailOk T' W t := by
  refine ⟨by rw [hT]; exact h.pos, by rw [hT, h.root]; exact List.nil_suffix, by rw [hT, h.root, e]; simp, fun u hu hx hlt => ?_⟩
  rw [e] at hlt
  rw [hT, h.root]
  have : (W.getD u []).length < 1 := hlt
  omega
theorem FailOk.congr {i : Nat} (h : FailOk T W i) {T' : List Nd} (hT : (T'.getD i nd0).fail = (T.getD i nd0).fail) : FailOk T' W i :=
  ⟨by rw [hT]; exact h.lt, by rw [hT]; exact h.suf, by rw [hT]; exact h.short, by rw [hT]; exact h.most⟩
end
end Go.Proofs.Ytkbogiijbmjbmaa
