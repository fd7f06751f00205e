/- Plain laws of codes: Sardinas and Patterson; Kraft and McMillan. -/
import Derived.Lib.Hide
namespace Go.Proofs.YtafpcekemlgclaaGreatDoor
set_option linter.unusedVariables false

abbrev Wd := List UInt8
/-- Words are read in one way only. -/
def UD (l : List Wd) : Prop := ∀ p q : List Wd, (∀ x ∈ p, x ∈ l) → (∀ x ∈ q, x ∈ l) → p.flatten = q.flatten → p = q
/-- What one row of words leaves over behind another one. -/
inductive Dang (l : List Wd) : Wd → Prop
  | base (u v s : Wd) (hu : u ∈ l) (hv : v ∈ l) (h : v = u ++ s) (hs : s ≠ []) : Dang l s
  | into (s w t : Wd) (hd : Dang l s) (hw : w ∈ l) (h : w = s ++ t) (ht : t ≠ []) : Dang l t
  | past (s w t : Wd) (hd : Dang l s) (hw : w ∈ l) (h : s = w ++ t) (ht : t ≠ []) : Dang l t
theorem Dang.ne {l : List Wd} {s : Wd} (h : Dang l s) : s ≠ [] := by cases h <;> assumption
theorem Dang.tail_of {l : List Wd} {s : Wd} (h : Dang l s) : ∃ w ∈ l, ∃ p, w = p ++ s := by
  induction h with
  | base u v s hu hv h hs => exact ⟨v, hv, u, h⟩
  | into s w t hd hw h ht ih => exact ⟨w, hw, s, h⟩
  | past s w t hd hw h ht ih =>
    obtain ⟨x, hx, p, hp⟩ := ih
    exact ⟨x, hx, p ++ w, by rw [hp, h, List.append_assoc]⟩
/-- Of two rows that begin one text one begins the other one. -/
theorem app_split {a b c d : Wd} (h : a ++ b = c ++ d) : a = c ∨ (∃ t, t ≠ [] ∧ a = c ++ t ∧ d = t ++ b) ∨ (∃ t, t ≠ [] ∧ c = a ++ t ∧ b = t ++ d) := by
  rcases List.append_eq_append_iff.1 h with ⟨t, h1, h2⟩ | ⟨t, h1, h2⟩
  · by_cases ht : t = []
    · subst ht; exact .inl (by simpa using h1.symm)
    · exact .inr (.inr ⟨t, ht, h1, h2⟩)
  · by_cases ht : t = []
    · subst ht; exact .inl (by simpa using h1)
    · exact .inr (.inl ⟨t, ht, h1, h2⟩)
theorem no_dang {l : List Wd} (hD : ∀ s, Dang l s → s ∉ l) : ∀ (n : Nat) (s : Wd) (p q : List Wd), p.length + q.length ≤ n → Dang l s → (∀ x ∈ p, x ∈ l) → (∀ x ∈ q, x ∈ l) → s ++ p.flatten ≠ q.flatten
  | n, s, p, [], _, hs, _, _ => fun h => by
    have := hs.ne
    have h0 : s = [] := (List.append_eq_nil_iff.1 (show s ++ p.flatten = [] from h)).1
    exact this h0
  | 0, s, p, w :: q, hn, _, _, _ => by simp at hn
  | n + 1, s, p, w :: q, hn, hs, hp, hq => fun h => by
    rw [List.flatten_cons] at h
    have hw : w ∈ l := hq w (by simp)
    rcases app_split h with rfl | ⟨t, ht, h1, h2⟩ | ⟨t, ht, h1, h2⟩
    · exact hD s hs hw
    · exact no_dang hD n t p q (by simp at hn; omega) (.past s w t hs hw h1 ht) hp (fun x hx => hq x (by simp [hx])) h2.symm
    · exact no_dang hD n t q p (by simp at hn; omega) (.into s w t hs hw h1 ht) (fun x hx => hq x (by simp [hx])) hp h2.symm
theorem ud_of_no {l : List Wd} (h0 : ∀ w ∈ l, w ≠ []) (hD : ∀ s, Dang l s → s ∉ l) : UD l := by
  intro p
  induction p with
  | nil =>
    intro q _ hq h
    cases q with
    | nil => rfl
    | cons w q =>
      exfalso
      have := h0 w (hq w (by simp))
      rw [List.flatten_nil, List.flatten_cons] at h
      exact this (List.append_eq_nil_iff.1 h.symm).1
  | cons u p ih =>
    intro q hp hq h
    cases q with
    | nil =>
      exfalso
      have := h0 u (hp u (by simp))
      rw [List.flatten_nil, List.flatten_cons] at h
      exact this (List.append_eq_nil_iff.1 h).1
    | cons v q =>
      rw [List.flatten_cons, List.flatten_cons] at h
      have hu : u ∈ l := hp u (by simp)
      have hv : v ∈ l := hq v (by simp)
      rcases app_split h with rfl | ⟨t, ht, h1, h2⟩ | ⟨t, ht, h1, h2⟩
      · rw [ih q (fun x hx => hp x (by simp [hx])) (fun x hx => hq x (by simp [hx])) (List.append_cancel_left h)]
      · exact absurd h2.symm (no_dang hD _ t p q (Nat.le_refl _) (.base v u t hv hu h1 ht) (fun x hx => hp x (by simp [hx])) (fun x hx => hq x (by simp [hx])))
      · exact absurd h2.symm (no_dang hD _ t q p (Nat.le_refl _) (.base u v t hu hv h1 ht) (fun x hx => hq x (by simp [hx])) (fun x hx => hp x (by simp [hx])))
theorem dang_two {l : List Wd} {s : Wd} (h : Dang l s) : ∃ (u v : Wd) (p q : List Wd), u ≠ v ∧ u ∈ l ∧ v ∈ l ∧ (∀ x ∈ p, x ∈ l) ∧ (∀ x ∈ q, x ∈ l) ∧ (u :: p).flatten ++ s = (v :: q).flatten := by
  induction h with
  | base u v s hu hv h hs =>
    exact ⟨u, v, [], [], by rintro rfl; exact hs (by simpa using h), hu, hv, by simp, by simp, by simpa using h.symm⟩
  | into s w t hd hw h ht ih =>
    obtain ⟨u, v, p, q, huv, hu, hv, hp, hq, he⟩ := ih
    refine ⟨v, u, q, p ++ [w], Ne.symm huv, hv, hu, hq, fun x hx => ?_, ?_⟩
    · rcases List.mem_append.1 hx with hx | hx
      · exact hp x hx
      · rw [List.mem_singleton.1 hx]; exact hw
    · rw [← he, ← List.cons_append, List.flatten_append, h, List.append_assoc]; simp
  | past s w t hd hw h ht ih =>
    obtain ⟨u, v, p, q, huv, hu, hv, hp, hq, he⟩ := ih
    refine ⟨u, v, p ++ [w], q, huv, hu, hv, fun x hx => ?_, hq, ?_⟩
    · rcases List.mem_append.1 hx with hx | hx
      · exact hp x hx
      · rw [List.mem_singleton.1 hx]; exact hw
    · rw [← he, ← List.cons_append, List.flatten_append, h]; simp
theorem no_of_ud {l : List Wd} (h : UD l) : ∀ s, Dang l s → s ∉ l := fun s hs hm => by
  obtain ⟨u, v, p, q, huv, hu, hv, hp, hq, he⟩ := dang_two hs
  have := h (u :: p ++ [s]) (v :: q) (fun x hx => by
    simp only [List.cons_append, List.mem_cons, List.mem_append, List.not_mem_nil, or_false] at hx
    rcases hx with rfl | hx | rfl
    · exact hu
    · exact hp x hx
    · exact hm) (fun x hx => by
    rcases List.mem_cons.1 hx with rfl | hx
    · exact hv
    · exact hq x hx) (by rw [List.flatten_append, ← he]; simp)
  injection this with h1 _
  exact huv h1
theorem ud_iff {l : List Wd} (h0 : ∀ w ∈ l, w ≠ []) : UD l ↔ ∀ s, Dang l s → s ∉ l := ⟨no_of_ud, ud_of_no h0⟩

/-- Words of which none begins another one are read in one way only. -/
theorem ud_of_front {l : List Wd} (h0 : ∀ w ∈ l, w ≠ []) (h : ∀ u ∈ l, ∀ v ∈ l, u <+: v → u = v) : UD l := by
  refine ud_of_no h0 fun s hs _ => ?_
  have : ∀ s, Dang l s → False := fun s hs => by
    induction hs with
    | base u v s hu hv h' hs => exact hs (by have := h u hu v hv ⟨s, h'.symm⟩; subst this; simpa using h')
    | into _ _ _ _ _ _ _ ih => exact ih
    | past _ _ _ _ _ _ _ ih => exact ih
  exact this s hs

/-- UD of words that are turned, or changed letter by letter. -/
theorem UD.map {l m : List Wd} (f : Wd → Wd) (hf : ∀ x ∈ m, f x ∈ l) (hi : ∀ x ∈ m, ∀ y ∈ m, f x = f y → x = y) (hj : ∀ p q : List Wd, (∀ x ∈ p, x ∈ m) → (∀ x ∈ q, x ∈ m) → p.flatten = q.flatten → (p.map f).flatten = (q.map f).flatten) (h : UD l) : UD m := by
  intro p q hp hq he
  have := h (p.map f) (q.map f) (fun x hx => by obtain ⟨y, hy, rfl⟩ := List.mem_map.1 hx; exact hf y (hp y hy)) (fun x hx => by obtain ⟨y, hy, rfl⟩ := List.mem_map.1 hx; exact hf y (hq y hy)) (hj p q hp hq he)
  clear he hj
  induction p generalizing q with
  | nil => cases q with
    | nil => rfl
    | cons _ _ => simp at this
  | cons a p ih => cases q with
    | nil => simp at this
    | cons b q =>
      simp only [List.map_cons, List.cons.injEq] at this
      rw [hi a (hp a (by simp)) b (hq b (by simp)) this.1, ih q (fun x hx => hp x (by simp [hx])) (fun x hx => hq x (by simp [hx])) this.2]
theorem UD.back {l m : List Wd} (hm : ∀ x, x ∈ m ↔ x.reverse ∈ l) (h : UD l) : UD m := by
  intro p q hp hq he
  have e : ∀ p : List Wd, ((p.map List.reverse).reverse).flatten = p.flatten.reverse := fun p => by rw [List.reverse_flatten]
  have := h (p.map List.reverse).reverse (q.map List.reverse).reverse (fun x hx => by
    obtain ⟨y, hy, rfl⟩ := List.mem_map.1 (List.mem_reverse.1 hx); exact (hm y).1 (hp y hy)) (fun x hx => by
    obtain ⟨y, hy, rfl⟩ := List.mem_map.1 (List.mem_reverse.1 hx); exact (hm y).1 (hq y hy)) (by rw [e, e, he])
  have h2 : p.map List.reverse = q.map List.reverse := by rw [← List.reverse_reverse (p.map List.reverse), this, List.reverse_reverse]
  have h3 : (p.map List.reverse).map List.reverse = (q.map List.reverse).map List.reverse := by rw [h2]
  have e2 : ∀ p : List Wd, (p.map List.reverse).map List.reverse = p := fun p => by
    rw [List.map_map]
    exact (List.map_congr_left fun x _ => List.reverse_reverse x).trans (List.map_id p)
  rwa [e2, e2] at h3

/-- KRAFT's sum, at depth L. -/
def kr (L : Nat) : List Nat → Nat
  | [] => 0
  | n :: l => 2 ^ (L - n) + kr L l
theorem kr_app (L : Nat) : ∀ a b : List Nat, kr L (a ++ b) = kr L a + kr L b
  | [], b => by simp [kr]
  | n :: a, b => by rw [List.cons_append, kr, kr, kr_app L a b, Nat.add_assoc]
theorem kr_perm (L : Nat) {a b : List Nat} (h : a.Perm b) : kr L a = kr L b := by
  induction h with
  | nil => rfl
  | cons x _ ih => rw [kr, kr, ih]
  | swap x y l => simp only [kr]; omega
  | trans _ _ h1 h2 => exact h1.trans h2
/-- Words of two letters. -/
def Bin (l : List Wd) : Prop := ∀ w ∈ l, ∀ c ∈ w, c = 48 ∨ c = 49
theorem nodup_of_map {α β : Type} {f : α → β} : ∀ {l : List α}, (l.map f).Nodup → l.Nodup
  | [], _ => by simp
  | a :: l, h => by
    rw [List.map_cons] at h
    obtain ⟨h1, h2⟩ := List.nodup_cons.1 h
    exact List.nodup_cons.2 ⟨fun hm => h1 (List.mem_map.2 ⟨a, hm, rfl⟩), nodup_of_map h2⟩
/-- Unlike texts of two letters, of at most M each. -/
theorem kr_texts : ∀ (M : Nat) (l : List Wd), l.Nodup → Bin l → (∀ w ∈ l, w.length ≤ M) → kr M (l.map List.length) ≤ (M + 1) * 2 ^ M := by
  have part : ∀ (M : Nat) (l : List Wd), l.Nodup → Bin l → ∃ z a b : List Wd, l.Perm (z ++ (a.map (48 :: ·) ++ b.map (49 :: ·))) ∧ z.length ≤ 1 ∧ (∀ w ∈ z, w = []) := by
    intro M l
    induction l with
    | nil => intro _ _; exact ⟨[], [], [], by simp, by simp, by simp⟩
    | cons w l ih =>
      intro hn hb
      obtain ⟨hw, hn⟩ := List.nodup_cons.1 hn
      obtain ⟨z, a, b, hp, hz, hz0⟩ := ih hn (fun w hw => hb w (by simp [hw]))
      cases w with
      | nil =>
        refine ⟨[] :: z, a, b, (hp.cons []), ?_, fun w hw => by rcases List.mem_cons.1 hw with rfl | h; · rfl
                                                                · exact hz0 w h⟩
        cases z with
        | nil => simp
        | cons y z =>
          exfalso
          have := hz0 y (by simp)
          subst this
          exact hw (hp.mem_iff.2 (by simp))
      | cons c w =>
        rcases hb (c :: w) (by simp) c (by simp) with rfl | rfl
        · refine ⟨z, w :: a, b, ?_, hz, hz0⟩
          refine (hp.cons _).trans ?_
          rw [List.map_cons, List.cons_append]
          exact List.perm_middle.symm
        · refine ⟨z, a, w :: b, ?_, hz, hz0⟩
          refine (hp.cons _).trans ?_
          rw [List.map_cons, ← List.append_assoc, ← List.append_assoc]
          exact List.perm_middle.symm
  intro M
  induction M with
  | zero =>
    intro l hn hb hl
    cases l with
    | nil => simp [kr]
    | cons w l =>
      cases l with
      | nil => simp [kr]
      | cons v l =>
        exfalso
        have h1 := List.eq_nil_of_length_eq_zero (Nat.le_zero.1 (hl w (by simp)))
        have h2 := List.eq_nil_of_length_eq_zero (Nat.le_zero.1 (hl v (by simp)))
        subst h1 h2
        simp at hn
  | succ M ih =>
    intro l hn hb hl
    obtain ⟨z, a, b, hp, hz, hz0⟩ := part M l hn hb
    have hn2 := hp.nodup_iff.1 hn
    obtain ⟨_, hab, _⟩ := List.nodup_append.1 hn2
    obtain ⟨ha, hbn, _⟩ := List.nodup_append.1 hab
    have ka : kr M (a.map List.length) ≤ (M + 1) * 2 ^ M := ih a (nodup_of_map ha) (fun w hw c hc => hb (48 :: w) (hp.mem_iff.2 (by simp [hw])) c (by simp [hc])) (fun w hw => by have := hl (48 :: w) (hp.mem_iff.2 (by simp [hw])); simpa using this)
    have kb : kr M (b.map List.length) ≤ (M + 1) * 2 ^ M := ih b (nodup_of_map hbn) (fun w hw c hc => hb (49 :: w) (hp.mem_iff.2 (by simp [hw])) c (by simp [hc])) (fun w hw => by have := hl (49 :: w) (hp.mem_iff.2 (by simp [hw])); simpa using this)
    have step : ∀ (c : UInt8) (a : List Wd), kr (M + 1) ((a.map (c :: ·)).map List.length) = kr M (a.map List.length) := by
      intro c a
      induction a with
      | nil => rfl
      | cons x a ih => simp only [List.map_cons, kr, ih, List.length_cons, Nat.add_sub_add_right]
    have kz : kr (M + 1) (z.map List.length) ≤ 2 ^ (M + 1) := by
      cases z with
      | nil => simp [kr]
      | cons y z =>
        obtain rfl : z = [] := List.eq_nil_of_length_eq_zero (by rw [List.length_cons] at hz; omega)
        have := hz0 y (by simp)
        subst this
        simp [kr]
    rw [kr_perm _ (hp.map List.length), List.map_append, List.map_append, kr_app, kr_app, step, step]
    have e : (M + 1 + 1) * 2 ^ (M + 1) = 2 ^ (M + 1) + (M + 1) * 2 ^ M + (M + 1) * 2 ^ M := by
      rw [Nat.pow_succ]; generalize 2 ^ M = t; rw [Nat.add_mul, Nat.one_mul]; have : (M + 1) * (t * 2) = (M + 1) * t + (M + 1) * t := by rw [← Nat.mul_add]; congr 1; omega
      omega
    omega
/-- All rows of m words. -/
def rowsOf (l : List Wd) : Nat → List (List Wd)
  | 0 => [[]]
  | m + 1 => l.flatMap fun w => (rowsOf l m).map (w :: ·)
theorem mem_rowsOf {l : List Wd} : ∀ {m : Nat} {p : List Wd}, p ∈ rowsOf l m → p.length = m ∧ ∀ x ∈ p, x ∈ l
  | 0, p, h => by obtain rfl : p = [] := by simpa [rowsOf] using h
                  simp
  | m + 1, p, h => by
    obtain ⟨w, hw, hp⟩ := List.mem_flatMap.1 h
    obtain ⟨q, hq, rfl⟩ := List.mem_map.1 hp
    obtain ⟨h1, h2⟩ := mem_rowsOf hq
    exact ⟨by simp [h1], fun x hx => by rcases List.mem_cons.1 hx with rfl | hx; · exact hw
                                        · exact h2 x hx⟩
theorem rowsOf_nodup {l : List Wd} (hl : l.Nodup) : ∀ m, (rowsOf l m).Nodup
  | 0 => by simp [rowsOf]
  | m + 1 => by
    have ih := rowsOf_nodup hl m
    have : ∀ k : List Wd, k.Nodup → (k.flatMap fun w => (rowsOf l m).map (w :: ·)).Nodup := by
      intro k
      induction k with
      | nil => intro _; simp
      | cons w k ihk =>
        intro hk
        obtain ⟨hw, hk⟩ := List.nodup_cons.1 hk
        rw [List.flatMap_cons]
        refine List.nodup_append.2 ⟨?_, ihk hk, ?_⟩
        · exact (List.Pairwise.map _ (fun a b hab h => hab (by injection h)) ih)
        · intro a ha b hb e
          subst e
          obtain ⟨p, _, rfl⟩ := List.mem_map.1 ha
          obtain ⟨v, hv, hq⟩ := List.mem_flatMap.1 hb
          obtain ⟨q, _, h⟩ := List.mem_map.1 hq
          injection h with h _
          exact hw (h ▸ hv)
    exact this l hl
theorem rows_le {l : List Wd} {L : Nat} (hL : ∀ w ∈ l, w.length ≤ L) : ∀ {m : Nat} {p : List Wd}, p.length = m → (∀ x ∈ p, x ∈ l) → p.flatten.length ≤ L * m
  | m, [], _, _ => by simp
  | 0, w :: p, h1, _ => by simp at h1
  | m + 1, w :: p, h1, h2 => by
    have a := rows_le hL (m := m) (p := p) (by simpa using h1) (fun x hx => h2 x (by simp [hx]))
    have b := hL w (h2 w (by simp))
    simp only [List.flatten_cons, List.length_append, Nat.mul_add, Nat.mul_one]
    omega
theorem kr_rows {l : List Wd} {L : Nat} (hL : ∀ w ∈ l, w.length ≤ L) : ∀ m, kr (L * m) ((rowsOf l m).map fun p => p.flatten.length) = (kr L (l.map List.length)) ^ m
  | 0 => by simp [rowsOf, kr]
  | m + 1 => by
    have ih := kr_rows hL m
    have sub : ∀ (w : Wd), w.length ≤ L → ∀ R : List (List Wd), (∀ p ∈ R, p.flatten.length ≤ L * m) → kr (L * (m + 1)) ((R.map (w :: ·)).map fun p => p.flatten.length) = 2 ^ (L - w.length) * kr (L * m) (R.map fun p => p.flatten.length) := by
      intro w hw R
      induction R with
      | nil => intro _; simp [kr]
      | cons p R ihR =>
        intro hR
        have h1 := hR p (by simp)
        simp only [List.map_cons, kr]
        rw [ihR fun p hp => hR p (by simp [hp]), Nat.mul_add (2 ^ _), ← Nat.pow_add]
        congr 2
        simp only [List.flatten_cons, List.length_append, Nat.mul_add, Nat.mul_one]
        omega
    have hR : ∀ p ∈ rowsOf l m, p.flatten.length ≤ L * m := fun p hp => rows_le hL (mem_rowsOf hp).1 (mem_rowsOf hp).2
    have all : ∀ k : List Wd, (∀ w ∈ k, w.length ≤ L) → kr (L * (m + 1)) ((k.flatMap fun w => (rowsOf l m).map (w :: ·)).map fun p => p.flatten.length) = kr L (k.map List.length) * (kr L (l.map List.length)) ^ m := by
      intro k
      induction k with
      | nil => intro _; simp [kr]
      | cons w k ihk =>
        intro hk
        rw [List.flatMap_cons, List.map_append, kr_app, ihk fun w hw => hk w (by simp [hw]), sub w (hk w (by simp)) _ hR, ih, List.map_cons, kr, Nat.add_mul]
    rw [rowsOf, all l hL, Nat.pow_succ, Nat.mul_comm]
theorem bern (a : Nat) : ∀ n : Nat, a ^ n + n * a ^ (n - 1) ≤ (a + 1) ^ n
  | 0 => by simp
  | 1 => by simp
  | n + 2 => by
    have ih := bern a (n + 1)
    rw [Nat.add_sub_cancel] at ih
    have : (a ^ (n + 1) + (n + 1) * a ^ n) * (a + 1) ≤ (a + 1) ^ (n + 2) := by rw [Nat.pow_succ (a + 1)]; exact Nat.mul_le_mul_right _ ih
    refine Nat.le_trans ?_ this
    show a ^ (n + 2) + (n + 2) * a ^ (n + 1) ≤ _
    have e : a ^ (n + 1) = a ^ n * a := Nat.pow_succ ..
    have e2 : a ^ (n + 2) = a ^ n * a * a := by rw [Nat.pow_succ, e]
    rw [e2, e]
    generalize a ^ n = x
    simp only [Nat.add_mul, Nat.mul_add, Nat.mul_one, Nat.one_mul]
    have : n * x * a = n * (x * a) := Nat.mul_assoc ..
    omega
theorem grow2 (a k : Nat) (ha : 1 ≤ a) : 2 ^ k * a ^ (a * k) ≤ (a + 1) ^ (a * k) := by
  have h := bern a a
  have e : a * a ^ (a - 1) = a ^ a := by
    rw [Nat.mul_comm, ← Nat.pow_succ, Nat.succ_eq_add_one, Nat.sub_add_cancel ha]
  have h2 : 2 * a ^ a ≤ (a + 1) ^ a := by omega
  have h3 := Nat.pow_le_pow_left h2 k
  rw [Nat.mul_pow, ← Nat.pow_mul, ← Nat.pow_mul] at h3
  exact h3
theorem nodup_map_on {α β : Type} {f : α → β} : ∀ {l : List α}, (∀ a ∈ l, ∀ b ∈ l, f a = f b → a = b) → l.Nodup → (l.map f).Nodup
  | [], _, _ => by simp
  | a :: l, h, hn => by
    obtain ⟨ha, hn⟩ := List.nodup_cons.1 hn
    rw [List.map_cons]
    refine List.nodup_cons.2 ⟨fun hm => ?_, nodup_map_on (fun x hx y hy => h x (by simp [hx]) y (by simp [hy])) hn⟩
    obtain ⟨b, hb, e⟩ := List.mem_map.1 hm
    have := h b (by simp [hb]) a (by simp) e
    exact ha (this ▸ hb)
/-- KRAFT, McMILLAN. -/
theorem mcmillan {l : List Wd} (hn : l.Nodup) (hb : Bin l) (hL : ∀ w ∈ l, w.length ≤ 12) (h : UD l) : kr 12 (l.map List.length) ≤ 2 ^ 12 := by
  refine Nat.le_of_not_lt fun hlt => ?_
  have key : ∀ m, (kr 12 (l.map List.length)) ^ m ≤ (12 * m + 1) * 2 ^ (12 * m) := fun m => by
    rw [← kr_rows hL m]
    have hnd := rowsOf_nodup hn m
    have h1 : ((rowsOf l m).map List.flatten).Nodup := nodup_map_on (fun a ha b hb e => h a b (mem_rowsOf ha).2 (mem_rowsOf hb).2 e) hnd
    have := kr_texts (12 * m) ((rowsOf l m).map List.flatten) h1 (fun w hw c hc => by
      obtain ⟨p, hp, rfl⟩ := List.mem_map.1 hw
      obtain ⟨x, hx, hcx⟩ := List.mem_flatten.1 hc
      exact hb x ((mem_rowsOf hp).2 x hx) c hcx) (fun w hw => by
      obtain ⟨p, hp, rfl⟩ := List.mem_map.1 hw
      exact rows_le hL (mem_rowsOf hp).1 (mem_rowsOf hp).2)
    rw [List.map_map] at this
    exact this
  generalize kr 12 (l.map List.length) = K at *
  simp only [Nat.pow_mul] at key
  obtain ⟨a, ha⟩ : ∃ a : Nat, a = 2 ^ 12 := ⟨_, rfl⟩
  rw [← ha] at key hlt
  have h1 : a = 4096 := ha
  clear ha
  have k1 := key (a * 21)
  have k2 := grow2 a 21 (by omega)
  have k3 : (a + 1) ^ (a * 21) ≤ K ^ (a * 21) := Nat.pow_le_pow_left hlt _
  have hp : 0 < a ^ (a * 21) := Nat.pow_pos (by omega)
  have k4 := Nat.le_of_mul_le_mul_right (Nat.le_trans k2 (Nat.le_trans k3 k1)) hp
  have : (2 : Nat) ^ 21 = 2097152 := by decide
  omega
end Go.Proofs.YtafpcekemlgclaaGreatDoor
