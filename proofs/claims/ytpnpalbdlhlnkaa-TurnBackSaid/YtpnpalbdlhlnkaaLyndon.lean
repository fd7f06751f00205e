/- Plain: Lyndon words; each word falls into such words in one way, none less than the next (Chen, Fox, Lyndon); how Duval finds them. -/
import Derived.Test.YtpnpalbdlhlnkaaPlain
namespace Go.Proofs.Ytpnpalbdlhlnkaa
set_option linter.unusedVariables false

/-- One text stands ahead of another one. -/
def llt : List UInt8 → List UInt8 → Bool
  | _, [] => false
  | [], _ :: _ => true
  | x :: a, y :: b => decide (x < y) || (x == y && llt a b)
theorem u8_irrefl (x : UInt8) : ¬ x < x := by rw [UInt8.lt_iff_toNat_lt]; omega
theorem u8_trans {x y z : UInt8} (h : x < y) (k : y < z) : x < z := by rw [UInt8.lt_iff_toNat_lt] at *; omega
theorem u8_tri (x y : UInt8) : x < y ∨ x = y ∨ y < x := by
  rcases Nat.lt_trichotomy x.toNat y.toNat with h | h | h
  · exact .inl (UInt8.lt_iff_toNat_lt.2 h)
  · exact .inr (.inl (UInt8.toNat_inj.1 h))
  · exact .inr (.inr (UInt8.lt_iff_toNat_lt.2 h))
theorem llt_cons (x y : UInt8) (a b : List UInt8) : llt (x :: a) (y :: b) = true ↔ x < y ∨ (x = y ∧ llt a b = true) := by
  rw [llt, Bool.or_eq_true, Bool.and_eq_true, decide_eq_true_iff, beq_iff_eq]
theorem llt_irrefl : ∀ a : List UInt8, llt a a = false
  | [] => rfl
  | x :: a => by
    rw [Bool.eq_false_iff]
    intro h
    rcases (llt_cons x x a a).1 h with h | ⟨_, h⟩
    · exact u8_irrefl x h
    · rw [llt_irrefl a] at h; cases h
theorem llt_trans : ∀ {a b c : List UInt8}, llt a b = true → llt b c = true → llt a c = true
  | _, [], _, h, _ => by simp [llt] at h
  | _, _ :: _, [], _, h => by simp [llt] at h
  | [], y :: b, z :: c, _, _ => rfl
  | x :: a, y :: b, z :: c, h, k => by
    rw [llt_cons] at h k ⊢
    rcases h with h | ⟨rfl, h⟩
    · rcases k with k | ⟨rfl, k⟩
      · exact .inl (u8_trans h k)
      · exact .inl h
    · rcases k with k | ⟨rfl, k⟩
      · exact .inl k
      · exact .inr ⟨rfl, llt_trans h k⟩
theorem llt_tri : ∀ a b : List UInt8, llt a b = true ∨ a = b ∨ llt b a = true
  | [], [] => .inr (.inl rfl)
  | [], _ :: _ => .inl rfl
  | _ :: _, [] => .inr (.inr rfl)
  | x :: a, y :: b => by
    rw [llt_cons, llt_cons]
    rcases u8_tri x y with h | rfl | h
    · exact .inl (.inl h)
    · rcases llt_tri a b with h | rfl | h
      · exact .inl (.inr ⟨rfl, h⟩)
      · exact .inr (.inl rfl)
      · exact .inr (.inr (.inr ⟨rfl, h⟩))
    · exact .inr (.inr (.inl h))
theorem llt_app (l a b : List UInt8) : llt (l ++ a) (l ++ b) = llt a b := by
  induction l with
  | nil => rfl
  | cons x l ih => rw [List.cons_append, List.cons_append, llt, ih]; simp
theorem llt_nil (a : List UInt8) : llt a [] = false := by cases a <;> rfl
theorem llt_prefix (a b : List UInt8) (h : b ≠ []) : llt a (a ++ b) = true := by
  have := llt_app a [] b
  rw [List.append_nil] at this
  rw [this]
  cases b with
  | nil => exact absurd rfl h
  | cons x b => rfl
/-- Not greater. -/
def lle (a b : List UInt8) : Prop := llt b a = false
theorem lle_refl (a : List UInt8) : lle a a := llt_irrefl a
theorem lle_of_lt {a b : List UInt8} (h : llt a b = true) : lle a b := by
  unfold lle
  rw [Bool.eq_false_iff]
  intro k
  have := llt_trans h k
  rw [llt_irrefl] at this; cases this
theorem lle_iff {a b : List UInt8} : lle a b ↔ llt a b = true ∨ a = b := by
  constructor
  · intro h
    rcases llt_tri a b with k | k | k
    · exact .inl k
    · exact .inr k
    · unfold lle at h; rw [h] at k; cases k
  · rintro (h | rfl)
    · exact lle_of_lt h
    · exact lle_refl _
theorem lle_trans {a b c : List UInt8} (h : lle a b) (k : lle b c) : lle a c := by
  rw [lle_iff] at *
  rcases h with h | rfl
  · rcases k with k | rfl
    · exact .inl (llt_trans h k)
    · exact .inl h
  · exact k
theorem lle_antisymm {a b : List UInt8} (h : lle a b) (k : lle b a) : a = b := by
  rcases lle_iff.1 h with h | h
  · unfold lle at k; rw [h] at k; cases k
  · exact h
theorem llt_of_lt_le {a b c : List UInt8} (h : llt a b = true) (k : lle b c) : llt a c = true := by
  rcases lle_iff.1 k with k | rfl
  · exact llt_trans h k
  · exact h
theorem llt_of_le_lt {a b c : List UInt8} (h : lle a b) (k : llt b c = true) : llt a c = true := by
  rcases lle_iff.1 h with h | rfl
  · exact llt_trans h k
  · exact k
theorem lle_prefix (a b : List UInt8) : lle a (a ++ b) := by
  rw [lle_iff]
  rcases b with _ | ⟨x, b⟩
  · exact .inr (by rw [List.append_nil])
  · exact .inl (llt_prefix a _ (by simp))

/-- They differ at a place that both have. -/
def Dif (a b : List UInt8) : Prop := ∃ l x y a' b', a = l ++ x :: a' ∧ b = l ++ y :: b' ∧ x < y
theorem Dif.lt {a b : List UInt8} (h : Dif a b) : llt a b = true := by
  obtain ⟨l, x, y, a', b', rfl, rfl, hxy⟩ := h
  rw [llt_app, llt_cons]
  exact .inl hxy
theorem Dif.app {a b : List UInt8} (h : Dif a b) (c d : List UInt8) : Dif (a ++ c) (b ++ d) := by
  obtain ⟨l, x, y, a', b', rfl, rfl, hxy⟩ := h
  exact ⟨l, x, y, a' ++ c, b' ++ d, by simp, by simp, hxy⟩
theorem llt_dif : ∀ {a b : List UInt8}, llt a b = true → Dif a b ∨ ∃ c, c ≠ [] ∧ b = a ++ c
  | _, [], h => by rw [llt_nil] at h; cases h
  | [], y :: b, _ => .inr ⟨y :: b, by simp, rfl⟩
  | x :: a, y :: b, h => by
    rcases (llt_cons x y a b).1 h with h | ⟨hxy, h⟩
    · exact .inl ⟨[], x, y, a, b, rfl, rfl, h⟩
    · rcases llt_dif h with ⟨l, p, q, a', b', ha, hb, hpq⟩ | ⟨c, hc, hb⟩
      · exact .inl ⟨x :: l, p, q, a', b', by rw [ha]; rfl, by rw [hb, hxy]; rfl, hpq⟩
      · exact .inr ⟨c, hc, by rw [hb, hxy]; rfl⟩

/-- A Lyndon word: less than all its proper ends. -/
def Lyn (w : List UInt8) : Prop := w ≠ [] ∧ ∀ u v, w = u ++ v → u ≠ [] → v ≠ [] → llt w v = true
theorem lyn_one (x : UInt8) : Lyn [x] := by
  refine ⟨by simp, fun u v h hu hv => ?_⟩
  have h1 := congrArg List.length h
  have h2 := List.length_pos_iff.2 hu
  have h3 := List.length_pos_iff.2 hv
  rw [List.length_append, List.length_singleton] at h1
  omega
theorem Lyn.le {w u v : List UInt8} (h : Lyn w) (e : w = u ++ v) (hv : v ≠ []) : lle w v := by
  by_cases hu : u = []
  · rw [hu, List.nil_append] at e; rw [e]; exact lle_refl _
  · exact lle_of_lt (h.2 u v e hu hv)
/-- Of two in order, both together are one. -/
theorem lyn_join {u v : List UInt8} (hu : Lyn u) (hv : Lyn v) (h : llt u v = true) : Lyn (u ++ v) := by
  have key : llt (u ++ v) v = true := by
    rcases llt_dif h with hd | ⟨c, hc, rfl⟩
    · have := (hd.app v []).lt
      rwa [List.append_nil] at this
    · rw [llt_app]
      exact hv.2 u c rfl hu.1 hc
  refine ⟨by simp [hu.1], fun x y e hx hy => ?_⟩
  rcases List.append_eq_append_iff.1 e with ⟨t, ht, hvy⟩ | ⟨t, ht, hyv⟩
  · -- x = u ++ t, v = t ++ y
    by_cases h0 : t = []
    · rw [h0, List.nil_append] at hvy
      rw [← hvy]; exact key
    · exact llt_trans key (hv.2 t y hvy h0 hy)
  · -- u = x ++ t, y = t ++ v
    by_cases h0 : t = []
    · rw [h0, List.nil_append] at hyv
      rw [hyv]; exact key
    · rcases llt_dif (hu.2 x t ht hx h0) with hd | ⟨c, hc, e2⟩
      · rw [hyv]; exact (hd.app v v).lt
      · have h1 := congrArg List.length ht
        have h2 := congrArg List.length e2
        have h3 := List.length_pos_iff.2 hx
        rw [List.length_append] at h1 h2
        omega
/-- A greater byte in the place of one, what is behind it cut off. -/
theorem lyn_raise {p q : List UInt8} {c d : UInt8} (h : Lyn (p ++ d :: q)) (hc : d < c) : Lyn (p ++ [c]) := by
  refine ⟨by simp, fun x y e hx hy => ?_⟩
  obtain ⟨t, z, rfl⟩ : ∃ t z, y = t ++ [z] := by
    rcases List.eq_nil_or_concat y with rfl | ⟨t, z, rfl⟩
    · exact absurd rfl hy
    · exact ⟨t, z, by simp⟩
  rw [← List.append_assoc] at e
  obtain ⟨e1, e2⟩ := List.append_inj' e rfl
  injection e2 with e2 _
  subst e2
  subst e1
  have hxl := List.length_pos_iff.2 hx
  have hlt := h.2 x (t ++ d :: q) (by simp) hx (by simp)
  rcases llt_dif hlt with ⟨l, a, b, a', b', h1, h2, hab⟩ | ⟨r, _, h2⟩
  · -- where they differ
    rcases List.append_eq_append_iff.1 h2 with ⟨r, hr, h3⟩ | ⟨r, hr, h3⟩
    · -- l = t ++ r, d :: q = r ++ b :: b'
      cases r with
      | nil =>
        rw [List.append_nil] at hr
        subst hr
        injection h3 with h3 _
        subst h3
        -- x ++ l ++ d :: q = l ++ a :: a'
        have h4 : (x ++ l) ++ (d :: q) = l ++ (a :: a') := h1
        rcases List.append_eq_append_iff.1 h4 with ⟨r2, hr2, h5⟩ | ⟨r2, hr2, h5⟩
        · have := congrArg List.length hr2
          rw [List.length_append, List.length_append] at this
          omega
        · cases r2 with
          | nil =>
            have := congrArg List.length hr2
            rw [List.length_append, List.length_append, List.length_nil] at this
            omega
          | cons a2 r2 =>
            injection h5 with h5 h6
            subst h5
            exact Dif.lt ⟨l, a, c, r2 ++ [c], [], by rw [hr2]; simp, rfl, u8_trans hab hc⟩
      | cons d2 r =>
        injection h3 with h3 h4
        subst h3
        subst hr
        -- x ++ t ++ d :: q = t ++ d :: r ++ a :: a'
        have h5 : (x ++ t) ++ (d :: q) = t ++ (d :: (r ++ a :: a')) := by rw [h1]; simp
        rcases List.append_eq_append_iff.1 h5 with ⟨r2, hr2, h6⟩ | ⟨r2, hr2, h6⟩
        · have := congrArg List.length hr2
          rw [List.length_append, List.length_append] at this
          omega
        · cases r2 with
          | nil =>
            have := congrArg List.length hr2
            rw [List.length_append, List.length_append, List.length_nil] at this
            omega
          | cons a2 r2 =>
            injection h6 with h6 h7
            subst h6
            exact Dif.lt ⟨t, d, c, r2 ++ [c], [], by rw [hr2]; simp, rfl, hc⟩
    · -- t = l ++ r, b :: b' = r ++ d :: q
      cases r with
      | nil =>
        rw [List.append_nil] at hr
        subst hr
        injection h3 with h3 _
        subst h3
        have h4 : (x ++ t) ++ (b :: q) = t ++ (a :: a') := h1
        rcases List.append_eq_append_iff.1 h4 with ⟨r2, hr2, h5⟩ | ⟨r2, hr2, h5⟩
        · have := congrArg List.length hr2
          rw [List.length_append, List.length_append] at this
          omega
        · cases r2 with
          | nil =>
            have := congrArg List.length hr2
            rw [List.length_append, List.length_append, List.length_nil] at this
            omega
          | cons a2 r2 =>
            injection h5 with h5 h6
            subst h5
            exact Dif.lt ⟨t, a, c, r2 ++ [c], [], by rw [hr2]; simp, rfl, u8_trans hab hc⟩
      | cons b2 r =>
        injection h3 with h3 h4
        subst h3
        subst hr
        -- x ++ (l ++ b :: r) ++ d :: q = l ++ a :: a'
        have h5 : (x ++ (l ++ b :: r)) ++ (d :: q) = l ++ (a :: a') := h1
        rcases List.append_eq_append_iff.1 h5 with ⟨r2, hr2, h6⟩ | ⟨r2, hr2, h6⟩
        · have := congrArg List.length hr2
          simp only [List.length_append, List.length_cons] at this
          omega
        · cases r2 with
          | nil =>
            have := congrArg List.length hr2
            simp only [List.length_append, List.length_cons, List.length_nil] at this
            omega
          | cons a2 r2 =>
            injection h6 with h6 h7
            subst h6
            exact Dif.lt ⟨l, a, b, r2 ++ [c], r ++ [c], by rw [hr2]; simp, by simp, hab⟩
  · have := congrArg List.length h2
    simp only [List.length_append, List.length_cons] at this
    omega

/-- Words that fall in order, none less than the next, all Lyndon words. -/
structure Cfl (s : List UInt8) (F : List (List UInt8)) : Prop where
  flat : F.flatten = s
  lyn : ∀ f ∈ F, Lyn f
  fall : F.Pairwise fun a b => lle b a
theorem Cfl.nil : Cfl [] [] := ⟨rfl, by simp, List.Pairwise.nil⟩
theorem Cfl.one {w : List UInt8} (h : Lyn w) : Cfl w [w] := ⟨by simp, fun f hf => by rw [List.mem_singleton] at hf; rw [hf]; exact h, by simp⟩
/-- The last one is no greater than any end. -/
theorem last_least : ∀ (F : List (List UInt8)) (f u v : List UInt8), (∀ g ∈ F ++ [f], Lyn g) → (F ++ [f]).Pairwise (fun a b => lle b a) → (F ++ [f]).flatten = u ++ v → v ≠ [] → lle f v
  | [], f, u, v, hl, _, e, hv => by
    have e : f = u ++ v := by simpa using e
    exact (hl f (by simp)).le e hv
  | g :: F, f, u, v, hl, hp, e, hv => by
    rw [List.cons_append, List.flatten_cons] at e
    have hp' := List.pairwise_cons.1 hp
    rcases List.append_eq_append_iff.1 e with ⟨t, ht, h2⟩ | ⟨t, ht, h2⟩
    · -- u = g ++ t
      exact last_least F f t v (fun x hx => hl x (by simp at hx ⊢; exact .inr hx)) hp'.2 h2 hv
    · -- g = u ++ t, v = t ++ rest
      have hfg : lle f g := hp'.1 f (by simp)
      by_cases h0 : t = []
      · rw [h0, List.nil_append] at h2
        refine last_least F f [] v (fun x hx => hl x (by simp at hx ⊢; exact .inr hx)) hp'.2 (by rw [h2]; rfl) hv
      · rw [h2]
        exact lle_trans hfg (lle_trans ((hl g (by simp)).le ht h0) (lle_prefix _ _))
theorem snoc_of {α : Type} {F : List α} (h : F ≠ []) : ∃ G f, F = G ++ [f] := by
  rcases List.eq_nil_or_concat F with rfl | ⟨G, f, rfl⟩
  · exact absurd rfl h
  · exact ⟨G, f, by simp⟩
theorem cfl_nil {F : List (List UInt8)} (h : Cfl [] F) : F = [] := by
  cases F with
  | nil => rfl
  | cons f F =>
    have h1 := h.flat
    rw [List.flatten_cons, List.append_eq_nil_iff] at h1
    exact absurd h1.1 (h.lyn f (by simp)).1
/-- CHEN, FOX, LYNDON: only one way. -/
theorem cfl_unique : ∀ (n : Nat) (s : List UInt8) (F G : List (List UInt8)), s.length ≤ n → Cfl s F → Cfl s G → F = G
  | n, [], F, G, _, hF, hG => by rw [cfl_nil hF, cfl_nil hG]
  | 0, x :: s, F, G, hn, _, _ => by simp at hn
  | n + 1, x :: s, F, G, hn, hF, hG => by
    have hF0 : F ≠ [] := by rintro rfl; have := hF.flat; simp at this
    have hG0 : G ≠ [] := by rintro rfl; have := hG.flat; simp at this
    obtain ⟨F, f, rfl⟩ := snoc_of hF0
    obtain ⟨G, g, rfl⟩ := snoc_of hG0
    have eF := hF.flat
    have eG := hG.flat
    rw [List.flatten_append, List.flatten_cons, List.flatten_nil, List.append_nil] at eF eG
    have lf := (hF.lyn f (by simp)).1
    have lg := (hG.lyn g (by simp)).1
    have h1 : lle f g := last_least F f G.flatten g hF.lyn hF.fall (by rw [hF.flat, eG]) lg
    have h2 : lle g f := last_least G g F.flatten f hG.lyn hG.fall (by rw [hG.flat, eF]) lf
    have e := lle_antisymm h1 h2
    subst e
    have e3 : F.flatten = G.flatten := List.append_inj_left' (eF.trans eG.symm) rfl
    have hl := congrArg List.length eF
    have hfl := List.length_pos_iff.2 lf
    rw [List.length_append, List.length_cons] at hl
    rw [List.length_cons] at hn
    have ih := cfl_unique n F.flatten F G (by omega) ⟨rfl, fun y hy => hF.lyn y (by simp [hy]), (List.pairwise_append.1 hF.fall).1⟩
      ⟨e3.symm, fun y hy => hG.lyn y (by simp [hy]), (List.pairwise_append.1 hG.fall).1⟩
    rw [ih]
theorem cfl_eq {s : List UInt8} {F G : List (List UInt8)} (hF : Cfl s F) (hG : Cfl s G) : F = G := cfl_unique _ s F G (Nat.le_refl _) hF hG
theorem flat_le : ∀ F : List (List UInt8), (∀ f ∈ F, f ≠ []) → F.length ≤ F.flatten.length
  | [], _ => Nat.le_refl _
  | f :: F, h => by
    have h1 := flat_le F fun g hg => h g (by simp [hg])
    have h2 := List.length_pos_iff.2 (h f (by simp))
    rw [List.flatten_cons, List.length_append, List.length_cons]; omega
theorem cfl_len {s : List UInt8} {F : List (List UInt8)} (h : Cfl s F) : F.length ≤ s.length := by
  have := flat_le F fun f hf => (h.lyn f hf).1
  rwa [h.flat] at this
/-- One alone: just where the word is one. -/
theorem cfl_one {s : List UInt8} {F : List (List UInt8)} (h : Cfl s F) : F.length = 1 ↔ Lyn s := by
  constructor
  · intro hl
    obtain ⟨f, rfl⟩ := List.length_eq_one_iff.1 hl
    have := h.flat
    have e : f = s := by simpa using this
    rw [← e]; exact h.lyn f (by simp)
  · intro hs
    rw [cfl_eq h (Cfl.one hs)]; rfl

end Go.Proofs.Ytpnpalbdlhlnkaa
