import Derived.Test.YtaogegpfapfchaaGreatDoorDeskM01
import Derived.Test.YtaogegpfapfchaaGreatDoorDeskM13
import Derived.Test.YtaogegpfapfchaaGreatDoorDeskM04
import Derived.Deep.QuietTactic
import Derived.BigQuiet
import Derived.Deep.DeepMust
/- Several texts in one: XLyndon XDuval XLyndonWalk. -/
/- Plain: Lyndon words; each word falls into such words in one way, none less than the next (Chen, Fox, Lyndon); how Duval finds them. -/
namespace Go.Proofs.YtaogegpfapfchaaGreatDoor
set_option linter.unusedVariables false

/-- One text stands ahead of another one. -/
def llt : List UInt8 → List UInt8 → Bool
  | _, [] => false
  | [], _ :: _ => true
  | x :: a, y :: b => decide (x < y) || (x == y && llt a b)
theorem u8_irrefl (x : UInt8) : ¬ x < x := by rw [UInt8.lt_iff_toNat_lt]; omega
theorem u8_trans {x y z : UInt8} (h : x < y) (k : y < z) : x < z := by rw [UInt8.lt_iff_toNat_lt] at *; omega
theorem u8_tri (x y : UInt8) : x < y ∨ x = y ∨ y < x := by
  rcases Nat.lt_trichotomy x.toNat y.toNat with h | h | h
  · exact .inl (UInt8.lt_iff_toNat_lt.2 h)
  · exact .inr (.inl (UInt8.toNat_inj.1 h))
  · exact .inr (.inr (UInt8.lt_iff_toNat_lt.2 h))
theorem llt_cons (x y : UInt8) (a b : List UInt8) : llt (x :: a) (y :: b) = true ↔ x < y ∨ (x = y ∧ llt a b = true) := by
  rw [llt, Bool.or_eq_true, Bool.and_eq_true, decide_eq_true_iff, beq_iff_eq]
theorem llt_irrefl : ∀ a : List UInt8, llt a a = false
  | [] => rfl
  | x :: a => by
    rw [Bool.eq_false_iff]
    intro h
    rcases (llt_cons x x a a).1 h with h | ⟨_, h⟩
    · exact u8_irrefl x h
    · rw [llt_irrefl a] at h; cases h
theorem llt_trans : ∀ {a b c : List UInt8}, llt a b = true → llt b c = true → llt a c = true
  | _, [], _, h, _ => by simp [llt] at h
  | _, _ :: _, [], _, h => by simp [llt] at h
  | [], y :: b, z :: c, _, _ => rfl
  | x :: a, y :: b, z :: c, h, k => by
    rw [llt_cons] at h k ⊢
    rcases h with h | ⟨rfl, h⟩
    · rcases k with k | ⟨rfl, k⟩
      · exact .inl (u8_trans h k)
      · exact .inl h
    · rcases k with k | ⟨rfl, k⟩
      · exact .inl k
      · exact .inr ⟨rfl, llt_trans h k⟩
theorem llt_tri : ∀ a b : List UInt8, llt a b = true ∨ a = b ∨ llt b a = true
  | [], [] => .inr (.inl rfl)
  | [], _ :: _ => .inl rfl
  | _ :: _, [] => .inr (.inr rfl)
  | x :: a, y :: b => by
    rw [llt_cons, llt_cons]
    rcases u8_tri x y with h | rfl | h
    · exact .inl (.inl h)
    · rcases llt_tri a b with h | rfl | h
      · exact .inl (.inr ⟨rfl, h⟩)
      · exact .inr (.inl rfl)
      · exact .inr (.inr (.inr ⟨rfl, h⟩))
    · exact .inr (.inr (.inl h))
theorem llt_app (l a b : List UInt8) : llt (l ++ a) (l ++ b) = llt a b := by
  induction l with
  | nil => rfl
  | cons x l ih => rw [List.cons_append, List.cons_append, llt, ih]; simp
theorem llt_nil (a : List UInt8) : llt a [] = false := by cases a <;> rfl
theorem llt_prefix (a b : List UInt8) (h : b ≠ []) : llt a (a ++ b) = true := by
  have := llt_app a [] b
  rw [List.append_nil] at this
  rw [this]
  cases b with
  | nil => exact absurd rfl h
  | cons x b => rfl
/-- Not greater. -/
def lle (a b : List UInt8) : Prop := llt b a = false
theorem lle_refl (a : List UInt8) : lle a a := llt_irrefl a
theorem lle_of_lt {a b : List UInt8} (h : llt a b = true) : lle a b := by
  unfold lle
  rw [Bool.eq_false_iff]
  intro k
  have := llt_trans h k
  rw [llt_irrefl] at this; cases this
theorem lle_iff {a b : List UInt8} : lle a b ↔ llt a b = true ∨ a = b := by
  constructor
  · intro h
    rcases llt_tri a b with k | k | k
    · exact .inl k
    · exact .inr k
    · unfold lle at h; rw [h] at k; cases k
  · rintro (h | rfl)
    · exact lle_of_lt h
    · exact lle_refl _
theorem lle_trans {a b c : List UInt8} (h : lle a b) (k : lle b c) : lle a c := by
  rw [lle_iff] at *
  rcases h with h | rfl
  · rcases k with k | rfl
    · exact .inl (llt_trans h k)
    · exact .inl h
  · exact k
theorem lle_antisymm {a b : List UInt8} (h : lle a b) (k : lle b a) : a = b := by
  rcases lle_iff.1 h with h | h
  · unfold lle at k; rw [h] at k; cases k
  · exact h
theorem llt_of_lt_le {a b c : List UInt8} (h : llt a b = true) (k : lle b c) : llt a c = true := by
  rcases lle_iff.1 k with k | rfl
  · exact llt_trans h k
  · exact h
theorem llt_of_le_lt {a b c : List UInt8} (h : lle a b) (k : llt b c = true) : llt a c = true := by
  rcases lle_iff.1 h with h | rfl
  · exact llt_trans h k
  · exact k
theorem lle_prefix (a b : List UInt8) : lle a (a ++ b) := by
  rw [lle_iff]
  rcases b with _ | ⟨x, b⟩
  · exact .inr (by rw [List.append_nil])
  · exact .inl (llt_prefix a _ (by simp))

/-- They differ at a place that both have. -/
def Dif (a b : List UInt8) : Prop := ∃ l x y a' b', a = l ++ x :: a' ∧ b = l ++ y :: b' ∧ x < y
theorem Dif.lt {a b : List UInt8} (h : Dif a b) : llt a b = true := by
  obtain ⟨l, x, y, a', b', rfl, rfl, hxy⟩ := h
  rw [llt_app, llt_cons]
  exact .inl hxy
theorem Dif.app {a b : List UInt8} (h : Dif a b) (c d : List UInt8) : Dif (a ++ c) (b ++ d) := by
  obtain ⟨l, x, y, a', b', rfl, rfl, hxy⟩ := h
  exact ⟨l, x, y, a' ++ c, b' ++ d, by simp, by simp, hxy⟩
theorem llt_dif : ∀ {a b : List UInt8}, llt a b = true → Dif a b ∨ ∃ c, c ≠ [] ∧ b = a ++ c
  | _, [], h => by rw [llt_nil] at h; cases h
  | [], y :: b, _ => .inr ⟨y :: b, by simp, rfl⟩
  | x :: a, y :: b, h => by
    rcases (llt_cons x y a b).1 h with h | ⟨hxy, h⟩
    · exact .inl ⟨[], x, y, a, b, rfl, rfl, h⟩
    · rcases llt_dif h with ⟨l, p, q, a', b', ha, hb, hpq⟩ | ⟨c, hc, hb⟩
      · exact .inl ⟨x :: l, p, q, a', b', by rw [ha]; rfl, by rw [hb, hxy]; rfl, hpq⟩
      · exact .inr ⟨c, hc, by rw [hb, hxy]; rfl⟩

/-- A Lyndon word: less than all its proper ends. -/
def Lyn (w : List UInt8) : Prop := w ≠ [] ∧ ∀ u v, w = u ++ v → u ≠ [] → v ≠ [] → llt w v = true
theorem lyn_one (x : UInt8) : Lyn [x] := by
  refine ⟨by simp, fun u v h hu hv => ?_⟩
  have h1 := congrArg List.length h
  have h2 := List.length_pos_iff.2 hu
  have h3 := List.length_pos_iff.2 hv
  rw [List.length_append, List.length_singleton] at h1
  omega
theorem Lyn.le {w u v : List UInt8} (h : Lyn w) (e : w = u ++ v) (hv : v ≠ []) : lle w v := by
  by_cases hu : u = []
  · rw [hu, List.nil_append] at e; rw [e]; exact lle_refl _
  · exact lle_of_lt (h.2 u v e hu hv)
/-- Of two in order, both together are one. -/
theorem lyn_join {u v : List UInt8} (hu : Lyn u) (hv : Lyn v) (h : llt u v = true) : Lyn (u ++ v) := by
  have key : llt (u ++ v) v = true := by
    rcases llt_dif h with hd | ⟨c, hc, rfl⟩
    · have := (hd.app v []).lt
      rwa [List.append_nil] at this
    · rw [llt_app]
      exact hv.2 u c rfl hu.1 hc
  refine ⟨by simp [hu.1], fun x y e hx hy => ?_⟩
  rcases List.append_eq_append_iff.1 e with ⟨t, ht, hvy⟩ | ⟨t, ht, hyv⟩
  · -- x = u ++ t, v = t ++ y
    by_cases h0 : t = []
    · rw [h0, List.nil_append] at hvy
      rw [← hvy]; exact key
    · exact llt_trans key (hv.2 t y hvy h0 hy)
  · -- u = x ++ t, y = t ++ v
    by_cases h0 : t = []
    · rw [h0, List.nil_append] at hyv
      rw [hyv]; exact key
    · rcases llt_dif (hu.2 x t ht hx h0) with hd | ⟨c, hc, e2⟩
      · rw [hyv]; exact (hd.app v v).lt
      · have h1 := congrArg List.length ht
        have h2 := congrArg List.length e2
        have h3 := List.length_pos_iff.2 hx
        rw [List.length_append] at h1 h2
        omega
/-- A greater byte in the place of one, what is behind it cut off. -/
theorem lyn_raise {p q : List UInt8} {c d : UInt8} (h : Lyn (p ++ d :: q)) (hc : d < c) : Lyn (p ++ [c]) := by
  refine ⟨by simp, fun x y e hx hy => ?_⟩
  obtain ⟨t, z, rfl⟩ : ∃ t z, y = t ++ [z] := by
    rcases List.eq_nil_or_concat y with rfl | ⟨t, z, rfl⟩
    · exact absurd rfl hy
    · exact ⟨t, z, by simp⟩
  rw [← List.append_assoc] at e
  obtain ⟨e1, e2⟩ := List.append_inj' e rfl
  injection e2 with e2 _
  subst e2
  subst e1
  have hxl := List.length_pos_iff.2 hx
  have hlt := h.2 x (t ++ d :: q) (by simp) hx (by simp)
  rcases llt_dif hlt with ⟨l, a, b, a', b', h1, h2, hab⟩ | ⟨r, _, h2⟩
  · -- where they differ
    rcases List.append_eq_append_iff.1 h2 with ⟨r, hr, h3⟩ | ⟨r, hr, h3⟩
    · -- l = t ++ r, d :: q = r ++ b :: b'
      cases r with
      | nil =>
        rw [List.append_nil] at hr
        subst hr
        injection h3 with h3 _
        subst h3
        -- x ++ l ++ d :: q = l ++ a :: a'
        have h4 : (x ++ l) ++ (d :: q) = l ++ (a :: a') := h1
        rcases List.append_eq_append_iff.1 h4 with ⟨r2, hr2, h5⟩ | ⟨r2, hr2, h5⟩
        · have := congrArg List.length hr2
          rw [List.length_append, List.length_append] at this
          omega
        · cases r2 with
          | nil =>
            have := congrArg List.length hr2
            rw [List.length_append, List.length_append, List.length_nil] at this
            omega
          | cons a2 r2 =>
            injection h5 with h5 h6
            subst h5
            exact Dif.lt ⟨l, a, c, r2 ++ [c], [], by rw [hr2]; simp, rfl, u8_trans hab hc⟩
      | cons d2 r =>
        injection h3 with h3 h4
        subst h3
        subst hr
        -- x ++ t ++ d :: q = t ++ d :: r ++ a :: a'
        have h5 : (x ++ t) ++ (d :: q) = t ++ (d :: (r ++ a :: a')) := by rw [h1]; simp
        rcases List.append_eq_append_iff.1 h5 with ⟨r2, hr2, h6⟩ | ⟨r2, hr2, h6⟩
        · have := congrArg List.length hr2
          rw [List.length_append, List.length_append] at this
          omega
        · cases r2 with
          | nil =>
            have := congrArg List.length hr2
            rw [List.length_append, List.length_append, List.length_nil] at this
            omega
          | cons a2 r2 =>
            injection h6 with h6 h7
            subst h6
            exact Dif.lt ⟨t, d, c, r2 ++ [c], [], by rw [hr2]; simp, rfl, hc⟩
    · -- t = l ++ r, b :: b' = r ++ d :: q
      cases r with
      | nil =>
        rw [List.append_nil] at hr
        subst hr
        injection h3 with h3 _
        subst h3
        have h4 : (x ++ t) ++ (b :: q) = t ++ (a :: a') := h1
        rcases List.append_eq_append_iff.1 h4 with ⟨r2, hr2, h5⟩ | ⟨r2, hr2, h5⟩
        · have := congrArg List.length hr2
          rw [List.length_append, List.length_append] at this
          omega
        · cases r2 with
          | nil =>
            have := congrArg List.length hr2
            rw [List.length_append, List.length_append, List.length_nil] at this
            omega
          | cons a2 r2 =>
            injection h5 with h5 h6
            subst h5
            exact Dif.lt ⟨t, a, c, r2 ++ [c], [], by rw [hr2]; simp, rfl, u8_trans hab hc⟩
      | cons b2 r =>
        injection h3 with h3 h4
        subst h3
        subst hr
        -- x ++ (l ++ b :: r) ++ d :: q = l ++ a :: a'
        have h5 : (x ++ (l ++ b :: r)) ++ (d :: q) = l ++ (a :: a') := h1
        rcases List.append_eq_append_iff.1 h5 with ⟨r2, hr2, h6⟩ | ⟨r2, hr2, h6⟩
        · have := congrArg List.length hr2
          simp only [List.length_append, List.length_cons] at this
          omega
        · cases r2 with
          | nil =>
            have := congrArg List.length hr2
            simp only [List.length_append, List.length_cons, List.length_nil] at this
            omega
          | cons a2 r2 =>
            injection h6 with h6 h7
            subst h6
            exact Dif.lt ⟨l, a, b, r2 ++ [c], r ++ [c], by rw [hr2]; simp, by simp, hab⟩
  · have := congrArg List.length h2
    simp only [List.length_append, List.length_cons] at this
    omega

/-- Words that fall in order, none less than the next, all Lyndon words. -/
structure Cfl (s : List UInt8) (F : List (List UInt8)) : Prop where
  flat : F.flatten = s
  lyn : ∀ f ∈ F, Lyn f
  fall : F.Pairwise fun a b => lle b a
theorem Cfl.nil : Cfl [] [] := ⟨rfl, by simp, List.Pairwise.nil⟩
theorem Cfl.one {w : List UInt8} (h : Lyn w) : Cfl w [w] := ⟨by simp, fun f hf => by rw [List.mem_singleton] at hf; rw [hf]; exact h, by simp⟩
/-- The last one is no greater than any end. -/
theorem last_least : ∀ (F : List (List UInt8)) (f u v : List UInt8), (∀ g ∈ F ++ [f], Lyn g) → (F ++ [f]).Pairwise (fun a b => lle b a) → (F ++ [f]).flatten = u ++ v → v ≠ [] → lle f v
  | [], f, u, v, hl, _, e, hv => by
    have e : f = u ++ v := by simpa using e
    exact (hl f (by simp)).le e hv
  | g :: F, f, u, v, hl, hp, e, hv => by
    rw [List.cons_append, List.flatten_cons] at e
    have hp' := List.pairwise_cons.1 hp
    rcases List.append_eq_append_iff.1 e with ⟨t, ht, h2⟩ | ⟨t, ht, h2⟩
    · -- u = g ++ t
      exact last_least F f t v (fun x hx => hl x (by simp at hx ⊢; exact .inr hx)) hp'.2 h2 hv
    · -- g = u ++ t, v = t ++ rest
      have hfg : lle f g := hp'.1 f (by simp)
      by_cases h0 : t = []
      · rw [h0, List.nil_append] at h2
        refine last_least F f [] v (fun x hx => hl x (by simp at hx ⊢; exact .inr hx)) hp'.2 (by rw [h2]; rfl) hv
      · rw [h2]
        exact lle_trans hfg (lle_trans ((hl g (by simp)).le ht h0) (lle_prefix _ _))
theorem snoc_of {α : Type} {F : List α} (h : F ≠ []) : ∃ G f, F = G ++ [f] := by
  rcases List.eq_nil_or_concat F with rfl | ⟨G, f, rfl⟩
  · exact absurd rfl h
  · exact ⟨G, f, by simp⟩
theorem cfl_nil {F : List (List UInt8)} (h : Cfl [] F) : F = [] := by
  cases F with
  | nil => rfl
  | cons f F =>
    have h1 := h.flat
    rw [List.flatten_cons, List.append_eq_nil_iff] at h1
    exact absurd h1.1 (h.lyn f (by simp)).1
/-- CHEN, FOX, LYNDON: only one way. -/
theorem cfl_unique : ∀ (n : Nat) (s : List UInt8) (F G : List (List UInt8)), s.length ≤ n → Cfl s F → Cfl s G → F = G
  | n, [], F, G, _, hF, hG => by rw [cfl_nil hF, cfl_nil hG]
  | 0, x :: s, F, G, hn, _, _ => by simp at hn
  | n + 1, x :: s, F, G, hn, hF, hG => by
    have hF0 : F ≠ [] := by rintro rfl; have := hF.flat; simp at this
    have hG0 : G ≠ [] := by rintro rfl; have := hG.flat; simp at this
    obtain ⟨F, f, rfl⟩ := snoc_of hF0
    obtain ⟨G, g, rfl⟩ := snoc_of hG0
    have eF := hF.flat
    have eG := hG.flat
    rw [List.flatten_append, List.flatten_cons, List.flatten_nil, List.append_nil] at eF eG
    have lf := (hF.lyn f (by simp)).1
    have lg := (hG.lyn g (by simp)).1
    have h1 : lle f g := last_least F f G.flatten g hF.lyn hF.fall (by rw [hF.flat, eG]) lg
    have h2 : lle g f := last_least G g F.flatten f hG.lyn hG.fall (by rw [hG.flat, eF]) lf
    have e := lle_antisymm h1 h2
    subst e
    have e3 : F.flatten = G.flatten := List.append_inj_left' (eF.trans eG.symm) rfl
    have hl := congrArg List.length eF
    have hfl := List.length_pos_iff.2 lf
    rw [List.length_append, List.length_cons] at hl
    rw [List.length_cons] at hn
    have ih := cfl_unique n F.flatten F G (by omega) ⟨rfl, fun y hy => hF.lyn y (by simp [hy]), (List.pairwise_append.1 hF.fall).1⟩
      ⟨e3.symm, fun y hy => hG.lyn y (by simp [hy]), (List.pairwise_append.1 hG.fall).1⟩
    rw [ih]
theorem cfl_eq {s : List UInt8} {F G : List (List UInt8)} (hF : Cfl s F) (hG : Cfl s G) : F = G := cfl_unique _ s F G (Nat.le_refl _) hF hG
theorem flat_le : ∀ F : List (List UInt8), (∀ f ∈ F, f ≠ []) → F.length ≤ F.flatten.length
  | [], _ => Nat.le_refl _
  | f :: F, h => by
    have h1 := flat_le F fun g hg => h g (by simp [hg])
    have h2 := List.length_pos_iff.2 (h f (by simp))
    rw [List.flatten_cons, List.length_append, List.length_cons]; omega
theorem cfl_len {s : List UInt8} {F : List (List UInt8)} (h : Cfl s F) : F.length ≤ s.length := by
  have := flat_le F fun f hf => (h.lyn f hf).1
  rwa [h.flat] at this
/-- One alone: just where the word is one. -/
theorem cfl_one {s : List UInt8} {F : List (List UInt8)} (h : Cfl s F) : F.length = 1 ↔ Lyn s := by
  constructor
  · intro hl
    obtain ⟨f, rfl⟩ := List.length_eq_one_iff.1 hl
    have := h.flat
    have e : f = s := by simpa using this
    rw [← e]; exact h.lyn f (by simp)
  · intro hs
    rw [cfl_eq h (Cfl.one hs)]; rfl

end Go.Proofs.YtaogegpfapfchaaGreatDoor

/- Plain: how Duval finds the words: what holds at each step. -/
namespace Go.Proofs.YtaogegpfapfchaaGreatDoor
set_option linter.unusedVariables false

theorem getD_dropB (l : List UInt8) (a x : Nat) : (l.drop a).getD x 0 = l.getD (a + x) 0 := by
  rw [List.getD_eq_getElem?_getD, List.getD_eq_getElem?_getD, List.getElem?_drop]
theorem getD_takeB (l : List UInt8) (p x : Nat) (h : x < p) : (l.take p).getD x 0 = l.getD x 0 := by
  rw [List.getD_eq_getElem?_getD, List.getD_eq_getElem?_getD, List.getElem?_take, if_pos h]
theorem getD_appL (l m : List UInt8) (x : Nat) (h : x < l.length) : (l ++ m).getD x 0 = l.getD x 0 := by
  rw [List.getD_eq_getElem?_getD, List.getD_eq_getElem?_getD, List.getElem?_append_left h]
theorem split_getD (l : List UInt8) (r : Nat) (h : r < l.length) : l = l.take r ++ l.getD r 0 :: l.drop (r + 1) := by
  conv => lhs; rw [← List.take_append_drop r l]
  rw [List.drop_eq_getElem_cons h]
  congr 2
  rw [List.getD_eq_getElem?_getD, List.getElem?_eq_getElem h]; rfl
theorem take_eq_getD (l w : List UInt8) (h : l.length ≤ w.length) (hx : ∀ x, x < l.length → l.getD x 0 = w.getD x 0) : l = w.take l.length := by
  refine List.ext_getElem (by rw [List.length_take]; omega) fun x h1 h2 => ?_
  have := hx x h1
  rw [List.getD_eq_getElem?_getD, List.getElem?_eq_getElem h1, List.getD_eq_getElem?_getD, List.getElem?_eq_getElem (by omega)] at this
  rw [List.getElem_take]; exact this
/-- A text that repeats a Lyndon word, and then a greater byte: one Lyndon word. -/
theorem lyn_grow {w : List UInt8} (hw : Lyn w) (c : UInt8) : ∀ (N : Nat) (l : List UInt8), l.length ≤ N → (∀ x, x < l.length → l.getD x 0 = w.getD (x % w.length) 0) → w.getD (l.length % w.length) 0 < c → Lyn (l ++ [c]) ∧ llt w (l ++ [c]) = true := by
  have hp : 0 < w.length := List.length_pos_iff.2 hw.1
  intro N
  induction N with
  | zero =>
    intro l hl _ hc
    have e : l = [] := List.eq_nil_of_length_eq_zero (by omega)
    subst e
    have e2 : w = [] ++ w.getD 0 0 :: w.drop 1 := split_getD w 0 hp
    rw [List.length_nil, Nat.zero_mod] at hc
    refine ⟨lyn_one c, ?_⟩
    rw [e2]; exact Dif.lt ⟨[], _, c, w.drop 1, [], rfl, rfl, hc⟩
  | succ N ih =>
    intro l hl hx hc
    by_cases hlt : l.length < w.length
    · rw [Nat.mod_eq_of_lt hlt] at hc
      have e1 : l = w.take l.length := take_eq_getD l w (by omega) fun x h => by rw [hx x h, Nat.mod_eq_of_lt (by omega)]
      have e2 : w = w.take l.length ++ w.getD l.length 0 :: w.drop (l.length + 1) := split_getD w l.length hlt
      rw [← e1] at e2
      refine ⟨lyn_raise (by rw [← e2]; exact hw) hc, ?_⟩
      exact Dif.lt ⟨l, _, c, _, [], e2, rfl, hc⟩
    · have e1 : l = w ++ l.drop w.length := by
        have : l.take w.length = w := by
          have h1 := take_eq_getD (l.take w.length) w (by rw [List.length_take]; omega) fun x h => by
            rw [List.length_take] at h
            rw [getD_takeB _ _ _ (by omega), hx x (by omega), Nat.mod_eq_of_lt (by omega)]
          rw [List.length_take, Nat.min_eq_left (by omega), List.take_of_length_le (Nat.le_refl _)] at h1
          exact h1
        conv => lhs; rw [← List.take_append_drop w.length l, this]
      have hdl : (l.drop w.length).length = l.length - w.length := List.length_drop
      obtain ⟨h1, h2⟩ := ih (l.drop w.length) (by omega) (fun x h => by
        rw [getD_dropB, hx _ (by omega), Nat.add_mod_left]) (by
        rw [hdl]
        have e : l.length % w.length = (l.length - w.length) % w.length := Nat.mod_eq_sub_mod (by omega)
        rw [← e]; exact hc)
      rw [e1, List.append_assoc]
      exact ⟨lyn_join hw h1 h2, llt_prefix _ _ (by simp)⟩

/-- At the inner round: from 'a' on to 'k' the text repeats a Lyndon word of 'p' bytes. -/
structure DuS (t : List UInt8) (a p k : Nat) : Prop where
  pos : 0 < p
  fits : a + p ≤ k
  ends : k ≤ t.length
  lyn : Lyn ((t.drop a).take p)
  per : ∀ x, a + x < k → t.getD (a + x) 0 = t.getD (a + x % p) 0
theorem take_one (l : List UInt8) (h : 0 < l.length) : ∃ x, l.take 1 = [x] := by
  cases l with
  | nil => cases h
  | cons x l => exact ⟨x, rfl⟩
theorem DuS.start {t : List UInt8} {a : Nat} (h : a < t.length) : DuS t a 1 (a + 1) := by
  obtain ⟨x, hx⟩ := take_one (t.drop a) (by rw [List.length_drop]; omega)
  refine ⟨by omega, by omega, by omega, by rw [hx]; exact lyn_one x, fun x h => ?_⟩
  obtain rfl : x = 0 := by omega
  rfl
theorem mod_back {y p : Nat} (h : p ≤ y) : y % p = (y - p) % p := Nat.mod_eq_sub_mod h
theorem DuS.at_k {t : List UInt8} {a p k : Nat} (h : DuS t a p k) : t.getD (k - p) 0 = t.getD (a + (k - a) % p) 0 := by
  have h1 := h.per (k - p - a) (by have := h.fits; have := h.pos; omega)
  have h2 := h.fits
  rw [show a + (k - p - a) = k - p from by omega] at h1
  rw [h1, mod_back (y := k - a) (by omega), show k - a - p = k - p - a from by omega]
theorem DuS.same {t : List UInt8} {a p k : Nat} (h : DuS t a p k) (hk : k < t.length) (e : t.getD (k - p) 0 = t.getD k 0) : DuS t a p (k + 1) := by
  have h2 := h.fits
  refine ⟨h.pos, by omega, hk, h.lyn, fun x hx => ?_⟩
  by_cases hxk : a + x < k
  · exact h.per x hxk
  · obtain rfl : x = k - a := by omega
    rw [show a + (k - a) = k from by omega, ← h.at_k, e]
theorem take_succ_B (l : List UInt8) (k : Nat) (h : k < l.length) : l.take (k + 1) = l.take k ++ [l.getD k 0] := by
  rw [List.take_add_one, List.getD_eq_getElem?_getD, List.getElem?_eq_getElem h]; rfl
theorem DuS.wlen {t : List UInt8} {a p k : Nat} (h : DuS t a p k) : ((t.drop a).take p).length = p := by
  have := h.fits; have := h.ends
  rw [List.length_take, List.length_drop]; omega
theorem DuS.wat {t : List UInt8} {a p k : Nat} (h : DuS t a p k) (x : Nat) : ((t.drop a).take p).getD (x % p) 0 = t.getD (a + x % p) 0 := by
  rw [getD_takeB _ _ _ (Nat.mod_lt _ h.pos), getD_dropB]
theorem DuS.more {t : List UInt8} {a p k : Nat} (h : DuS t a p k) (hk : k < t.length) (e : t.getD (k - p) 0 < t.getD k 0) : DuS t a (k + 1 - a) (k + 1) := by
  have h2 := h.fits
  have h3 := h.pos
  have hl : ((t.drop a).take (k - a)).length = k - a := by rw [List.length_take, List.length_drop]; omega
  have h1 := (lyn_grow h.lyn (t.getD k 0) (k - a) ((t.drop a).take (k - a)) (by omega) (fun x hx => by
    rw [hl] at hx
    rw [h.wlen, h.wat, getD_takeB _ _ _ hx, getD_dropB, h.per x (by omega)]) (by rw [hl, h.wlen, h.wat, ← h.at_k]; exact e)).1
  refine ⟨by omega, by omega, hk, ?_, fun x hx => by rw [Nat.mod_eq_of_lt (by omega)]⟩
  rw [show k + 1 - a = (k - a) + 1 from by omega, take_succ_B _ _ (by rw [List.length_drop]; omega), getD_dropB, show a + (k - a) = k from by omega]
  exact h1

/-- At the outer round: what is told, and what is to come. -/
structure DuO (t : List UInt8) (F : List (List UInt8)) (a : Nat) : Prop where
  ends : a ≤ t.length
  flat : F.flatten = t.take a
  lyn : ∀ f ∈ F, Lyn f
  fall : F.Pairwise fun a b => lle b a
  rest : ∀ f ∈ F, ∀ u v, t.drop a = u ++ v → lle u f
theorem DuO.start (t : List UInt8) : DuO t [] 0 := ⟨Nat.zero_le _, rfl, by simp, List.Pairwise.nil, by simp⟩
theorem DuO.stop {t : List UInt8} {F : List (List UInt8)} {a : Nat} (h : DuO t F a) (ha : t.length ≤ a) : Cfl t F := ⟨by rw [h.flat, List.take_of_length_le ha], h.lyn, h.fall⟩
/-- While the words are told. -/
structure DuE (t w : List UInt8) (k : Nat) (F : List (List UInt8)) (a : Nat) : Prop where
  ends : k ≤ t.length
  fits : a ≤ k
  word : Lyn w
  flat : F.flatten = t.take a
  lyn : ∀ f ∈ F, Lyn f
  fall : F.Pairwise fun a b => lle b a
  rest : ∀ f ∈ F, lle w f
  per : ∀ x, a + x < k → t.getD (a + x) 0 = w.getD (x % w.length) 0
  out : k < t.length → t.getD k 0 < w.getD ((k - a) % w.length) 0
theorem DuE.start {t : List UInt8} {F : List (List UInt8)} {a p k : Nat} (h : DuS t a p k) (o : DuO t F a) (hk : k < t.length → t.getD k 0 < t.getD (k - p) 0) : DuE t ((t.drop a).take p) k F a := by
  have h2 := h.fits
  refine ⟨h.ends, by omega, h.lyn, o.flat, o.lyn, o.fall, fun f hf => o.rest f hf _ _ (List.take_append_drop p (t.drop a)).symm, fun x hx => ?_, fun hkt => ?_⟩
  · rw [h.wlen, h.wat]; exact h.per x hx
  · rw [h.wlen, h.wat, ← h.at_k]; exact hk hkt
theorem DuE.next {t w : List UInt8} {F : List (List UInt8)} {k a : Nat} (h : DuE t w k F a) (ha : a + w.length ≤ k) : (t.drop a).take w.length = w ∧ DuE t w k (F ++ [w]) (a + w.length) := by
  have hk := h.ends
  have hp : 0 < w.length := List.length_pos_iff.2 h.word.1
  have hwl : ((t.drop a).take w.length).length = w.length := by rw [List.length_take, List.length_drop]; omega
  have e : (t.drop a).take w.length = w := by
    have h1 := take_eq_getD ((t.drop a).take w.length) w (by omega) fun x hx => by
      rw [hwl] at hx
      rw [getD_takeB _ _ _ hx, getD_dropB, h.per x (by omega), Nat.mod_eq_of_lt hx]
    rw [hwl, List.take_of_length_le (Nat.le_refl _)] at h1
    exact h1
  refine ⟨e, hk, ha, h.word, ?_, ?_, ?_, ?_, fun x hx => ?_, fun hkt => ?_⟩
  · rw [List.flatten_append, h.flat, List.flatten_cons, List.flatten_nil, List.append_nil]
    conv => lhs; rw [← e]
    rw [List.take_add]
  · intro f hf
    rw [List.mem_append, List.mem_singleton] at hf
    rcases hf with hf | rfl
    · exact h.lyn f hf
    · exact h.word
  · rw [List.pairwise_append]
    refine ⟨h.fall, by simp, fun f hf g hg => ?_⟩
    rw [List.mem_singleton] at hg
    rw [hg]; exact h.rest f hf
  · intro f hf
    rw [List.mem_append, List.mem_singleton] at hf
    rcases hf with hf | rfl
    · exact h.rest f hf
    · exact lle_refl _
  · have := h.per (w.length + x) (by omega)
    rw [Nat.add_mod_left] at this
    rw [Nat.add_assoc]; exact this
  · have := h.out hkt
    rw [mod_back (y := k - a) (by omega), show k - a - w.length = k - (a + w.length) from by omega] at this
    exact this
theorem DuE.leave {t w : List UInt8} {F : List (List UInt8)} {k a : Nat} (h : DuE t w k F a) (ha : k < a + w.length) : DuO t F a := by
  have hk := h.ends
  have hf := h.fits
  have hp : 0 < w.length := List.length_pos_iff.2 h.word.1
  refine ⟨by omega, h.flat, h.lyn, h.fall, fun f hm u v e => lle_trans ?_ (h.rest f hm)⟩
  have hul : u.length ≤ t.length - a := by
    have := congrArg List.length e
    rw [List.length_drop, List.length_append] at this
    omega
  have hux : ∀ x, x < u.length → u.getD x 0 = t.getD (a + x) 0 := fun x hx => by rw [← getD_dropB, e, getD_appL _ _ _ hx]
  by_cases hle : u.length ≤ k - a
  · have e1 : u = w.take u.length := take_eq_getD u w (by omega) fun x hx => by
      rw [hux x hx, h.per x (by omega), Nat.mod_eq_of_lt (by omega)]
    have := lle_prefix (w.take u.length) (w.drop u.length)
    rw [List.take_append_drop, ← e1] at this
    exact this
  · have hkt : k < t.length := by omega
    have hc := h.out hkt
    rw [Nat.mod_eq_of_lt (by omega)] at hc
    have e1 : u.take (k - a) = w.take (k - a) := by
      have hl : (u.take (k - a)).length = k - a := by rw [List.length_take]; omega
      have := take_eq_getD (u.take (k - a)) w (by omega) fun x hx => by
        rw [hl] at hx
        rw [getD_takeB _ _ _ hx, hux x (by omega), h.per x (by omega), Nat.mod_eq_of_lt (by omega)]
      rwa [hl] at this
    have s1 := split_getD u (k - a) (by omega)
    have s2 := split_getD w (k - a) (by omega)
    rw [hux _ (by omega), show a + (k - a) = k from by omega, e1] at s1
    exact lle_of_lt (Dif.lt ⟨_, _, _, _, _, s1, s2, hc⟩)

end Go.Proofs.YtaogegpfapfchaaGreatDoor

/- The walk of lyndon.Split. -/
namespace Go.Proofs.YtaogegpfapfchaaGreatDoor
open Go.RowKit
set_option linter.unusedVariables false

/-- A list of bytes as a string. -/
def tx (l : List UInt8) : ByteArray := ⟨l.toArray⟩
theorem tx_list (l : List UInt8) : (tx l).data.toList = l := rfl
theorem tx_size (l : List UInt8) : (tx l).size = l.length := rfl
theorem tx_inj {a b : List UInt8} (h : tx a = tx b) : a = b := by rw [← tx_list a, h, tx_list]
theorem tx_extract (s : ByteArray) (i j : Nat) : s.extract i j = tx ((s.data.toList.drop i).take (j - i)) := ba_ext (by rw [Lib.extract_data]; rfl)
theorem infoStrL : (Tryz.prog.info? 9).map (fun i => (i.zero, i.size, i.bytes)) = some (some (.string ⟨#[]⟩), 1, 16) := by kernel_rfl
theorem ownCapL {w : World} {B size n c : Nat} {e : TypeId} {A : Option Addr} {xs : List Value} (h : w.ownsRow B e size (.slice A n c) n xs) : n ≤ c := by
  rcases h.2 with ⟨h1, h0⟩ | ⟨g, cap, cur, h1, _, _, h2, _⟩
  · omega
  · injection h1 with _ _ h3
    omega

/-- The words are told, and no error. -/
def ToldWords (t : List UInt8) (w : World) (e : Ending) (w' : World) : Prop := ∃ F A c, Cfl t F ∧ e = .returned (.tuple #[.slice A F.length c, .int .i64 0]) ∧
  Reads w' w'.heap.size A F.length 1 ((F.map tx).flatMap cStr) ∧ Below w.heap.size w w' ∧ F.length ≤ c

set_option maxHeartbeats 4000000 in
theorem split_ok (s : ByteArray) (hs : s.size ≤ 200) (w : World) : Calls Tryz.prog 36 #[.string s] w (ToldWords s.data.toList w) := by
  have hsl : s.data.toList.length = s.size := rfl
  have hget := fun j hj => getD_bytes s j hj
  have Hsl := Lib.hid hsl
  have Hget := Lib.hid hget
  have hst := DuO.start s.data.toList
  have Hst := Lib.hid hst
  clear hsl hget hst
  go_enter Tryz.func36, Tryz.ntmps36
  go_wp2_with fail
  refine (wordCheck_ok s hs _).mono ?_
  rintro e w1 ⟨rfl, rfl⟩
  go_wp2
  go_loopw [5, 6, 7, 8] (fun ov av _ _ wr => ∃ (F : List (List UInt8)) (a m : Nat) (A' : Option Addr) (c' : Nat), a ≤ s.size ∧ av = .int .i64 a ∧ ov = .slice A' m c' ∧ Hid (F.length = m) ∧ m ≤ a ∧ Hid (DuO s.data.toList F a) ∧
      wr.ownsRow w.heap.size 9 1 (.slice A' m c') m ((F.map tx).flatMap cStr) ∧ Below w.heap.size w wr) (fun _ av _ _ _ => s.size - (intOf av).toNat)
  case atStart => exact ⟨[], 0, 0, none, 0, Nat.zero_le _, rfl, rfl, rfl, Nat.le_refl _, Hst, World.ownsRow_nil _ _ _ _, Below.refl _ _⟩
  case round =>
    obtain ⟨F, a, m, A', c', ha, rfl, rfl, Hm, hma, HO, hown, hbr⟩ := hrel
    by_cases hlt : a < s.size
    · have hD := DuS.start (t := s.data.toList) (a := a) (by rw [Hsl.out]; exact hlt)
      have HD := Lib.hid hD
      clear hD
      go_wp2
      go_loopw [7, 8] (fun iv kv wq => ∃ i k : Nat, a ≤ i ∧ i < k ∧ k ≤ s.size ∧ iv = .int .i64 i ∧ kv = .int .i64 k ∧ Hid (DuS s.data.toList a (k - i) k) ∧
          wq.ownsRow w.heap.size 9 1 (.slice A' m c') m ((F.map tx).flatMap cStr) ∧ Below w.heap.size w wq) (fun _ kv _ => s.size - (intOf kv).toNat)
      case atStart => exact ⟨a, a + 1, Nat.le_refl _, by omega, by omega, rfl, by go_num, Lib.hid (by rw [show a + 1 - a = 1 from by omega]; exact HD.out), hown, hbr⟩
      case round =>
        clear hown hbr HD
        obtain ⟨i, k, hai, hik, hks, rfl, rfl, HD, hown, hbr⟩ := hrel
        have hki : k - (k - i) = i := by omega
        have Hki := Lib.hid hki
        clear hki
        have hkp : k ≤ s.size → a + (k - i) ≤ k := fun _ => by omega
        have hi' : i < s.size := by omega
        have hgi := Hget.out i hi'
        have hii : (i : Int) < s.size := by omega
        have Hgi := Lib.hid hgi
        clear hgi
        have hcases : (k < s.size ∧ ∃ h : k < s.size, s[i] < s[k]) ∨ (k < s.size ∧ ∃ h : k < s.size, s[i] = s[k]) ∨ (k < s.size ∧ ∃ h : k < s.size, s[k] < s[i]) ∨ k = s.size := by
          by_cases h : k < s.size
          · rcases u8_tri s[i] s[k] with h1 | h1 | h1
            · exact .inl ⟨h, h, h1⟩
            · exact .inr (.inl ⟨h, h, h1⟩)
            · exact .inr (.inr (.inl ⟨h, h, h1⟩))
          · exact .inr (.inr (.inr (by omega)))
        rcases hcases with ⟨hk, hk', hc⟩ | ⟨hk, hk', hc⟩ | hex
        · have hn := HD.out.more (by rw [Hsl.out]; exact hk) (by rw [Hki.out, Hgi.out, Hget.out k hk]; exact hc)
          have Hn := Lib.hid hn
          have q1 : decide ((k : Int) < s.size) = true := decide_eq_true (by omega)
          have hcn := UInt8.lt_iff_toNat_lt.1 hc
          have q2 : decide ((s[i].toNat : Int) ≤ (s[k].toNat : Int)) = true := decide_eq_true (by omega)
          have q3 : decide ((s[i].toNat : Int) < (s[k].toNat : Int)) = true := decide_eq_true (by omega)
          have q2n : decide (s[i].toNat ≤ s[k].toNat) = true := decide_eq_true (by omega)
          have q3n : decide (s[i].toNat < s[k].toNat) = true := decide_eq_true (by omega)
          have hkk : (k : Int) < s.size := by omega
          clear hn hcn hc
          go_wp2
          go_quiet (fail)
          go_wp2
          go_quiet (fail)
          go_wp2
          go_roundw
          case rel => exact ⟨a, k + 1, Nat.le_refl _, by omega, by omega, rfl, by go_num, Hn, ownsRow_drewN hown _, below_drewN hbr _⟩
          case measure => simp [intOf]; omega
        · have hn := HD.out.same (by rw [Hsl.out]; exact hk) (by rw [Hki.out, Hgi.out, Hget.out k hk]; exact hc)
          have Hn := Lib.hid hn
          have q1 : decide ((k : Int) < s.size) = true := decide_eq_true (by omega)
          have q2 : decide ((s[i].toNat : Int) ≤ (s[k].toNat : Int)) = true := decide_eq_true (by rw [hc]; omega)
          have q3 : decide ((s[i].toNat : Int) < (s[k].toNat : Int)) = false := decide_eq_false (by rw [hc]; omega)
          have q2n : decide (s[i].toNat ≤ s[k].toNat) = true := decide_eq_true (by rw [hc]; omega)
          have q3n : decide (s[i].toNat < s[k].toNat) = false := decide_eq_false (by rw [hc]; omega)
          have hkk : (k : Int) < s.size := by omega
          clear hn hc
          go_wp2
          go_quiet (fail)
          go_wp2
          go_quiet (fail)
          go_wp2
          go_roundw
          case rel => exact ⟨i + 1, k + 1, by omega, by omega, by omega, by go_num, by go_num, Lib.hid (by rw [show k + 1 - (i + 1) = k - i from by omega]; exact Hn.out), ownsRow_drewN hown _, below_drewN hbr _⟩
          case measure => simp [intOf]; omega
        · have hlow : k < s.data.toList.length → s.data.toList.getD k 0 < s.data.toList.getD (k - (k - i)) 0 := fun hk => by
            rw [Hsl.out] at hk
            rcases hex with ⟨_, _, hc⟩ | hc
            · rw [Hki.out, Hgi.out, Hget.out k hk]; exact hc
            · omega
          have hE := DuE.start HD.out HO.out hlow
          have hwl := HD.out.wlen
          generalize (s.data.toList.drop a).take (k - i) = W0 at *
          have HE := Lib.hid hE
          have Hwl := Lib.hid hwl
          clear hE hwl hlow
          have hki0 : 0 < k - i := by omega
          have hik2 : i + (k - i) = k := by omega
          generalize hP : k - i = p at *
          have epk : (k : Int) - (i : Int) = (p : Int) := by omega
          have Hepk := Lib.hid epk
          clear hP epk hkp
          have Hex := Lib.hid hex
          rcases hex with ⟨hk, hk', hc⟩ | hex <;> (first
          | (have q1 : decide ((k : Int) < s.size) = true := decide_eq_true (by omega)
             have hcn := UInt8.lt_iff_toNat_lt.1 hc
             have q2 : decide ((s[i].toNat : Int) ≤ (s[k].toNat : Int)) = false := decide_eq_false (by omega)
             have q2n : decide (s[i].toNat ≤ s[k].toNat) = false := decide_eq_false (by omega)
             have hkk : (k : Int) < s.size := by omega
             clear hcn hc
             go_wp2
             go_quiet (fail)
             go_wp2
             clear q1 q2 q2n)
          | (have q1 : decide ((k : Int) < s.size) = false := decide_eq_false (by omega)
             have q1n : decide (k < s.size) = false := decide_eq_false (by omega)
             have hkk : s.size ≤ k := by omega
             have hkk' : ¬ k < s.size := by omega
             clear hex
             go_wp2
             go_quiet (fail)
             go_wp2
             clear q1)) <;> (
            go_loopw [5, 6] (fun ov av wq => ∃ (F : List (List UInt8)) (b m : Nat) (A' : Option Addr) (c' : Nat), a ≤ b ∧ (a < b ∨ b ≤ i) ∧ b ≤ k ∧ av = .int .i64 b ∧ ov = .slice A' m c' ∧ Hid (F.length = m) ∧ m ≤ b ∧ Hid (DuE s.data.toList W0 k F b) ∧
                wq.ownsRow w.heap.size 9 1 (.slice A' m c') m ((F.map tx).flatMap cStr) ∧ Below w.heap.size w wq) (fun _ av _ => k + 1 - (intOf av).toNat)
            case atStart => exact ⟨F, a, m, A', c', Nat.le_refl _, .inr hai, by omega, rfl, rfl, Hm, hma, HE, ownsRow_drewN hown _, below_drewN hbr _⟩
            case round =>
              clear hown hbr HE
              obtain ⟨F, b, m, A', c', hab, habi, hbk, rfl, rfl, Hm, hmb, HE, hown, hbr⟩ := hrel
              by_cases hbi : b ≤ i
              · obtain ⟨n1, n2⟩ := HE.out.next (by rw [Hwl.out]; omega)
                rw [Hwl.out] at n1 n2
                have H1 := Lib.hid n1
                have H2 := Lib.hid n2
                clear n1 n2
                have hex2 : s.extract b (b + p) = tx W0 := by rw [tx_extract, show b + p - b = p from by omega, H1.out]
                have Hex2 := Lib.hid hex2
                clear hex2
                obtain ⟨q, hq⟩ : ∃ q, b + p = q := ⟨_, rfl⟩
                have hbk2 : b + k - i = q := by have := Hepk.out; omega
                rw [hq] at Hex2
                have e2 : (k : Int) - (i : Int) = (p : Int) := Hepk.out
                have e3 : (b : Int) + (p : Int) = (q : Int) := by omega
                have hbq : b ≤ q := by omega
                have hqs : q ≤ s.size := by omega
                rw [hq] at H2
                have q1 : decide ((b : Int) ≤ (i : Int)) = true := decide_eq_true (by omega)
                go_wp2_with (first | (at_builtin; go_must (refine wpList_append_new _ 22 (.tmp 49) (.tmp 58) ?_ ?_ w.heap.size 9 infoStrL Tryz.underlying22 ?_ ?_ A' m c' _ ?_ hown #[.string (s.extract b q)] 1 ?_ ?_ ?_ ?_ ?_ ?_ ?_; rfl; rfl; rfl; decide; (simp [Act.eval]); (simp [Act.eval]); rfl; (simp [Value.oneCell']); (unfold maxLen; omega); omega; exact hbr.size); intro A3 c3 w3 hown3 hb3 hg3))
                go_roundw
                case rel =>
                  refine ⟨F ++ [W0], q, m + 1, A3, c3, by omega, by omega, by omega, by go_num, by go_num, Lib.hid (by rw [List.length_append, Hm.out]; rfl), by omega, H2, ?_, hbr.trans hb3⟩
                  rw [List.map_append, List.map_singleton, flat_snoc, ← Hex2.out]
                  exact hown3
                case measure => simp [intOf]; omega
              · have hO := HE.out.leave (by rw [Hwl.out]; omega)
                have Ho := Lib.hid hO
                clear hO
                go_wp2
                go_roundw
                case rel => exact ⟨F, b, m, A', c', by omega, rfl, rfl, Hm, hmb, Ho, hown, hbr⟩
                case measure => simp [intOf]; omega)
    · have hstop := HO.out.stop (by rw [Hsl.out]; omega)
      have Hstop := Lib.hid hstop
      clear hstop
      go_wp2
      go_ret2
      refine ⟨F, A', c', Hstop.out, by rw [Hm.out]; rfl, by rw [Hm.out]; exact Reads.of_own hown, hbr, by rw [Hm.out]; exact ownCapL hown⟩

end Go.Proofs.YtaogegpfapfchaaGreatDoor

