/- Plain: the edit distance of two lists (Levenshtein), by its alignments; it is a metric, and what else the laws ask of it. -/
namespace Go.Proofs.YtigbnldmjafgmaaDoor

section
variable {α : Type} [DecidableEq α]

def ne1 (x y : α) : Nat := if x = y then 0 else 1

/-- The distance, by recursion. -/
def levRow (x : α) (f : List α → Nat) (n : Nat) : List α → Nat
  | [] => n
  | y :: b => min (f b + ne1 x y) (min (f (y :: b)) (levRow x f n b) + 1)
def lev : List α → List α → Nat
  | [], b => b.length
  | x :: a, b => levRow x (lev a) (a.length + 1) b

/-- An alignment of two lists, of this cost. -/
def step1 : Option α × Option α → Nat
  | (some x, some y) => ne1 x y
  | (some _, none) => 1
  | (none, some _) => 1
  | (none, none) => 0
def cost1 : List (Option α × Option α) → Nat
  | [] => 0
  | p :: s => cost1 s + step1 p
def Al (a b : List α) (n : Nat) : Prop := ∃ s : List (Option α × Option α), s.filterMap Prod.fst = a ∧ s.filterMap Prod.snd = b ∧ cost1 s = n
theorem Al.nil : Al ([] : List α) [] 0 := ⟨[], rfl, rfl, rfl⟩
theorem Al.both (x y : α) {a b : List α} {n : Nat} (h : Al a b n) : Al (x :: a) (y :: b) (n + ne1 x y) := by
  obtain ⟨s, h1, h2, h3⟩ := h
  exact ⟨(some x, some y) :: s, by simp [h1], by simp [h2], by simp [cost1, step1, h3]⟩
theorem Al.left (x : α) {a b : List α} {n : Nat} (h : Al a b n) : Al (x :: a) b (n + 1) := by
  obtain ⟨s, h1, h2, h3⟩ := h
  exact ⟨(some x, none) :: s, by simp [h1], by simp [h2], by simp [cost1, step1, h3]⟩
theorem Al.right (y : α) {a b : List α} {n : Nat} (h : Al a b n) : Al a (y :: b) (n + 1) := by
  obtain ⟨s, h1, h2, h3⟩ := h
  exact ⟨(none, some y) :: s, by simp [h1], by simp [h2], by simp [cost1, step1, h3]⟩
theorem Al.ind {motive : ∀ (a b : List α) (n : Nat), Al a b n → Prop} (nil : motive [] [] 0 Al.nil)
    (both : ∀ (x y : α) {a b : List α} {n : Nat} (h : Al a b n), motive a b n h → motive (x :: a) (y :: b) (n + ne1 x y) (h.both x y))
    (left : ∀ (x : α) {a b : List α} {n : Nat} (h : Al a b n), motive a b n h → motive (x :: a) b (n + 1) (h.left x))
    (right : ∀ (y : α) {a b : List α} {n : Nat} (h : Al a b n), motive a b n h → motive a (y :: b) (n + 1) (h.right y))
    {a b : List α} {n : Nat} (h : Al a b n) : motive a b n h := by
  have key : ∀ (s : List (Option α × Option α)), motive (s.filterMap Prod.fst) (s.filterMap Prod.snd) (cost1 s) ⟨s, rfl, rfl, rfl⟩ := by
    intro s
    induction s with
    | nil => exact nil
    | cons p s ih =>
      obtain ⟨o, q⟩ := p
      cases o with
      | none => cases q with
        | none => exact ih
        | some y => exact right y _ ih
      | some x => cases q with
        | none => exact left x _ ih
        | some y => exact both x y _ ih
  obtain ⟨s, rfl, rfl, rfl⟩ := h
  exact key s

theorem Al.cast {a b : List α} {n m : Nat} (h : Al a b n) (e : n = m) : Al a b m := e ▸ h
theorem Al.all_left : ∀ a : List α, Al a [] a.length
  | [] => .nil
  | x :: a => .left x (Al.all_left a)
theorem Al.all_right : ∀ b : List α, Al [] b b.length
  | [] => .nil
  | x :: a => .right x (Al.all_right a)

theorem lev_nil_left (b : List α) : lev [] b = b.length := rfl
theorem lev_nil_right (a : List α) : lev a [] = a.length := by cases a <;> rfl
theorem lev_cons (x y : α) (a b : List α) : lev (x :: a) (y :: b) = min (lev a b + ne1 x y) (min (lev a (y :: b)) (lev (x :: a) b) + 1) := rfl

theorem lev_al (a : List α) : ∀ b : List α, Al a b (lev a b) := by
  induction a with
  | nil => intro b; exact Al.all_right b
  | cons x a iha =>
   intro b
   induction b with
   | nil => rw [lev_nil_right]; exact Al.all_left _
   | cons y b ihb =>
    rw [lev_cons]
    have h1 := (iha b).both x y
    have h2 := (iha (y :: b)).left x
    have h3 := ihb.right y
    rcases Nat.le_total (lev a b + ne1 x y) (min (lev a (y :: b)) (lev (x :: a) b) + 1) with h | h
    · exact h1.cast (by omega)
    · rcases Nat.le_total (lev a (y :: b)) (lev (x :: a) b) with h' | h'
      · exact h2.cast (by omega)
      · exact h3.cast (by omega)

theorem Al.nil_left {a b : List α} {n : Nat} (h : Al a b n) : a = [] → b.length ≤ n := by
  induction h using Al.ind with
  | nil => intro _; simp
  | both => intro h; cases h
  | left => intro h; cases h
  | right y _ ih => intro h; have := ih h; simp; omega
theorem Al.nil_right {a b : List α} {n : Nat} (h : Al a b n) : b = [] → a.length ≤ n := by
  induction h using Al.ind with
  | nil => intro _; simp
  | both => intro h; cases h
  | right => intro h; cases h
  | left y _ ih => intro h; have := ih h; simp; omega

theorem lev_left_le (x : α) (a b : List α) : lev (x :: a) b ≤ lev a b + 1 := by
  cases b with
  | nil => rw [lev_nil_right, lev_nil_right]; simp
  | cons y b => rw [lev_cons]; omega
theorem lev_right_le (y : α) (a b : List α) : lev a (y :: b) ≤ lev a b + 1 := by
  cases a with
  | nil => rw [lev_nil_left, lev_nil_left]; simp
  | cons x a => rw [lev_cons]; omega
theorem lev_both_le (x y : α) (a b : List α) : lev (x :: a) (y :: b) ≤ lev a b + ne1 x y := by rw [lev_cons]; omega

theorem Al.lev_le {a b : List α} {n : Nat} (h : Al a b n) : lev a b ≤ n := by
  induction h using Al.ind with
  | nil => rw [lev_nil_left]; simp
  | both x y h ih => exact Nat.le_trans (lev_both_le x y _ _) (by omega)
  | left x h ih => exact Nat.le_trans (lev_left_le x _ _) (by omega)
  | right y h ih => exact Nat.le_trans (lev_right_le y _ _) (by omega)

theorem ne1_comm (x y : α) : ne1 x y = ne1 y x := by
  unfold ne1
  by_cases h : x = y
  · rw [if_pos h, if_pos h.symm]
  · rw [if_neg h, if_neg (Ne.symm h)]
theorem ne1_self (x : α) : ne1 x x = 0 := by simp [ne1]
theorem ne1_le (x y : α) : ne1 x y ≤ 1 := by unfold ne1; split <;> omega
theorem ne1_tri (x y z : α) : ne1 x z ≤ ne1 x y + ne1 y z := by
  unfold ne1
  by_cases h1 : x = y
  · subst h1; simp
  · rw [if_neg h1]; split <;> omega

theorem Al.symm {a b : List α} {n : Nat} (h : Al a b n) : Al b a n := by
  induction h using Al.ind with
  | nil => exact .nil
  | both x y h ih => exact (ih.both y x).cast (by rw [ne1_comm])
  | left x h ih => exact ih.right x
  | right y h ih => exact ih.left y
theorem lev_comm (a b : List α) : lev a b = lev b a :=
  Nat.le_antisymm (lev_al b a).symm.lev_le (lev_al a b).symm.lev_le

theorem Al.append {a b c d : List α} {n m : Nat} (h : Al a b n) (k : Al c d m) : Al (a ++ c) (b ++ d) (n + m) := by
  induction h using Al.ind with
  | nil => exact k.cast (by omega)
  | both x y h ih => exact (ih.both x y).cast (by omega)
  | left x h ih => exact (ih.left x).cast (by omega)
  | right y h ih => exact (ih.right y).cast (by omega)
theorem Al.reverse {a b : List α} {n : Nat} (h : Al a b n) : Al a.reverse b.reverse n := by
  induction h using Al.ind with
  | nil => exact .nil
  | both x y h ih => simpa using ih.append ((Al.nil.both x y))
  | left x h ih => simpa using ih.append (Al.nil.left x)
  | right y h ih => simpa using ih.append (Al.nil.right y)
theorem lev_reverse (a b : List α) : lev a.reverse b.reverse = lev a b := by
  refine Nat.le_antisymm (lev_al a b).reverse.lev_le ?_
  have := (lev_al a.reverse b.reverse).reverse.lev_le
  simpa using this
theorem lev_append (a b c d : List α) : lev (a ++ c) (b ++ d) ≤ lev a b + lev c d := ((lev_al a b).append (lev_al c d)).lev_le

theorem Al.refl : ∀ a : List α, Al a a 0
  | [] => .nil
  | x :: a => ((Al.refl a).both x x).cast (by rw [ne1_self])
theorem Al.zero {a b : List α} {n : Nat} (h : Al a b n) : n = 0 → a = b := by
  induction h using Al.ind with
  | nil => intro _; rfl
  | both x y h ih =>
    intro e
    have h1 : ne1 x y = 0 := by omega
    rw [ih (by omega)]
    unfold ne1 at h1
    by_cases h2 : x = y
    · rw [h2]
    · rw [if_neg h2] at h1; omega
  | left => intro e; omega
  | right => intro e; omega
theorem lev_self (a : List α) : lev a a = 0 := Nat.le_zero.1 (Al.refl a).lev_le
theorem lev_zero (a b : List α) : lev a b = 0 ↔ a = b := ⟨fun h => (lev_al a b).zero h, fun h => by rw [h, lev_self]⟩

/-- The triangle. -/
theorem Al.trans_le {a b : List α} {n : Nat} (h : Al a b n) : ∀ {c : List α} {m : Nat}, Al b c m → lev a c ≤ n + m := by
  induction h using Al.ind with
  | nil => intro c m k; rw [lev_nil_left]; have := k.nil_left rfl; omega
  | left x h ih => intro c m k; exact Nat.le_trans (lev_left_le x _ _) (by have := ih k; omega)
  | right y h ih =>
    rename_i a b n
    intro c m k
    generalize hb : y :: b = b' at k
    induction k using Al.ind with
    | nil => cases hb
    | both y' z k' _ => injection hb with e1 e2; subst e2; have := ih k'; exact Nat.le_trans (lev_right_le z a _) (by omega)
    | left y' k' _ => injection hb with e1 e2; subst e2; have := ih k'; omega
    | right z k' ih' => have h1 := ih' hb; exact Nat.le_trans (lev_right_le z a _) (by omega)
  | both x y h ih =>
    rename_i a b n
    intro c m k
    generalize hb : y :: b = b' at k
    induction k using Al.ind with
    | nil => cases hb
    | both y' z k' _ => injection hb with e1 e2; subst e1 e2; have := ih k'; have := ne1_tri x y z; exact Nat.le_trans (lev_both_le x z a _) (by omega)
    | left y' k' _ => injection hb with e1 e2; subst e2; have := ih k'; have := ne1_le x y; exact Nat.le_trans (lev_left_le x a _) (by omega)
    | right z k' ih' => have h1 := ih' hb; exact Nat.le_trans (lev_right_le z (x :: a) _) (by omega)
theorem lev_tri (a b c : List α) : lev a c ≤ lev a b + lev b c := (lev_al a b).trans_le (lev_al b c)

theorem lev_cons_cons (x : α) (a b : List α) : lev (x :: a) (x :: b) = lev a b := by
  refine Nat.le_antisymm (by have := lev_both_le x x a b; rw [ne1_self] at this; exact this) ?_
  rw [lev_cons, ne1_self]
  have h1 : lev a b ≤ lev a (x :: b) + 1 := by
    have := lev_tri a (x :: b) b
    have h := lev_left_le x b b
    rw [lev_self] at h
    omega
  have h2 : lev a b ≤ lev (x :: a) b + 1 := by
    have := lev_tri a (x :: a) b
    have h := lev_right_le x a a
    rw [lev_self] at h
    omega
  omega
theorem lev_front : ∀ (c a b : List α), lev (c ++ a) (c ++ b) = lev a b
  | [], _, _ => rfl
  | x :: c, a, b => by rw [List.cons_append, List.cons_append, lev_cons_cons, lev_front c]
theorem lev_behind (c a b : List α) : lev (a ++ c) (b ++ c) = lev a b := by
  rw [← lev_reverse, List.reverse_append, List.reverse_append, lev_front, lev_reverse]

theorem lev_tails (x y : α) (a b : List α) : lev a b ≤ lev (x :: a) (y :: b) := by
  rw [lev_cons]
  have h1 : lev a b ≤ lev a (y :: b) + 1 := by
    have := lev_tri a (y :: b) b
    have h := lev_left_le y b b
    rw [lev_self] at h
    omega
  have h2 : lev a b ≤ lev (x :: a) b + 1 := by
    have := lev_tri a (x :: a) b
    have h := lev_right_le x a a
    rw [lev_self] at h
    omega
  omega
theorem lev_drop : ∀ (k : Nat) (a b : List α), k ≤ a.length → k ≤ b.length → lev (a.drop k) (b.drop k) ≤ lev a b
  | 0, a, b, _, _ => by simp
  | k + 1, [], _, h, _ => by simp at h
  | k + 1, _ :: _, [], _, h => by simp at h
  | k + 1, x :: a, y :: b, h1, h2 => Nat.le_trans (lev_drop k a b (by simpa using h1) (by simpa using h2)) (lev_tails x y a b)
theorem lev_le_add (a b : List α) : lev a b ≤ a.length + b.length := by
  have := ((Al.all_left a).append (Al.all_right b)).lev_le
  simpa using this
theorem Al.length_le {a b : List α} {n : Nat} (h : Al a b n) : a.length ≤ b.length + n ∧ b.length ≤ a.length + n := by
  induction h using Al.ind with
  | nil => simp
  | both x y h ih => simp; omega
  | left x h ih => simp; omega
  | right y h ih => simp; omega
theorem lev_length (a b : List α) : a.length ≤ b.length + lev a b ∧ b.length ≤ a.length + lev a b := (lev_al a b).length_le
theorem lev_le_max : ∀ (a b : List α), lev a b ≤ max a.length b.length
  | [], b => by rw [lev_nil_left]; omega
  | x :: a, [] => by rw [lev_nil_right]; omega
  | x :: a, y :: b => by
    have h1 := lev_both_le x y a b
    have h2 := lev_le_max a b
    have h3 := ne1_le x y
    simp only [List.length_cons]
    omega

/-- Turning both by k places. -/
theorem lev_turn (a b : List α) (k : Nat) (ha : k ≤ a.length) (hb : k ≤ b.length) : lev (a.drop k ++ a.take k) (b.drop k ++ b.take k) ≤ lev a b + k := by
  have h1 := lev_append (a.drop k) (b.drop k) (a.take k) (b.take k)
  have h2 := lev_drop k a b ha hb
  have h3 := lev_le_max (a.take k) (b.take k)
  simp only [List.length_take] at h3
  omega
theorem lev_byte (a b : List α) (x : α) : lev (a ++ [x]) b ≤ lev a b + 1 := by
  have := lev_append a b [x] []
  simpa [lev_nil_right] using this

end
end Go.Proofs.YtigbnldmjafgmaaDoor
