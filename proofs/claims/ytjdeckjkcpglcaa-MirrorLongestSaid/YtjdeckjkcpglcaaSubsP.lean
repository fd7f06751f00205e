/- Plain: how many unlike texts stand in a word. -/
import Derived.Test.YtjdeckjkcpglcaaSuffixP
namespace Go.Proofs.Ytjdeckjkcpglcaa
set_option linter.unusedVariables false

theorem nodup_sub_len {α : Type} : ∀ {l m : List α}, l.Nodup → (∀ x ∈ l, x ∈ m) → l.length ≤ m.length
  | [], _, _, _ => Nat.zero_le _
  | a :: l, m, hn, h => by
    classical
    obtain ⟨ha, hl⟩ := List.nodup_cons.1 hn
    obtain ⟨m1, m2, rfl⟩ := List.append_of_mem (h a (by simp))
    have := nodup_sub_len (l := l) (m := m1 ++ m2) hl fun x hx => by
      have := h x (by simp [hx])
      rw [List.mem_append, List.mem_cons] at this
      rw [List.mem_append]
      rcases this with k | rfl | k
      · exact .inl k
      · exact absurd hx ha
      · exact .inr k
    rw [List.length_append] at this
    rw [List.length_append, List.length_cons, List.length_cons]
    omega
/-- So many things are so. -/
def Many {α : Type} (P : α → Prop) (n : Nat) : Prop := ∃ l : List α, l.Nodup ∧ (∀ x, x ∈ l ↔ P x) ∧ l.length = n
theorem Many.le {α : Type} {P Q : α → Prop} {n m : Nat} (h : Many P n) (k : Many Q m) (hPQ : ∀ x, P x → Q x) : n ≤ m := by
  obtain ⟨l, h1, h2, rfl⟩ := h
  obtain ⟨l', k1, k2, rfl⟩ := k
  exact nodup_sub_len h1 fun x hx => (k2 x).2 (hPQ x ((h2 x).1 hx))
theorem Many.le_list {α : Type} {P : α → Prop} {n : Nat} (h : Many P n) (l : List α) (hl : ∀ x, P x → x ∈ l) : n ≤ l.length := by
  obtain ⟨m, h1, h2, rfl⟩ := h
  exact nodup_sub_len h1 fun x hx => hl x ((h2 x).1 hx)
theorem Many.ge_list {α : Type} {P : α → Prop} {n : Nat} (h : Many P n) (l : List α) (hn : l.Nodup) (hl : ∀ x ∈ l, P x) : l.length ≤ n := by
  obtain ⟨m, h1, h2, rfl⟩ := h
  exact nodup_sub_len hn fun x hx => (h2 x).2 (hl x hx)
theorem Many.eq {α : Type} {P : α → Prop} {n m : Nat} (h : Many P n) (k : Many P m) : n = m := Nat.le_antisymm (h.le k fun _ h => h) (k.le h fun _ h => h)

/-- A text that stands in a word, not empty. -/
def Sub (s x : List UInt8) : Prop := x ≠ [] ∧ ∃ i, i < s.length ∧ x <+: s.drop i
theorem sub_infix {s x : List UInt8} : Sub s x ↔ x ≠ [] ∧ x <:+: s := by
  constructor
  · rintro ⟨h0, i, hi, t, ht⟩
    exact ⟨h0, s.take i, t, by rw [List.append_assoc, ht, List.take_append_drop]⟩
  · rintro ⟨h0, a, b, h⟩
    refine ⟨h0, a.length, ?_, b, ?_⟩
    · rw [← h, List.length_append, List.length_append]
      have := List.length_pos_iff.2 h0
      omega
    · rw [← h, List.append_assoc, List.drop_left]
/-- The new ones at a rank. -/
def newS (s : List UInt8) (o : List Nat) (r : Nat) : List (List UInt8) := (List.range (s.length - o.getD r 0 - lcpR s o r)).map fun j => (s.drop (o.getD r 0)).take (lcpR s o r + j + 1)
theorem newS_mem {s : List UInt8} {o : List Nat} {r : Nat} {x : List UInt8} : x ∈ newS s o r ↔ x <+: s.drop (o.getD r 0) ∧ lcpR s o r < x.length := by
  unfold newS
  rw [List.mem_map]
  have hl : (s.drop (o.getD r 0)).length = s.length - o.getD r 0 := List.length_drop
  constructor
  · rintro ⟨j, hj, rfl⟩
    rw [List.mem_range] at hj
    refine ⟨List.take_prefix _ _, ?_⟩
    rw [List.length_take]; omega
  · rintro ⟨h1, h2⟩
    have h3 := h1.length_le
    refine ⟨x.length - lcpR s o r - 1, List.mem_range.2 (by omega), ?_⟩
    rw [show lcpR s o r + (x.length - lcpR s o r - 1) + 1 = x.length by omega]
    exact (List.prefix_iff_eq_take.1 h1).symm
theorem newS_nodup (s : List UInt8) (o : List Nat) (r : Nat) : (newS s o r).Nodup := by
  unfold newS
  have hl : (s.drop (o.getD r 0)).length = s.length - o.getD r 0 := List.length_drop
  rw [List.nodup_iff_pairwise_ne, List.pairwise_map]
  refine List.Pairwise.imp_of_mem (fun {a b} ha hb h e => h ?_) (List.nodup_range (n := s.length - o.getD r 0 - lcpR s o r))
  rw [List.mem_range] at ha hb
  have := congrArg List.length e
  rw [List.length_take, List.length_take] at this
  omega
theorem prefix_lcp {a b x : List UInt8} (h1 : x <+: a) (h2 : x <+: b) : x.length ≤ lcp a b :=
  lcp_ge h1.length_le h2.length_le ((List.prefix_iff_eq_take.1 h1).symm.trans (List.prefix_iff_eq_take.1 h2))
theorem lcp_prefix {a b x : List UInt8} (h1 : x <+: b) (h : x.length ≤ lcp a b) : x <+: a := by
  rw [List.prefix_iff_eq_take] at h1 ⊢
  have := lcp_take a b
  have h2 := congrArg (List.take x.length) this
  rw [List.take_take, List.take_take, Nat.min_eq_left h] at h2
  rw [h2]; exact h1
def sumR (f : Nat → Nat) : Nat → Nat
  | 0 => 0
  | k + 1 => sumR f k + f k
theorem flatMap_len {α : Type} (f : Nat → List α) : ∀ k, ((List.range k).flatMap f).length = sumR (fun r => (f r).length) k
  | 0 => rfl
  | k + 1 => by rw [List.range_succ, List.flatMap_append, List.length_append, flatMap_len f k, List.flatMap_singleton]; rfl
/-- All of them. -/
theorem IsSOrd.subs {s : List UInt8} {o : List Nat} (h : IsSOrd s o) : Many (Sub s) (sumR (fun r => s.length - o.getD r 0 - lcpR s o r) s.length) := by
  refine ⟨(List.range s.length).flatMap (newS s o), ?_, fun x => ?_, ?_⟩
  · rw [List.nodup_iff_pairwise_ne, List.pairwise_flatMap]
    refine ⟨fun r _ => (newS_nodup s o r), ?_⟩
    refine List.pairwise_iff_getElem.2 fun i k hi hk hik => ?_
    intro x hx y hy e
    subst e
    rw [List.getElem_range] at hx hy
    rw [List.length_range] at hi hk
    rw [newS_mem] at hx hy
    have h1 := prefix_lcp hx.1 hy.1
    have h2 := (h.range hik hk).1 k hik (Nat.le_refl _)
    omega
  · rw [List.mem_flatMap]
    constructor
    · rintro ⟨r, hr, hx⟩
      rw [newS_mem] at hx
      refine ⟨fun e => by rw [e] at hx; simp at hx, o.getD r 0, h.at_lt (List.mem_range.1 hr), hx.1⟩
    · rintro ⟨h0, i, hi, hx⟩
      obtain ⟨r, hr, rfl⟩ := h.find hi
      induction r with
      | zero => exact ⟨0, List.mem_range.2 hr, newS_mem.2 ⟨hx, by unfold lcpR; rw [if_pos rfl]; exact List.length_pos_iff.2 h0⟩⟩
      | succ r ih =>
        by_cases hl : lcpR s o (r + 1) < x.length
        · exact ⟨r + 1, List.mem_range.2 hr, newS_mem.2 ⟨hx, hl⟩⟩
        · refine ih (by omega) (h.at_lt (by omega)) ?_
          unfold lcpR at hl
          rw [if_neg (by omega), Nat.add_sub_cancel] at hl
          exact lcp_prefix hx (by omega)
  · rw [flatMap_len]
    congr 1
    funext r
    unfold newS
    rw [List.length_map, List.length_range]
theorem sumR_sub {f g : Nat → Nat} : ∀ {k : Nat}, (∀ r, r < k → g r ≤ f r) → sumR (fun r => f r - g r) k + sumR g k = sumR f k
  | 0, _ => rfl
  | k + 1, h => by
    have := sumR_sub (f := f) (g := g) (k := k) fun r hr => h r (by omega)
    have := h k (by omega)
    simp only [sumR]; omega
theorem sumR_congr {f g : Nat → Nat} : ∀ {k : Nat}, (∀ r, r < k → f r = g r) → sumR f k = sumR g k
  | 0, _ => rfl
  | k + 1, h => by rw [sumR, sumR, sumR_congr fun r hr => h r (by omega), h k (by omega)]
theorem sumR_bound {f : Nat → Nat} {c : Nat} (h : ∀ r, f r ≤ c) : ∀ k, sumR f k ≤ k * c
  | 0 => by simp [sumR]
  | k + 1 => by
    have := sumR_bound h k
    have := h k
    rw [sumR, Nat.succ_mul]; omega
theorem sumR_perm (f : Nat → Nat) {l m : List Nat} (h : l.Perm m) : (l.map f).sum = (m.map f).sum := (h.map f).sum_nat
theorem sumR_list (f : Nat → Nat) (o : List Nat) : sumR (fun r => f (o.getD r 0)) o.length = (o.map f).sum := by
  have : ∀ k, k ≤ o.length → sumR (fun r => f (o.getD r 0)) k = ((o.take k).map f).sum := fun k => by
    induction k with
    | zero => intro _; simp [sumR]
    | succ k ih =>
      intro hk
      rw [sumR, ih (by omega), take_succ_getD o k 0 (by omega), List.map_append, List.sum_append]
      simp
  rw [this _ (Nat.le_refl _), List.take_length]
theorem sum_down : ∀ n, ((List.range n).map fun i => n - i).sum = n * (n + 1) / 2
  | 0 => rfl
  | n + 1 => by
    rw [List.range_succ_eq_map, List.map_cons, List.map_map, List.sum_cons]
    have : ((List.range n).map ((fun i => n + 1 - i) ∘ Nat.succ)) = (List.range n).map fun i => n - i := List.map_congr_left fun i _ => by simp
    rw [this, sum_down n]
    have e : (n + 1) * (n + 1 + 1) = n * (n + 1) + 2 * (n + 1) := by simp only [Nat.add_mul, Nat.mul_add]; omega
    rw [e]
    omega
/-- What Unlike tells. -/
def unl (s : List UInt8) (o : List Nat) : Nat := s.length * (s.length + 1) / 2 - sumR (lcpR s o) s.length
theorem IsSOrd.unl_eq {s : List UInt8} {o : List Nat} (h : IsSOrd s o) : unl s o + sumR (lcpR s o) s.length = s.length * (s.length + 1) / 2 ∧ Many (Sub s) (unl s o) := by
  have h1 := sumR_sub (f := fun r => s.length - o.getD r 0) (g := lcpR s o) (k := s.length) fun r _ => lcpR_le s o r
  have h2 : sumR (fun r => s.length - o.getD r 0) s.length = s.length * (s.length + 1) / 2 := by
    have := sumR_list (fun i => s.length - i) o
    rw [h.len] at this
    rw [this, sumR_perm _ h.perm, sum_down]
  rw [h2] at h1
  have h3 := h.subs
  have e : unl s o = sumR (fun r => s.length - o.getD r 0 - lcpR s o r) s.length := by unfold unl; omega
  rw [e]
  exact ⟨h1, h3⟩

/-- With a byte more. -/
theorem many_snoc {s : List UInt8} {b : UInt8} {n m : Nat} (h : Many (Sub s) n) (k : Many (Sub (s ++ [b])) m) : n ≤ m ∧ m ≤ n + s.length + 1 := by
  refine ⟨h.le k fun x hx => ?_, ?_⟩
  · rw [sub_infix] at hx ⊢
    exact ⟨hx.1, hx.2.trans ⟨[], [b], by simp⟩⟩
  · obtain ⟨l, h1, h2, rfl⟩ := h
    have := k.le_list (l ++ (List.range (s.length + 1)).map fun i => (s ++ [b]).drop i) fun x hx => ?_
    · rw [List.length_append, List.length_map, List.length_range] at this; omega
    · obtain ⟨h0, i, hi, t, ht⟩ := hx
      rw [List.length_append, List.length_singleton] at hi
      rw [List.mem_append]
      rcases List.eq_nil_or_concat t with rfl | ⟨t, c, rfl⟩
      · right
        rw [List.mem_map]
        exact ⟨i, List.mem_range.2 (by omega), by rw [← ht, List.append_nil]⟩
      · left
        rw [h2]
        have hx1 := List.length_pos_iff.2 h0
        have hil : i < s.length := by
          have := congrArg List.length ht
          simp only [List.length_append, List.length_drop, List.length_cons, List.length_nil, List.concat_eq_append] at this
          omega
        refine ⟨h0, i, hil, t, ?_⟩
        rw [List.drop_append_of_le_length (by omega), List.concat_eq_append, ← List.append_assoc] at ht
        exact (List.append_inj' ht rfl).1
theorem many_ge {s : List UInt8} {n : Nat} (h : Many (Sub s) n) : s.length ≤ n := by
  have := h.ge_list ((List.range s.length).map fun j => s.take (j + 1)) ?_ ?_
  · simpa using this
  · rw [List.nodup_iff_pairwise_ne, List.pairwise_map]
    refine List.Pairwise.imp_of_mem (fun {a b} ha hb h e => h ?_) (List.nodup_range (n := s.length))
    rw [List.mem_range] at ha hb
    have := congrArg List.length e
    rw [List.length_take, List.length_take] at this
    omega
  · intro x hx
    obtain ⟨j, hj, rfl⟩ := List.mem_map.1 hx
    rw [List.mem_range] at hj
    refine ⟨fun e => ?_, 0, by omega, List.take_prefix _ _⟩
    have := congrArg List.length e
    rw [List.length_take, List.length_nil] at this
    omega
theorem many_back {s : List UInt8} {n m : Nat} (h : Many (Sub s) n) (k : Many (Sub s.reverse) m) : m = n := by
  obtain ⟨l, h1, h2, rfl⟩ := h
  refine k.eq ⟨l.map List.reverse, ?_, fun x => ?_, List.length_map ..⟩
  · rw [List.nodup_iff_pairwise_ne, List.pairwise_map]
    exact h1.imp fun h e => h (List.reverse_inj.1 e)
  · rw [List.mem_map, sub_infix]
    constructor
    · rintro ⟨y, hy, rfl⟩
      rw [h2, sub_infix] at hy
      exact ⟨by simpa using hy.1, List.reverse_infix.2 hy.2⟩
    · rintro ⟨h0, hx⟩
      refine ⟨x.reverse, ?_, List.reverse_reverse _⟩
      rw [h2, sub_infix]
      refine ⟨by simpa using h0, ?_⟩
      rw [← List.reverse_infix, List.reverse_reverse]; exact hx
theorem many_run {a : UInt8} {n m : Nat} (h : Many (Sub (List.replicate n a)) m) : m = n := by
  have h1 := many_ge h
  rw [List.length_replicate] at h1
  have h2 := h.le_list ((List.range n).map fun j => List.replicate (j + 1) a) fun x hx => ?_
  · rw [List.length_map, List.length_range] at h2; omega
  · rw [sub_infix] at hx
    have hl := hx.2.length_le
    rw [List.length_replicate] at hl
    have h3 := List.length_pos_iff.2 hx.1
    rw [List.mem_map]
    refine ⟨x.length - 1, List.mem_range.2 (by omega), ?_⟩
    rw [show x.length - 1 + 1 = x.length by omega]
    symm
    exact List.eq_replicate_iff.2 ⟨rfl, fun b hb => (List.mem_replicate.1 (hx.2.subset hb)).2⟩
end Go.Proofs.Ytjdeckjkcpglcaa
