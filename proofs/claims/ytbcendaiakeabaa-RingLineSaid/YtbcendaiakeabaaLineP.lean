/- Plain: the line of ring.Line, step by step, and that each word of n signs begins at just one place of it. -/
import Derived.Test.YtbcendaiakeabaaNext
import Derived.Test.YtbcendaiakeabaaRing
import Derived.Test.YtbcendaiakeabaaPlain
namespace Go.Proofs.Ytbcendaiakeabaa
set_option linter.unusedVariables false

def extW (n : Nat) (s : List UInt8) : List UInt8 := (List.range n).map fun x => s.getD (x % s.length) 0
def nextW (n : Nat) (last : UInt8) (s : List UInt8) : Option (List UInt8) :=
  match (extW n s).reverse.dropWhile (· == last) with
  | [] => none
  | c :: r => some ((c + 1) :: r).reverse
theorem nextW_none {n : Nat} {last : UInt8} {s : List UInt8} (h : ∀ x, x < n → s.getD (x % s.length) 0 = last) : nextW n last s = none := by
  have : (extW n s).reverse.dropWhile (· == last) = [] := by
    rw [← List.append_nil (extW n s).reverse, List.dropWhile_append_of_pos]
    · rfl
    intro c hc
    rw [List.mem_reverse] at hc
    obtain ⟨x, hx, rfl⟩ := List.mem_map.1 hc
    rw [h x (List.mem_range.1 hx)]; simp
  unfold nextW
  rw [this]
theorem extW_split {s p : List UInt8} {n : Nat} {last : UInt8} (h : NextAt s n last p) : extW n s = p ++ s.getD (p.length % s.length) 0 :: List.replicate (n - p.length - 1) last := by
  have hf := h.fits
  refine ext_getD _ _ 0 (by simp [extW]; omega) fun j hj => ?_
  have hj' : j < n := by simpa [extW] using hj
  have e1 : (extW n s).getD j 0 = s.getD (j % s.length) 0 := by
    rw [getD_some _ _ _ hj]; simp [extW]
  rw [e1]
  rcases Nat.lt_trichotomy j p.length with h1 | h1 | h1
  · rw [getD_app_left _ _ _ _ h1, h.per j h1]
  · subst h1
    rw [getD_app_right _ _ _ _ (Nat.le_refl _), Nat.sub_self]; rfl
  · rw [getD_app_right _ _ _ _ (by omega), h.rest j h1 hj', show j - p.length = (j - p.length - 1) + 1 from by omega, List.getD_cons_succ, getD_some _ _ _ (by simp; omega)]
    simp
theorem nextW_some {s p : List UInt8} {n : Nat} {last : UInt8} (h : NextAt s n last p) : nextW n last s = some (p ++ [s.getD (p.length % s.length) 0 + 1]) := by
  have hne : (s.getD (p.length % s.length) 0 == last) = false := by
    have := h.can
    rw [beq_eq_false_iff_ne]
    intro e
    rw [e] at this
    exact u8_irrefl _ this
  have : (extW n s).reverse.dropWhile (· == last) = s.getD (p.length % s.length) 0 :: p.reverse := by
    rw [extW_split h, List.reverse_append, List.reverse_cons, List.reverse_replicate, List.append_assoc, List.dropWhile_append_of_pos (by
      intro a ha
      rw [(List.mem_replicate.1 ha).2]; simp)]
    rw [List.singleton_append, List.dropWhile_cons, hne]
    rfl
  unfold nextW
  rw [this]
  simp

/-- What Line makes from a word on. -/
def lineGo (n : Nat) (last : UInt8) : Nat → List UInt8 → Option (List UInt8)
  | 0, _ => none
  | f + 1, s => match nextW n last s with
    | none => some (if n % s.length = 0 then s else [])
    | some v => (lineGo n last f v).map ((if n % s.length = 0 then s else []) ++ ·)
def wideOf (s : List UInt8) (n : Nat) : List UInt8 := (List.range (s.length + n - 1)).map fun j => s.getD (j % s.length) 0
def valW (k : Nat) (l : List UInt8) : Nat := l.foldl (fun a c => a * k + (c.toNat - 97)) 0
def winds (k n : Nat) : Nat → List UInt8 → List Nat
  | 0, _ => []
  | m + 1, l => valW k (l.take n) :: winds k n m l.tail
def chk : List Nat → Nat → Option Nat
  | [], m => some m
  | v :: l, m => if m.testBit v then none else chk l (m ||| 1 <<< v)
def okLine (k n : Nat) : Bool :=
  match lineGo n (UInt8.ofNat (96 + k)) 300 [97] with
  | none => false
  | some s => s.length == k ^ n && s.all (fun c => decide (97 ≤ c.toNat) && decide (c.toNat < 97 + k)) && chk (winds k n s.length (wideOf s n)) 0 == some (2 ^ k ^ n - 1)
set_option maxRecDepth 100000 in
theorem line_one : ((List.range 200).all fun n => okLine 1 (n + 1)) = true := by decide +kernel
set_option maxRecDepth 100000 in
theorem line_all : ([2, 3, 4, 5, 6, 7, 8].all fun k => (List.range 9).all fun n => !decide (k ^ (n + 1) ≤ 512) || okLine k (n + 1)) = true := by decide +kernel
theorem line_ok {k n : Nat} (h : Fits k n) (hn : n ≤ 200) : okLine k n = true := by
  have h1 := h.n1
  by_cases hk : k = 1
  · subst hk
    have := List.all_eq_true.1 line_one (n - 1) (List.mem_range.2 (by omega))
    rwa [show n - 1 + 1 = n from by omega] at this
  · have hk2 : 2 ≤ k := by have := h.k1; omega
    have h9 := pow_small hk2 h.pow
    have hm : k ∈ [2, 3, 4, 5, 6, 7, 8] := by
      have := h.k8
      have : k = 2 ∨ k = 3 ∨ k = 4 ∨ k = 5 ∨ k = 6 ∨ k = 7 ∨ k = 8 := by omega
      rcases this with h | h | h | h | h | h | h <;> subst h <;> decide
    have := List.all_eq_true.1 (List.all_eq_true.1 line_all k hm) (n - 1) (List.mem_range.2 (by omega))
    rw [show n - 1 + 1 = n from by omega] at this
    rw [Bool.or_eq_true] at this
    rcases this with h' | h'
    · have := h.pow
      simp at h'; omega
    · exact h'

theorem chk_count : ∀ (l : List Nat) (m r : Nat), chk l m = some r → ∀ x, (m.testBit x = true → List.count x l = 0 ∧ r.testBit x = true) ∧ (m.testBit x = false → r.testBit x = true → List.count x l = 1)
  | [], m, r, h, x => by
    injection h with h
    subst h
    exact ⟨fun h => ⟨rfl, h⟩, fun h h' => by rw [h] at h'; cases h'⟩
  | v :: l, m, r, h, x => by
    unfold chk at h
    by_cases hv : m.testBit v = true
    · rw [if_pos hv] at h; cases h
    · rw [if_neg hv] at h
      have ih := chk_count l _ r h x
      have hb : (m ||| 1 <<< v).testBit x = (m.testBit x || decide (v = x)) := by
        rw [Nat.testBit_or, Nat.one_shiftLeft, Nat.testBit_two_pow]
      rw [hb] at ih
      by_cases hx : v = x
      · subst hx
        refine ⟨fun h1 => absurd h1 hv, fun _ _ => ?_⟩
        rw [List.count_cons_self, (ih.1 (by simp)).1]
      · have hne : List.count x (v :: l) = List.count x l := List.count_cons_of_ne hx
        rw [hne]
        simpa [hx] using ih
theorem winds_eq (k n : Nat) : ∀ (m : Nat) (l : List UInt8), winds k n m l = (List.range m).map fun i => valW k ((l.drop i).take n)
  | 0, l => rfl
  | m + 1, l => by
    rw [winds, winds_eq k n m, List.range_succ_eq_map, List.map_cons, List.map_map, List.drop_zero]
    congr 1
    apply List.map_congr_left
    intro i _
    simp only [Function.comp_apply]
    rw [← List.drop_one, List.drop_drop, Nat.add_comm 1 i]

def Digs (k : Nat) (l : List UInt8) : Prop := ∀ c ∈ l, 97 ≤ c.toNat ∧ c.toNat < 97 + k
theorem valW_snoc (k : Nat) (l : List UInt8) (c : UInt8) : valW k (l ++ [c]) = valW k l * k + (c.toNat - 97) := by simp [valW]
theorem valW_inj (k : Nat) (hk : 0 < k) : ∀ (n : Nat) (a b : List UInt8), a.length = n → b.length = n → Digs k a → Digs k b → valW k a = valW k b → a = b
  | 0, a, b, ha, hb, _, _, _ => by rw [List.eq_nil_of_length_eq_zero ha, List.eq_nil_of_length_eq_zero hb]
  | n + 1, a, b, ha, hb, da, db, h => by
    obtain ⟨a, x, rfl⟩ : ∃ a' x, a = a' ++ [x] := ⟨a.dropLast, a.getLast (by intro e; simp [e] at ha), (List.dropLast_concat_getLast _).symm⟩
    obtain ⟨b, y, rfl⟩ : ∃ b' y, b = b' ++ [y] := ⟨b.dropLast, b.getLast (by intro e; simp [e] at hb), (List.dropLast_concat_getLast _).symm⟩
    rw [valW_snoc, valW_snoc] at h
    have hx := da x (by simp)
    have hy := db y (by simp)
    have e1 : (x.toNat - 97) % k = (y.toNat - 97) % k := by
      have := congrArg (· % k) h
      simpa [Nat.add_comm, Nat.add_mul_mod_self_right] using this
    rw [Nat.mod_eq_of_lt (by omega), Nat.mod_eq_of_lt (by omega)] at e1
    have e2 : valW k a = valW k b := by
      rw [e1] at h
      exact Nat.eq_of_mul_eq_mul_right hk (Nat.add_right_cancel h)
    have := valW_inj k hk n a b (by simpa using ha) (by simpa using hb) (fun c hc => da c (by simp [hc])) (fun c hc => db c (by simp [hc])) e2
    rw [this, show x = y from UInt8.toNat_inj.1 (by omega)]
theorem valW_lt (k : Nat) (hk : 0 < k) : ∀ (n : Nat) (a : List UInt8), a.length = n → Digs k a → valW k a < k ^ n
  | 0, a, ha, _ => by rw [List.eq_nil_of_length_eq_zero ha]; exact Nat.one_pos
  | n + 1, a, ha, da => by
    obtain ⟨a, x, rfl⟩ : ∃ a' x, a = a' ++ [x] := ⟨a.dropLast, a.getLast (by intro e; simp [e] at ha), (List.dropLast_concat_getLast _).symm⟩
    have := valW_lt k hk n a (by simpa using ha) (fun c hc => da c (by simp [hc]))
    have hx := da x (by simp)
    rw [valW_snoc, Nat.pow_succ]
    have : (valW k a + 1) * k ≤ k ^ n * k := Nat.mul_le_mul_right _ this
    rw [Nat.add_mul] at this
    omega
/-- How often a word begins ahead of place i. -/
def hitsTo (wide : List UInt8) (n : Nat) (b : List UInt8) (i : Nat) : Nat := ((List.range i).filter fun j => (wide.drop j).take n == b).length
theorem hitsTo_succ (wide : List UInt8) (n : Nat) (b : List UInt8) (i : Nat) : hitsTo wide n b (i + 1) = hitsTo wide n b i + if (wide.drop i).take n = b then 1 else 0 := by
  unfold hitsTo
  rw [List.range_succ, List.filter_append, List.length_append]
  by_cases h : (wide.drop i).take n = b
  · simp [h]
  · simp [h]
theorem hitsTo_le (wide : List UInt8) (n : Nat) (b : List UInt8) (i : Nat) : hitsTo wide n b i ≤ i := by
  unfold hitsTo
  have := List.length_filter_le (fun j => (wide.drop j).take n == b) (List.range i)
  simpa using this
theorem wideOf_digs {s : List UInt8} {k n : Nat} (hs : 0 < s.length) (h : Digs k s) : Digs k (wideOf s n) := by
  intro c hc
  obtain ⟨j, _, rfl⟩ := List.mem_map.1 hc
  refine h _ ?_
  rw [getD_some _ _ _ (Nat.mod_lt _ hs)]
  exact List.getElem_mem _
theorem okLine_some {k n : Nat} (h : okLine k n = true) : ∃ s, lineGo n (UInt8.ofNat (96 + k)) 300 [97] = some s ∧ s.length = k ^ n ∧ Digs k s ∧ chk (winds k n s.length (wideOf s n)) 0 = some (2 ^ k ^ n - 1) := by
  unfold okLine at h
  cases hl : lineGo n (UInt8.ofNat (96 + k)) 300 [97] with
  | none => rw [hl] at h; cases h
  | some s =>
    rw [hl] at h
    simp only [Bool.and_eq_true, beq_iff_eq, List.all_eq_true, decide_eq_true_eq] at h
    exact ⟨s, rfl, h.1.1, fun c hc => h.1.2 c hc, h.2⟩
/-- DE BRUIJN: each word of n signs begins at just one place of the line. -/
theorem line_once {k n : Nat} (h : Fits k n) (hn : n ≤ 200) : ∃ s, lineGo n (UInt8.ofNat (96 + k)) 300 [97] = some s ∧ s.length = k ^ n ∧ Digs k s ∧
    ∀ b : List UInt8, b.length = n → Digs k b → hitsTo (wideOf s n) n b (k ^ n) = 1 := by
  obtain ⟨s, h1, h2, h3, h4⟩ := okLine_some (line_ok h hn)
  refine ⟨s, h1, h2, h3, fun b hb hd => ?_⟩
  have hk : 0 < k := h.k1
  have hp : 0 < k ^ n := Nat.pow_pos hk
  have hv := valW_lt k hk n b hb hd
  have hc := (chk_count _ _ _ h4 (valW k b)).2 (by simp) (by rw [Nat.testBit_two_pow_sub_one]; simpa using hv)
  rw [winds_eq, h2, List.count, List.countP_map] at hc
  unfold hitsTo
  rw [← List.countP_eq_length_filter, ← hc]
  apply List.countP_congr
  intro i hi
  have hi' := List.mem_range.1 hi
  have hwl : (wideOf s n).length = k ^ n + n - 1 := by simp [wideOf, h2]
  have hn1 := h.n1
  have hlen : (((wideOf s n).drop i).take n).length = n := by
    rw [List.length_take, List.length_drop, hwl]; omega
  have hdg : Digs k (((wideOf s n).drop i).take n) := fun c hc => wideOf_digs (by omega) h3 c (List.mem_of_mem_drop (List.mem_of_mem_take hc))
  simp only [Function.comp_apply, beq_iff_eq]
  exact ⟨fun e => by rw [e], fun e => valW_inj k hk n _ _ hlen hb hdg hd e⟩
end Go.Proofs.Ytbcendaiakeabaa
