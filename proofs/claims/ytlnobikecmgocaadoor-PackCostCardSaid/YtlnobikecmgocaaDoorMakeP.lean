/- Plain laws of code.Make: words of given lengths, none of which begins another one. -/
import Derived.Test.YtlnobikecmgocaaDoorCodeQ
import Derived.Test.YtlnobikecmgocaaDoorHuffP
namespace Go.Proofs.YtlnobikecmgocaaDoor
set_option linter.unusedVariables false

/-- A number's bits, the highest one first. -/
def bitsL (x : Nat) : Nat → Wd
  | 0 => []
  | n + 1 => UInt8.ofNat (48 + x / 2 ^ n % 2) :: bitsL x n
theorem bitsL_len (x : Nat) : ∀ n, (bitsL x n).length = n
  | 0 => rfl
  | n + 1 => by rw [bitsL, List.length_cons, bitsL_len x n]
theorem bit_c (x : Nat) : UInt8.ofNat (48 + x % 2) = 48 ∨ UInt8.ofNat (48 + x % 2) = 49 := by
  rcases Nat.mod_two_eq_zero_or_one x with h | h <;> rw [h]
  · exact .inl rfl
  · exact .inr rfl
theorem bit_inj {x y : Nat} (h : UInt8.ofNat (48 + x % 2) = UInt8.ofNat (48 + y % 2)) : x % 2 = y % 2 := by
  rcases Nat.mod_two_eq_zero_or_one x with h1 | h1 <;> rcases Nat.mod_two_eq_zero_or_one y with h2 | h2 <;> rw [h1, h2] at h ⊢
  · exact absurd h (by decide)
  · exact absurd h (by decide)
theorem bitsL_bin (x : Nat) : ∀ n, ∀ c ∈ bitsL x n, c = 48 ∨ c = 49
  | 0, c, h => by simp [bitsL] at h
  | n + 1, c, h => by
    rcases List.mem_cons.1 h with rfl | h
    · exact bit_c _
    · exact bitsL_bin x n c h
/-- The same bits: the same number. -/
theorem bitsL_inj : ∀ (n x y : Nat), x < 2 ^ n → y < 2 ^ n → bitsL x n = bitsL y n → x = y := by
  have low : ∀ (n x y : Nat), bitsL x n = bitsL y n → x % 2 ^ n = y % 2 ^ n := by
    intro n
    induction n with
    | zero => intro x y _; rw [Nat.pow_zero, Nat.mod_one, Nat.mod_one]
    | succ n ih =>
      intro x y h
      rw [bitsL, bitsL] at h
      injection h with h1 h2
      have a := bit_inj h1
      have b := ih x y h2
      rw [Nat.pow_succ, Nat.mod_mul, Nat.mod_mul, a, b]
  intro n x y hx hy h
  have := low n x y h
  rwa [Nat.mod_eq_of_lt hx, Nat.mod_eq_of_lt hy] at this
theorem bitsL_take : ∀ (m n x : Nat), (bitsL x (m + n)).take m = bitsL (x / 2 ^ n) m
  | 0, n, x => by simp [bitsL]
  | m + 1, n, x => by
    rw [show m + 1 + n = (m + n) + 1 from by omega, bitsL, List.take_succ_cons, bitsL_take m n x, bitsL, Nat.div_div_eq_div_mul, ← Nat.pow_add, Nat.add_comm n m]
theorem bitsL_prefix {x y n m : Nat} (hx : x < 2 ^ n) (hy : y < 2 ^ m) (h : bitsL x n <+: bitsL y m) : n ≤ m ∧ x = y / 2 ^ (m - n) := by
  have hl := h.length_le
  rw [bitsL_len, bitsL_len] at hl
  refine ⟨hl, ?_⟩
  have e := List.prefix_iff_eq_take.1 h
  rw [bitsL_len] at e
  obtain ⟨d, rfl⟩ := Nat.exists_eq_add_of_le hl
  rw [bitsL_take, ] at e
  rw [Nat.add_sub_cancel_left]
  refine bitsL_inj n x _ hx ?_ e
  rw [Nat.div_lt_iff_lt_mul (Nat.pow_pos (by decide)), ← Nat.pow_add]
  exact hy

/-- Words that are made so far: those of the numbers i with D i. -/
structure MkSt (lens : List Nat) (D : Nat → Bool) (next : Nat) (out : List Wd) (a : Nat → Nat) : Prop where
  len : out.length = lens.length
  word : ∀ i, i < lens.length → D i = true → out.getD i [] = bitsL (a i / 2 ^ (12 - lens.getD i 0)) (lens.getD i 0) ∧ 2 ^ (12 - lens.getD i 0) ∣ a i ∧ a i + 2 ^ (12 - lens.getD i 0) ≤ next
  apart : ∀ i k, i < lens.length → k < lens.length → i ≠ k → D i = true → D k = true → a i + 2 ^ (12 - lens.getD i 0) ≤ a k ∨ a k + 2 ^ (12 - lens.getD k 0) ≤ a i
  rest : next + sumL (fun i => if D i then 0 else 2 ^ (12 - lens.getD i 0)) (List.range lens.length) = kr 12 lens
theorem kr_sumL (L : Nat) (lens : List Nat) : kr L lens = sumL (fun i => 2 ^ (L - lens.getD i 0)) (List.range lens.length) := by
  have key : ∀ (a : List Nat) (m : Nat), kr L a = sumL (fun k => 2 ^ (L - a.getD (k - m) 0)) (List.range' m a.length) := by
    intro a
    induction a with
    | nil => intro m; rfl
    | cons x a ih =>
      intro m
      rw [kr, ih (m + 1), List.length_cons, List.range'_succ, sumL, Nat.sub_self]
      congr 1
      refine sumL_congr fun k hk => ?_
      have := List.mem_range'_1.1 hk
      rw [show k - m = (k - (m + 1)) + 1 from by omega]; rfl
  rw [key lens 0, List.range_eq_range']; rfl
theorem MkSt.start (lens : List Nat) : MkSt lens (fun _ => false) 0 (List.replicate lens.length []) (fun _ => 0) := by
  refine ⟨by simp, fun i _ h => (by cases h), fun i k _ _ _ h => (by cases h), ?_⟩
  rw [kr_sumL]; simp
theorem MkSt.room {lens : List Nat} {D : Nat → Bool} {next : Nat} {out : List Wd} {a : Nat → Nat} (h : MkSt lens D next out a) {i : Nat} (hi : i < lens.length) (hD : D i = false) : next + 2 ^ (12 - lens.getD i 0) ≤ kr 12 lens := by
  have := sumL_ge (f := fun i => if D i then 0 else 2 ^ (12 - lens.getD i 0)) (List.mem_range.2 hi)
  simp only [hD, Bool.false_eq_true, if_false] at this
  have := h.rest
  omega
theorem MkSt.put {lens : List Nat} {D D' : Nat → Bool} {next : Nat} {out : List Wd} {a : Nat → Nat} (h : MkSt lens D next out a) {i : Nat} (hi : i < lens.length) (hD : D i = false) (hd : 2 ^ (12 - lens.getD i 0) ∣ next)
    (hD1 : D' i = true) (hD2 : ∀ k, k ≠ i → D' k = D k) : MkSt lens D' (next + 2 ^ (12 - lens.getD i 0)) (out.set i (bitsL (next / 2 ^ (12 - lens.getD i 0)) (lens.getD i 0))) (fun k => if k = i then next else a k) := by
  have hlen := h.len
  refine ⟨by simpa using hlen, fun k hk hDk => ?_, fun k j hk hj hkj hDk hDj => ?_, ?_⟩
  · by_cases e : k = i
    · subst e
      rw [if_pos rfl]
      refine ⟨?_, hd, Nat.le_refl _⟩
      rw [List.getD_eq_getElem?_getD, List.getElem?_set_self (by omega)]; rfl
    · rw [if_neg e]
      obtain ⟨h1, h2, h3⟩ := h.word k hk (by rw [← hD2 k e]; exact hDk)
      refine ⟨?_, h2, by omega⟩
      rw [← h1, List.getD_eq_getElem?_getD, List.getElem?_set_ne (Ne.symm e), List.getD_eq_getElem?_getD]
  · by_cases e : k = i
    · subst e
      rw [if_pos rfl, if_neg (Ne.symm hkj)]
      exact .inr (h.word j hj (by rw [← hD2 j (Ne.symm hkj)]; exact hDj)).2.2
    · by_cases e2 : j = i
      · subst e2
        rw [if_neg e, if_pos rfl]
        exact .inl (h.word k hk (by rw [← hD2 k e]; exact hDk)).2.2
      · rw [if_neg e, if_neg e2]
        exact h.apart k j hk hj hkj (by rw [← hD2 k e]; exact hDk) (by rw [← hD2 j e2]; exact hDj)
  · rw [← h.rest, Nat.add_assoc]
    congr 1
    rw [Nat.add_comm]
    refine (sumL_set (f := fun i => if D i then 0 else 2 ^ (12 - lens.getD i 0)) (g := fun i => if D' i then 0 else 2 ^ (12 - lens.getD i 0)) (k := i) List.nodup_range (List.mem_range.2 hi) (fun j hj => by simp only [hD2 j hj]) ?_).symm
    simp [hD, hD1]
/-- All words are made. -/
theorem MkSt.done {lens : List Nat} {D : Nat → Bool} {next : Nat} {out : List Wd} {a : Nat → Nat} (h : MkSt lens D next out a) (hD : ∀ i, i < lens.length → D i = true) (h1 : ∀ i, i < lens.length → 1 ≤ lens.getD i 0 ∧ lens.getD i 0 ≤ 12) (hn : lens.length ≤ 12) (hK : kr 12 lens ≤ 2 ^ 12) :
    CodeOk out ∧ (∀ i k, i < out.length → k < out.length → i ≠ k → ¬ out.getD i [] <+: out.getD k []) ∧ out.map List.length = lens := by
  have hlen := h.len
  have hlt : next ≤ 2 ^ 12 := by have := h.rest; omega
  have vlt : ∀ i, i < lens.length → a i / 2 ^ (12 - lens.getD i 0) < 2 ^ lens.getD i 0 := fun i hi => by
    obtain ⟨_, h2, h3⟩ := h.word i hi (hD i hi)
    rw [Nat.div_lt_iff_lt_mul (Nat.pow_pos (by decide)), ← Nat.pow_add, Nat.add_sub_cancel' (h1 i hi).2]
    have : 0 < 2 ^ (12 - lens.getD i 0) := Nat.pow_pos (by decide)
    omega
  have np : ∀ i k, i < out.length → k < out.length → i ≠ k → ¬ out.getD i [] <+: out.getD k [] := fun i k hi hk hik hp => by
    rw [hlen] at hi hk
    obtain ⟨wi, di, _⟩ := h.word i hi (hD i hi)
    obtain ⟨wk, dk, _⟩ := h.word k hk (hD k hk)
    rw [wi, wk] at hp
    obtain ⟨hle, he⟩ := bitsL_prefix (vlt i hi) (vlt k hk) hp
    have ha := h.apart i k hi hk hik (hD i hi) (hD k hk)
    have li := h1 i hi
    have lk := h1 k hk
    generalize lens.getD i 0 = n at *
    generalize lens.getD k 0 = m at *
    obtain ⟨vi, ei⟩ := di
    obtain ⟨vk, ek⟩ := dk
    have pi : 0 < 2 ^ (12 - n) := Nat.pow_pos (by decide)
    have pk : 0 < 2 ^ (12 - m) := Nat.pow_pos (by decide)
    rw [ei, ek, Nat.mul_div_cancel_left _ pi, Nat.mul_div_cancel_left _ pk] at he
    have e2 : 2 ^ (12 - n) = 2 ^ (m - n) * 2 ^ (12 - m) := by rw [← Nat.pow_add]; congr 1; omega
    have q1 : vi * 2 ^ (m - n) ≤ vk := by rw [he]; exact Nat.div_mul_le_self _ _
    have q2 : vk < (vi + 1) * 2 ^ (m - n) := by rw [he, Nat.mul_comm]; exact Nat.lt_mul_div_succ _ (Nat.pow_pos (by decide))
    rw [ei, ek, e2] at ha
    have r1 : 2 ^ (m - n) * 2 ^ (12 - m) * vi ≤ 2 ^ (12 - m) * vk := by
      calc 2 ^ (m - n) * 2 ^ (12 - m) * vi = 2 ^ (12 - m) * (vi * 2 ^ (m - n)) := by simp only [Nat.mul_comm, Nat.mul_assoc]
        _ ≤ _ := Nat.mul_le_mul_left _ q1
    have r2 : 2 ^ (12 - m) * vk + 2 ^ (12 - m) ≤ 2 ^ (m - n) * 2 ^ (12 - m) * vi + 2 ^ (m - n) * 2 ^ (12 - m) := by
      calc 2 ^ (12 - m) * vk + 2 ^ (12 - m) = 2 ^ (12 - m) * (vk + 1) := by rw [Nat.mul_add, Nat.mul_one]
        _ ≤ 2 ^ (12 - m) * ((vi + 1) * 2 ^ (m - n)) := Nat.mul_le_mul_left _ q2
        _ = _ := by rw [Nat.add_mul, Nat.mul_add]; simp only [Nat.mul_comm, Nat.mul_assoc, Nat.one_mul]
    omega
  have lens_i : ∀ i, i < lens.length → (out.getD i []).length = lens.getD i 0 := fun i hi => by rw [(h.word i hi (hD i hi)).1, bitsL_len]
  have getE : ∀ i (hi : i < out.length), out.getD i [] = out[i] := fun i hi => by rw [List.getD_eq_getElem?_getD, List.getElem?_eq_getElem hi]; rfl
  have each : ∀ w ∈ out, ∃ i, i < lens.length ∧ w = out.getD i [] := fun w hw => by
    obtain ⟨i, hi, rfl⟩ := List.getElem_of_mem hw
    exact ⟨i, by omega, (getE i hi).symm⟩
  refine ⟨⟨by omega, fun w hw => ?_, fun w hw => ?_, fun w hw => ?_, ?_⟩, np, ?_⟩
  · obtain ⟨i, hi, rfl⟩ := each w hw
    intro e
    have := lens_i i hi
    rw [e] at this
    have := (h1 i hi).1
    simp at *
    omega
  · obtain ⟨i, hi, rfl⟩ := each w hw
    rw [lens_i i hi]; exact (h1 i hi).2
  · obtain ⟨i, hi, rfl⟩ := each w hw
    rw [(h.word i hi (hD i hi)).1]; exact bitsL_bin _ _
  · refine List.pairwise_iff_getElem.2 fun i j hi hj hij e => ?_
    refine np i j hi hj (by omega) ?_
    rw [getE i hi, getE j hj, e]
    exact List.prefix_refl _
  · refine List.ext_getElem (by simpa using hlen) fun i hi _ => ?_
    have hi' : i < out.length := by simpa using hi
    rw [List.getElem_map, ← getE i hi', lens_i i (by omega), List.getD_eq_getElem?_getD, List.getElem?_eq_getElem (by omega)]
    rfl
end Go.Proofs.YtlnobikecmgocaaDoor
