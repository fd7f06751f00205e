/- Plain laws of the checksum: it is linear over the bitwise sum; an error of at most thirty-two bits in a row is told. -/
import Derived.Test.YtigbnldmjafgmaaDoorSum
namespace Go.Proofs.YtigbnldmjafgmaaDoor

theorem div2_xor (x y : Nat) : (x ^^^ y) / 2 = (x / 2) ^^^ (y / 2) := by
  exact Nat.xor_div_two
theorem mod2_xor (x y : Nat) : (x ^^^ y) % 2 = (x % 2 + y % 2) % 2 := by
  have := @Nat.xor_mod_two_pow x y 1
  simp only [Nat.pow_one] at this
  rw [this]
  rcases Nat.mod_two_eq_zero_or_one x with e | e <;> rcases Nat.mod_two_eq_zero_or_one y with f | f <;> rw [e, f] <;> rfl
theorem mul_xor (k x y : Nat) : 2 ^ k * (x ^^^ y) = (2 ^ k * x) ^^^ (2 ^ k * y) := by
  have := @Nat.shiftLeft_xor_distrib k x y
  simpa only [Nat.shiftLeft_eq, Nat.mul_comm] using this
theorem st_xor (x y : Nat) : st (x ^^^ y) = st x ^^^ st y := by
  unfold st
  rw [div2_xor, mod2_xor]
  rcases Nat.mod_two_eq_zero_or_one x with e | e <;> rcases Nat.mod_two_eq_zero_or_one y with f | f <;> rw [e, f] <;> simp
  · rw [← Nat.xor_assoc]
  · rw [Nat.xor_assoc, Nat.xor_comm (y / 2), ← Nat.xor_assoc]
  · rw [Nat.xor_assoc, ← Nat.xor_assoc 2197175160, Nat.xor_comm 2197175160 (y / 2), Nat.xor_assoc (y / 2), Nat.xor_self, Nat.xor_zero]
theorem stn_xor : ∀ (k x y : Nat), stn k (x ^^^ y) = stn k x ^^^ stn k y
  | 0, _, _ => rfl
  | k + 1, x, y => by show st _ = st _ ^^^ st _; rw [stn_xor k, st_xor]
theorem stn_add (j : Nat) : ∀ (k x : Nat), stn (k + j) x = stn k (stn j x)
  | 0, x => by rw [Nat.zero_add]; rfl
  | k + 1, x => by rw [Nat.add_right_comm]; show st _ = st _; rw [stn_add j k]
theorem upd_three (x y z : Nat) (a b c : UInt8) : upd (x ^^^ (y ^^^ z)) (a ^^^ (b ^^^ c)) = upd x a ^^^ (upd y b ^^^ upd z c) := by
  unfold upd
  rw [← stn_xor, ← stn_xor, UInt8.toNat_xor, UInt8.toNat_xor]
  congr 1
  ac_rfl

/-- Three lists taken together, place by place. -/
def xor3 : List UInt8 → List UInt8 → List UInt8 → List UInt8
  | a :: l, b :: m, c :: n => (a ^^^ (b ^^^ c)) :: xor3 l m n
  | _, _, _ => []

theorem fold_three : ∀ (l m n : List UInt8) (x y z : Nat), l.length = m.length → l.length = n.length →
    (xor3 l m n).foldl upd (x ^^^ (y ^^^ z)) = l.foldl upd x ^^^ (m.foldl upd y ^^^ n.foldl upd z)
  | [], [], [], _, _, _, _, _ => rfl
  | a :: l, b :: m, c :: n, x, y, z, h1, h2 => by
    simp only [xor3, List.foldl_cons]
    rw [upd_three]
    exact fold_three l m n _ _ _ (by simpa using h1) (by simpa using h2)
  | [], _ :: _, _, _, _, _, h, _ => by simp at h
  | [], [], _ :: _, _, _, _, _, h => by simp at h
  | _ :: _, [], _, _, _, _, h, _ => by simp at h
  | _ :: _, _ :: _, [], _, _, _, _, h => by simp at h

theorem sumOf_three (l m n : List UInt8) (h1 : l.length = m.length) (h2 : l.length = n.length) :
    sumOf (xor3 l m n) = sumOf l ^^^ sumOf m ^^^ sumOf n := by
  unfold sumOf
  have := fold_three l m n 4294967295 4294967295 4294967295 h1 h2
  rw [show (4294967295 ^^^ (4294967295 ^^^ 4294967295) : Nat) = 4294967295 from by decide] at this
  rw [this]
  generalize l.foldl upd 4294967295 = X
  generalize m.foldl upd 4294967295 = Y
  generalize n.foldl upd 4294967295 = Z
  apply Nat.eq_of_testBit_eq
  intro i
  simp only [Nat.testBit_xor]
  cases Nat.testBit 4294967295 i <;> cases X.testBit i <;> cases Y.testBit i <;> cases Z.testBit i <;> rfl

theorem xor3_at : ∀ (a b c : List UInt8) (n j : Nat), n ≤ a.length → n ≤ b.length → n ≤ c.length → j < n →
    (xor3 (a.take n) (b.take n) (c.take n))[j]? = some (a.getD j 0 ^^^ (b.getD j 0 ^^^ c.getD j 0))
  | [], _, _, n, j, h, _, _, hj => by simp at h; omega
  | _ :: _, [], _, n, j, _, h, _, hj => by simp at h; omega
  | _ :: _, _ :: _, [], n, j, _, _, h, hj => by simp at h; omega
  | a :: l, b :: m, c :: k, n + 1, 0, _, _, _, _ => by simp [xor3]
  | a :: l, b :: m, c :: k, n + 1, j + 1, h1, h2, h3, hj => by
    have := xor3_at l m k n j (by simpa using h1) (by simpa using h2) (by simpa using h3) (by omega)
    simpa [xor3] using this
  | _ :: _, _ :: _, _ :: _, 0, _, _, _, _, hj => by omega
theorem xor3_length : ∀ (a b c : List UInt8), a.length = b.length → a.length = c.length → (xor3 a b c).length = a.length
  | [], _, _, _, _ => by simp [xor3]
  | a :: l, [], _, h, _ => by simp at h
  | a :: l, b :: m, [], _, h => by simp at h
  | a :: l, b :: m, c :: n, h1, h2 => by simp [xor3, xor3_length l m n (by simpa using h1) (by simpa using h2)]

/-! The burst: the whole text as one number, its first byte lowest. -/
def num : List UInt8 → Nat
  | [] => 0
  | c :: l => c.toNat ^^^ (256 * num l)

theorem st_two (x : Nat) : st (2 * x) = x := by
  unfold st
  rw [show 2 * x / 2 = x from by omega, show 2 * x % 2 = 0 from by omega]
  simp
theorem stn_two_pow : ∀ (k x : Nat), stn k (2 ^ k * x) = x
  | 0, x => by simp [stn]
  | k + 1, x => by
    have : stn (k + 1) (2 ^ (k + 1) * x) = stn k (stn 1 (2 * (2 ^ k * x))) := by
      rw [← stn_add 1 k, Nat.pow_succ, Nat.mul_right_comm, Nat.mul_comm _ 2]
    rw [this]
    show stn k (st (2 * (2 ^ k * x))) = x
    rw [st_two, stn_two_pow k]
theorem fold_num : ∀ (l : List UInt8) (x : Nat), l.foldl upd x = stn (8 * l.length) (x ^^^ num l)
  | [], x => by simp [stn, num]
  | c :: l, x => by
    simp only [List.foldl_cons, num, List.length_cons]
    rw [fold_num l, Nat.mul_add, stn_add 8 (8 * l.length)]
    congr 1
    rw [← Nat.xor_assoc, stn_xor]
    unfold upd
    rw [show 256 * num l = 2 ^ 8 * num l from rfl, stn_two_pow 8]

theorem st_inj (x : Nat) (h : x < 4294967296) (h0 : st x = 0) : x = 0 := by
  unfold st at h0
  rcases Nat.mod_two_eq_zero_or_one x with e | e
  · rw [e] at h0; simp at h0; omega
  · rw [e] at h0
    have h1 : x / 2 = 2197175160 := by
      have := congrArg (fun z => z ^^^ 2197175160) h0
      simp only [Nat.one_mul, Nat.xor_assoc, Nat.xor_self, Nat.xor_zero, Nat.zero_xor] at this
      exact this
    omega
theorem stn_inj : ∀ (k x : Nat), x < 4294967296 → stn k x = 0 → x = 0
  | 0, _, _, h => h
  | k + 1, x, h, h0 => stn_inj k x h (st_inj _ (stn_lt k x h) h0)

theorem num_set : ∀ (l : List UInt8) (j : Nat) (c : UInt8), j < l.length → num (l.set j (l.getD j 0 ^^^ c)) = num l ^^^ (256 ^ j * c.toNat)
  | [], _, _, h => by simp at h
  | a :: l, 0, c, _ => by
    simp only [List.set_cons_zero, List.getD_cons_zero, num, UInt8.toNat_xor, Nat.pow_zero, Nat.one_mul]
    rw [Nat.xor_assoc, Nat.xor_comm c.toNat, ← Nat.xor_assoc]
  | a :: l, j + 1, c, h => by
    simp only [List.set_cons_succ, List.getD_cons_succ, num]
    rw [num_set l j c (by simpa using h), show (256 : Nat) = 2 ^ 8 from rfl, mul_xor, ← Nat.xor_assoc]
    congr 1
    generalize (2 : Nat) ^ 8 = q
    rw [Nat.pow_succ, ← Nat.mul_assoc, Nat.mul_comm q]

theorem byte_xor (a b : Nat) (h : a < 256) : a ^^^ (256 * b) = a + 256 * b := by
  have := @Nat.two_pow_add_eq_or_of_lt 8 a h b
  rw [Nat.add_comm, show (256 : Nat) = 2 ^ 8 from rfl, this]
  apply Nat.eq_of_testBit_eq
  intro i
  simp only [Nat.testBit_xor, Nat.testBit_or, Nat.testBit_two_pow_mul]
  by_cases hi : 8 ≤ i
  · have : a.testBit i = false := Nat.testBit_lt_two_pow (Nat.lt_of_lt_of_le h (Nat.pow_le_pow_right (n := 2) (by decide) hi))
    simp [this]
  · simp [hi]
theorem num_cons (c : UInt8) (l : List UInt8) : num (c :: l) = c.toNat + 256 * num l := byte_xor _ _ c.toNat_lt
theorem bytes4_num (x : Nat) (h : x < 4294967296) : num (bytes4 x) = x := by
  unfold bytes4
  rw [num_cons, num_cons, num_cons, num_cons]
  simp only [num, UInt8.toNat_ofNat']
  omega
theorem bytes4_length (x : Nat) : (bytes4 x).length = 4 := rfl
theorem num_append : ∀ (l m : List UInt8), num (l ++ m) = num l ^^^ (2 ^ (8 * l.length) * num m)
  | [], m => by simp [num]
  | c :: l, m => by
    simp only [List.cons_append, num, List.length_cons]
    rw [num_append l m, show (256 : Nat) = 2 ^ 8 from rfl, mul_xor, ← Nat.xor_assoc, Nat.mul_add, Nat.pow_add, Nat.mul_one]
    generalize (2 : Nat) ^ 8 = q
    generalize (2 : Nat) ^ (8 * l.length) = r
    rw [← Nat.mul_assoc, Nat.mul_comm q r]

/-- What a right text's register ends at. -/
theorem right_raw (l : List UInt8) (h : rightOf l = true) : l.foldl upd 4294967295 = stn 32 4294967295 := by
  unfold rightOf at h
  simp only [Bool.and_eq_true, decide_eq_true_eq, beq_iff_eq] at h
  obtain ⟨h4, h⟩ := h
  have e : l = l.take (l.length - 4) ++ bytes4 (sumOf (l.take (l.length - 4))) := by rw [h, List.take_append_drop]
  generalize l.take (l.length - 4) = m at e
  rw [e, List.foldl_append, fold_num (bytes4 _), bytes4_num _ (sumOf_lt m), bytes4_length]
  unfold sumOf
  congr 1
  rw [Nat.xor_comm, Nat.xor_assoc, Nat.xor_self, Nat.xor_zero]

theorem right_made (m : List UInt8) : rightOf (m ++ bytes4 (sumOf m)) = true := by
  unfold rightOf
  simp [bytes4_length]

/-- Two right texts of one length that differ by a burst are the same. -/
theorem burst_told (l b : List UInt8) (hl : rightOf l = true) (hlen : b.length = l.length) (at_ bits : Nat) (hb : bits < 4294967296) (h0 : bits ≠ 0) (hat : at_ + 32 ≤ 8 * l.length)
    (hd : num b = num l ^^^ (2 ^ at_ * bits)) : rightOf b = false := by
  cases hr : rightOf b
  · rfl
  · exfalso
    have e1 := right_raw l hl
    have e2 := right_raw b hr
    rw [fold_num] at e1 e2
    rw [hlen, hd, ← Nat.xor_assoc, stn_xor, e1] at e2
    have e3 : stn (8 * l.length) (2 ^ at_ * bits) = 0 := by
      have := congrArg (fun z => stn 32 4294967295 ^^^ z) e2
      simp only [← Nat.xor_assoc, Nat.xor_self, Nat.zero_xor] at this
      exact this
    obtain ⟨k, hk⟩ : ∃ k, 8 * l.length = k + at_ := ⟨8 * l.length - at_, by omega⟩
    rw [hk, stn_add, stn_two_pow] at e3
    exact h0 (stn_inj k bits hb e3)

end Go.Proofs.YtigbnldmjafgmaaDoor
