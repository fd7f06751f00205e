import Derived.Test.YtaogegpfapfchaaGreatDoorDeskM02
import Derived.Test.YtaogegpfapfchaaGreatDoorDeskM01
import Derived.Test.YtaogegpfapfchaaGreatDoorRows
import Derived.Deep.RegionHeld3
import Derived.Deep.QuietTactic
import Derived.BigQuiet
import Derived.Lib.Strings
import Derived.Lib.IndexBytes
import Derived.WalkSmall
/- Several texts in one: XSumLaw XLogP XLeafP XSumWalk. -/
/- Plain laws of the checksum: it is linear over the bitwise sum; an error of at most thirty-two bits in a row is told. -/
namespace Go.Proofs.YtaogegpfapfchaaGreatDoor

theorem div2_xor (x y : Nat) : (x ^^^ y) / 2 = (x / 2) ^^^ (y / 2) := by
  exact Nat.xor_div_two
theorem mod2_xor (x y : Nat) : (x ^^^ y) % 2 = (x % 2 + y % 2) % 2 := by
  have := @Nat.xor_mod_two_pow x y 1
  simp only [Nat.pow_one] at this
  rw [this]
  rcases Nat.mod_two_eq_zero_or_one x with e | e <;> rcases Nat.mod_two_eq_zero_or_one y with f | f <;> rw [e, f] <;> rfl
theorem mul_xor (k x y : Nat) : 2 ^ k * (x ^^^ y) = (2 ^ k * x) ^^^ (2 ^ k * y) := by
  have := @Nat.shiftLeft_xor_distrib k x y
  simpa only [Nat.shiftLeft_eq, Nat.mul_comm] using this
theorem st_xor (x y : Nat) : st (x ^^^ y) = st x ^^^ st y := by
  unfold st
  rw [div2_xor, mod2_xor]
  rcases Nat.mod_two_eq_zero_or_one x with e | e <;> rcases Nat.mod_two_eq_zero_or_one y with f | f <;> rw [e, f] <;> simp
  · rw [← Nat.xor_assoc]
  · rw [Nat.xor_assoc, Nat.xor_comm (y / 2), ← Nat.xor_assoc]
  · rw [Nat.xor_assoc, ← Nat.xor_assoc 2197175160, Nat.xor_comm 2197175160 (y / 2), Nat.xor_assoc (y / 2), Nat.xor_self, Nat.xor_zero]
theorem stn_xor : ∀ (k x y : Nat), stn k (x ^^^ y) = stn k x ^^^ stn k y
  | 0, _, _ => rfl
  | k + 1, x, y => by show st _ = st _ ^^^ st _; rw [stn_xor k, st_xor]
theorem stn_add (j : Nat) : ∀ (k x : Nat), stn (k + j) x = stn k (stn j x)
  | 0, x => by rw [Nat.zero_add]; rfl
  | k + 1, x => by rw [Nat.add_right_comm]; show st _ = st _; rw [stn_add j k]
theorem upd_three (x y z : Nat) (a b c : UInt8) : upd (x ^^^ (y ^^^ z)) (a ^^^ (b ^^^ c)) = upd x a ^^^ (upd y b ^^^ upd z c) := by
  unfold upd
  rw [← stn_xor, ← stn_xor, UInt8.toNat_xor, UInt8.toNat_xor]
  congr 1
  ac_rfl

/-- Three lists taken together, place by place. -/
def xor3 : List UInt8 → List UInt8 → List UInt8 → List UInt8
  | a :: l, b :: m, c :: n => (a ^^^ (b ^^^ c)) :: xor3 l m n
  | _, _, _ => []

theorem fold_three : ∀ (l m n : List UInt8) (x y z : Nat), l.length = m.length → l.length = n.length →
    (xor3 l m n).foldl upd (x ^^^ (y ^^^ z)) = l.foldl upd x ^^^ (m.foldl upd y ^^^ n.foldl upd z)
  | [], [], [], _, _, _, _, _ => rfl
  | a :: l, b :: m, c :: n, x, y, z, h1, h2 => by
    simp only [xor3, List.foldl_cons]
    rw [upd_three]
    exact fold_three l m n _ _ _ (by simpa using h1) (by simpa using h2)
  | [], _ :: _, _, _, _, _, h, _ => by simp at h
  | [], [], _ :: _, _, _, _, _, h => by simp at h
  | _ :: _, [], _, _, _, _, h, _ => by simp at h
  | _ :: _, _ :: _, [], _, _, _, _, h => by simp at h

theorem sumOf_three (l m n : List UInt8) (h1 : l.length = m.length) (h2 : l.length = n.length) :
    sumOf (xor3 l m n) = sumOf l ^^^ sumOf m ^^^ sumOf n := by
  unfold sumOf
  have := fold_three l m n 4294967295 4294967295 4294967295 h1 h2
  rw [show (4294967295 ^^^ (4294967295 ^^^ 4294967295) : Nat) = 4294967295 from by decide] at this
  rw [this]
  generalize l.foldl upd 4294967295 = X
  generalize m.foldl upd 4294967295 = Y
  generalize n.foldl upd 4294967295 = Z
  apply Nat.eq_of_testBit_eq
  intro i
  simp only [Nat.testBit_xor]
  cases Nat.testBit 4294967295 i <;> cases X.testBit i <;> cases Y.testBit i <;> cases Z.testBit i <;> rfl

theorem xor3_at : ∀ (a b c : List UInt8) (n j : Nat), n ≤ a.length → n ≤ b.length → n ≤ c.length → j < n →
    (xor3 (a.take n) (b.take n) (c.take n))[j]? = some (a.getD j 0 ^^^ (b.getD j 0 ^^^ c.getD j 0))
  | [], _, _, n, j, h, _, _, hj => by simp at h; omega
  | _ :: _, [], _, n, j, _, h, _, hj => by simp at h; omega
  | _ :: _, _ :: _, [], n, j, _, _, h, hj => by simp at h; omega
  | a :: l, b :: m, c :: k, n + 1, 0, _, _, _, _ => by simp [xor3]
  | a :: l, b :: m, c :: k, n + 1, j + 1, h1, h2, h3, hj => by
    have := xor3_at l m k n j (by simpa using h1) (by simpa using h2) (by simpa using h3) (by omega)
    simpa [xor3] using this
  | _ :: _, _ :: _, _ :: _, 0, _, _, _, _, hj => by omega
theorem xor3_length : ∀ (a b c : List UInt8), a.length = b.length → a.length = c.length → (xor3 a b c).length = a.length
  | [], _, _, _, _ => by simp [xor3]
  | a :: l, [], _, h, _ => by simp at h
  | a :: l, b :: m, [], _, h => by simp at h
  | a :: l, b :: m, c :: n, h1, h2 => by simp [xor3, xor3_length l m n (by simpa using h1) (by simpa using h2)]

/-! The burst: the whole text as one number, its first byte lowest. -/
def num : List UInt8 → Nat
  | [] => 0
  | c :: l => c.toNat ^^^ (256 * num l)

theorem st_two (x : Nat) : st (2 * x) = x := by
  unfold st
  rw [show 2 * x / 2 = x from by omega, show 2 * x % 2 = 0 from by omega]
  simp
theorem stn_two_pow : ∀ (k x : Nat), stn k (2 ^ k * x) = x
  | 0, x => by simp [stn]
  | k + 1, x => by
    have : stn (k + 1) (2 ^ (k + 1) * x) = stn k (stn 1 (2 * (2 ^ k * x))) := by
      rw [← stn_add 1 k, Nat.pow_succ, Nat.mul_right_comm, Nat.mul_comm _ 2]
    rw [this]
    show stn k (st (2 * (2 ^ k * x))) = x
    rw [st_two, stn_two_pow k]
theorem fold_num : ∀ (l : List UInt8) (x : Nat), l.foldl upd x = stn (8 * l.length) (x ^^^ num l)
  | [], x => by simp [stn, num]
  | c :: l, x => by
    simp only [List.foldl_cons, num, List.length_cons]
    rw [fold_num l, Nat.mul_add, stn_add 8 (8 * l.length)]
    congr 1
    rw [← Nat.xor_assoc, stn_xor]
    unfold upd
    rw [show 256 * num l = 2 ^ 8 * num l from rfl, stn_two_pow 8]

theorem st_inj (x : Nat) (h : x < 4294967296) (h0 : st x = 0) : x = 0 := by
  unfold st at h0
  rcases Nat.mod_two_eq_zero_or_one x with e | e
  · rw [e] at h0; simp at h0; omega
  · rw [e] at h0
    have h1 : x / 2 = 2197175160 := by
      have := congrArg (fun z => z ^^^ 2197175160) h0
      simp only [Nat.one_mul, Nat.xor_assoc, Nat.xor_self, Nat.xor_zero, Nat.zero_xor] at this
      exact this
    omega
theorem stn_inj : ∀ (k x : Nat), x < 4294967296 → stn k x = 0 → x = 0
  | 0, _, _, h => h
  | k + 1, x, h, h0 => stn_inj k x h (st_inj _ (stn_lt k x h) h0)

theorem num_set : ∀ (l : List UInt8) (j : Nat) (c : UInt8), j < l.length → num (l.set j (l.getD j 0 ^^^ c)) = num l ^^^ (256 ^ j * c.toNat)
  | [], _, _, h => by simp at h
  | a :: l, 0, c, _ => by
    simp only [List.set_cons_zero, List.getD_cons_zero, num, UInt8.toNat_xor, Nat.pow_zero, Nat.one_mul]
    rw [Nat.xor_assoc, Nat.xor_comm c.toNat, ← Nat.xor_assoc]
  | a :: l, j + 1, c, h => by
    simp only [List.set_cons_succ, List.getD_cons_succ, num]
    rw [num_set l j c (by simpa using h), show (256 : Nat) = 2 ^ 8 from rfl, mul_xor, ← Nat.xor_assoc]
    congr 1
    generalize (2 : Nat) ^ 8 = q
    rw [Nat.pow_succ, ← Nat.mul_assoc, Nat.mul_comm q]

theorem byte_xor (a b : Nat) (h : a < 256) : a ^^^ (256 * b) = a + 256 * b := by
  have := @Nat.two_pow_add_eq_or_of_lt 8 a h b
  rw [Nat.add_comm, show (256 : Nat) = 2 ^ 8 from rfl, this]
  apply Nat.eq_of_testBit_eq
  intro i
  simp only [Nat.testBit_xor, Nat.testBit_or, Nat.testBit_two_pow_mul]
  by_cases hi : 8 ≤ i
  · have : a.testBit i = false := Nat.testBit_lt_two_pow (Nat.lt_of_lt_of_le h (Nat.pow_le_pow_right (n := 2) (by decide) hi))
    simp [this]
  · simp [hi]
theorem num_cons (c : UInt8) (l : List UInt8) : num (c :: l) = c.toNat + 256 * num l := byte_xor _ _ c.toNat_lt
theorem bytes4_num (x : Nat) (h : x < 4294967296) : num (bytes4 x) = x := by
  unfold bytes4
  rw [num_cons, num_cons, num_cons, num_cons]
  simp only [num, UInt8.toNat_ofNat']
  omega
theorem bytes4_length (x : Nat) : (bytes4 x).length = 4 := rfl
theorem num_append : ∀ (l m : List UInt8), num (l ++ m) = num l ^^^ (2 ^ (8 * l.length) * num m)
  | [], m => by simp [num]
  | c :: l, m => by
    simp only [List.cons_append, num, List.length_cons]
    rw [num_append l m, show (256 : Nat) = 2 ^ 8 from rfl, mul_xor, ← Nat.xor_assoc, Nat.mul_add, Nat.pow_add, Nat.mul_one]
    generalize (2 : Nat) ^ 8 = q
    generalize (2 : Nat) ^ (8 * l.length) = r
    rw [← Nat.mul_assoc, Nat.mul_comm q r]

/-- What a right text's register ends at. -/
theorem right_raw (l : List UInt8) (h : rightOf l = true) : l.foldl upd 4294967295 = stn 32 4294967295 := by
  unfold rightOf at h
  simp only [Bool.and_eq_true, decide_eq_true_eq, beq_iff_eq] at h
  obtain ⟨h4, h⟩ := h
  have e : l = l.take (l.length - 4) ++ bytes4 (sumOf (l.take (l.length - 4))) := by rw [h, List.take_append_drop]
  generalize l.take (l.length - 4) = m at e
  rw [e, List.foldl_append, fold_num (bytes4 _), bytes4_num _ (sumOf_lt m), bytes4_length]
  unfold sumOf
  congr 1
  rw [Nat.xor_comm, Nat.xor_assoc, Nat.xor_self, Nat.xor_zero]

theorem right_made (m : List UInt8) : rightOf (m ++ bytes4 (sumOf m)) = true := by
  unfold rightOf
  simp [bytes4_length]

/-- Two right texts of one length that differ by a burst are the same. -/
theorem burst_told (l b : List UInt8) (hl : rightOf l = true) (hlen : b.length = l.length) (at_ bits : Nat) (hb : bits < 4294967296) (h0 : bits ≠ 0) (hat : at_ + 32 ≤ 8 * l.length)
    (hd : num b = num l ^^^ (2 ^ at_ * bits)) : rightOf b = false := by
  cases hr : rightOf b
  · rfl
  · exfalso
    have e1 := right_raw l hl
    have e2 := right_raw b hr
    rw [fold_num] at e1 e2
    rw [hlen, hd, ← Nat.xor_assoc, stn_xor, e1] at e2
    have e3 : stn (8 * l.length) (2 ^ at_ * bits) = 0 := by
      have := congrArg (fun z => stn 32 4294967295 ^^^ z) e2
      simp only [← Nat.xor_assoc, Nat.xor_self, Nat.zero_xor] at this
      exact this
    obtain ⟨k, hk⟩ : ∃ k, 8 * l.length = k + at_ := ⟨8 * l.length - at_, by omega⟩
    rw [hk, stn_add, stn_two_pow] at e3
    exact h0 (stn_inj k bits hb e3)

end Go.Proofs.YtaogegpfapfchaaGreatDoor

/- Plain: records in frames, one behind the other, and what a scan tells. -/
namespace Go.Proofs.YtaogegpfapfchaaGreatDoor
set_option linter.unusedVariables false

def hdrL (n : Nat) : List UInt8 := [UInt8.ofNat (n / 256), UInt8.ofNat (n % 256)]
def frameL (r : List UInt8) : List UInt8 := (hdrL r.length ++ r) ++ bytes4 (sumOf (hdrL r.length ++ r))
theorem frame_len (r : List UInt8) : (frameL r).length = r.length + 6 := by
  unfold frameL hdrL; simp [bytes4_length]
/-- The first record of a text, if a whole one stands there. -/
def takeR (t : List UInt8) : Option (List UInt8) :=
  if 6 ≤ t.length ∧ (t.getD 0 0).toNat * 256 + (t.getD 1 0).toNat ≤ 1100 ∧ (t.getD 0 0).toNat * 256 + (t.getD 1 0).toNat + 6 ≤ t.length ∧ rightOf (t.take ((t.getD 0 0).toNat * 256 + (t.getD 1 0).toNat + 6)) = true
  then some ((t.drop 2).take ((t.getD 0 0).toNat * 256 + (t.getD 1 0).toNat)) else none
theorem takeR_some {t r : List UInt8} (h : takeR t = some r) : r.length ≤ 1100 ∧ r.length + 6 ≤ t.length ∧ (t.getD 0 0).toNat * 256 + (t.getD 1 0).toNat = r.length ∧ rightOf (t.take (r.length + 6)) = true ∧ r = (t.drop 2).take r.length := by
  unfold takeR at h
  split at h
  · rename_i hc
    injection h with h
    have hl : r.length = (t.getD 0 0).toNat * 256 + (t.getD 1 0).toNat := by rw [← h, List.length_take, List.length_drop]; omega
    rw [hl]
    exact ⟨hc.2.1, hc.2.2.1, rfl, hc.2.2.2, h.symm⟩
  · cases h
theorem hdr_num {n : Nat} (h : n ≤ 1100) : (UInt8.ofNat (n / 256)).toNat * 256 + (UInt8.ofNat (n % 256)).toNat = n := by
  rw [UInt8.toNat_ofNat', UInt8.toNat_ofNat']; omega
theorem frame_head (r rest : List UInt8) : (frameL r ++ rest).getD 0 0 = UInt8.ofNat (r.length / 256) ∧ (frameL r ++ rest).getD 1 0 = UInt8.ofNat (r.length % 256) := ⟨rfl, rfl⟩
theorem takeR_frame (r rest : List UInt8) (h : r.length ≤ 1100) : takeR (frameL r ++ rest) = some r := by
  have hl := frame_len r
  obtain ⟨h0, h1⟩ := frame_head r rest
  unfold takeR
  rw [h0, h1, hdr_num h, if_pos]
  · congr 1
    unfold frameL hdrL
    simp
  · refine ⟨by rw [List.length_append]; omega, h, by rw [List.length_append]; omega, ?_⟩
    rw [List.take_append_of_le_length (by omega), List.take_of_length_le (by omega)]
    exact right_made _
theorem takeR_cut (r rest : List UInt8) (k : Nat) (h : r.length ≤ 1100) (hk : k < r.length + 6) : takeR ((frameL r ++ rest).take k) = none := by
  have hl := frame_len r
  unfold takeR
  rw [if_neg]
  rintro ⟨c1, c2, c3, c4⟩
  rw [List.length_take] at c1 c3
  obtain ⟨h0, h1⟩ := frame_head r rest
  rw [getD_take _ _ _ _ (by omega), getD_take _ _ _ _ (by omega), h0, h1, hdr_num h] at c3
  omega
/-- A record that stands there is framed there. -/
theorem takeR_is {t r : List UInt8} (h : takeR t = some r) : t.take (r.length + 6) = frameL r := by
  obtain ⟨h1, h2, h3, h4, h5⟩ := takeR_some h
  have hL : (t.take (r.length + 6)).length = r.length + 6 := by rw [List.length_take]; omega
  unfold rightOf at h4
  rw [Bool.and_eq_true, beq_iff_eq, hL, Nat.add_sub_assoc (by omega : 4 ≤ 6)] at h4
  rcases t with _ | ⟨a, _ | ⟨b, t⟩⟩
  · simp at h2
  · simp at h2
  · simp only [List.getD_cons_zero, List.getD_cons_succ] at h3
    have ha := a.toNat_lt
    have hb := b.toNat_lt
    have ea : a = UInt8.ofNat (r.length / 256) := UInt8.toNat_inj.1 (by rw [UInt8.toNat_ofNat']; omega)
    have eb : b = UInt8.ofNat (r.length % 256) := UInt8.toNat_inj.1 (by rw [UInt8.toNat_ofNat']; omega)
    have h6 : (a :: b :: t).take (r.length + (6 - 4)) = hdrL r.length ++ r := by
      show (a :: b :: t).take (r.length + 2) = _
      rw [List.take_succ_cons, List.take_succ_cons, ea, eb]
      unfold hdrL
      simp only [List.cons_append, List.nil_append]
      congr 2
      conv => rhs; rw [h5]
      rfl
    have h7 : ((a :: b :: t).take (r.length + 6)).take (r.length + (6 - 4)) = (a :: b :: t).take (r.length + (6 - 4)) := by
      rw [List.take_take]; congr 1; omega
    have e := List.take_append_drop (r.length + (6 - 4)) ((a :: b :: t).take (r.length + 6))
    rw [← e, ← h4.2, h7, h6]
    rfl

inductive Scans : List UInt8 → List (List UInt8) → Nat → Prop
  | stop {t : List UInt8} : takeR t = none → Scans t [] 0
  | step {t r : List UInt8} {L : List (List UInt8)} {n : Nat} : takeR t = some r → Scans (t.drop (r.length + 6)) L n → Scans t (r :: L) (r.length + 6 + n)
theorem scans_total : ∀ (N : Nat) (t : List UInt8), t.length ≤ N → ∃ L n, Scans t L n
  | N, t, hN => by
    cases h : takeR t with
    | none => exact ⟨[], 0, .stop h⟩
    | some r =>
      obtain ⟨_, h2, _⟩ := takeR_some h
      cases N with
      | zero => omega
      | succ N =>
        obtain ⟨L, n, hL⟩ := scans_total N (t.drop (r.length + 6)) (by rw [List.length_drop]; omega)
        exact ⟨r :: L, r.length + 6 + n, .step h hL⟩
theorem scans_one {t : List UInt8} {L M : List (List UInt8)} {n m : Nat} (h : Scans t L n) (h2 : Scans t M m) : L = M ∧ n = m := by
  induction h generalizing M m with
  | stop h0 =>
    cases h2 with
    | stop _ => exact ⟨rfl, rfl⟩
    | step h1 _ => rw [h0] at h1; cases h1
  | step h0 _ ih =>
    cases h2 with
    | stop h1 => rw [h0] at h1; cases h1
    | step h1 hs =>
      rw [h0] at h1
      injection h1 with h1
      subst h1
      obtain ⟨e1, e2⟩ := ih hs
      exact ⟨by rw [e1], by rw [e2]⟩
theorem scans_bound {t : List UInt8} {L : List (List UInt8)} {n : Nat} (h : Scans t L n) : n ≤ t.length ∧ L.length * 6 ≤ n ∧ (∀ r ∈ L, r.length ≤ 1100) := by
  induction h with
  | stop _ => exact ⟨Nat.zero_le _, Nat.zero_le _, by simp⟩
  | step h0 _ ih =>
    obtain ⟨h1, h2, _⟩ := takeR_some h0
    rw [List.length_drop] at ih
    refine ⟨by omega, by rw [List.length_cons]; omega, fun x hx => ?_⟩
    rcases List.mem_cons.1 hx with rfl | hx
    · exact h1
    · exact ih.2.2 x hx
/-- All frames, one behind the other. -/
def framesL (l : List (List UInt8)) : List UInt8 := (l.map frameL).flatten
theorem frames_cons (r : List UInt8) (l : List (List UInt8)) : framesL (r :: l) = frameL r ++ framesL l := by simp [framesL]
theorem frames_snoc (l : List (List UInt8)) (r : List UInt8) : framesL (l ++ [r]) = framesL l ++ frameL r := by simp [framesL]
theorem frames_app (l m : List (List UInt8)) : framesL (l ++ m) = framesL l ++ framesL m := by simp [framesL]
theorem frames_take_le (l : List (List UInt8)) (k : Nat) : (framesL (l.take k)).length ≤ (framesL l).length := by
  have h := congrArg List.length (frames_app (l.take k) (l.drop k))
  rw [List.take_append_drop, List.length_append] at h
  omega
/-- Of records in frames, cut off anywhere, those are told that are whole. -/
theorem scans_frames : ∀ (l : List (List UInt8)) (rest : List UInt8) (k w : Nat), (∀ r ∈ l, r.length ≤ 1100) → k ≤ (framesL l).length → w ≤ l.length → (framesL (l.take w)).length ≤ k → (w < l.length → k < (framesL (l.take (w + 1))).length) →
    Scans ((framesL l).take k) (l.take w) (framesL (l.take w)).length
  | [], rest, k, w, _, hk, _, _, _ => by
    have : (framesL ([] : List (List UInt8))).take k = [] := by simp [framesL]
    rw [this, List.take_nil]
    exact .stop (by unfold takeR; rw [if_neg (by simp)])
  | r :: l, rest, k, 0, hl, hk, _, _, hw => by
    have hr := hl r List.mem_cons_self
    have h1 := hw (by simp)
    rw [List.take_zero]
    refine .stop ?_
    rw [frames_cons]
    refine takeR_cut r _ k hr ?_
    rw [show (r :: l).take (0 + 1) = [r] from rfl] at h1
    have : (framesL [r]).length = r.length + 6 := by simp [framesL, frame_len]
    omega
  | r :: l, rest, k, w + 1, hl, hk, hwl, h1, hw => by
    have hr := hl r List.mem_cons_self
    have eL : (framesL (r :: l.take w)).length = r.length + 6 + (framesL (l.take w)).length := by rw [frames_cons, List.length_append, frame_len]
    rw [List.take_succ_cons, eL] at h1 ⊢
    rw [frames_cons] at hk ⊢
    rw [List.length_append, frame_len] at hk
    have e : (frameL r ++ framesL l).take k = frameL r ++ (framesL l).take (k - (r.length + 6)) := by
      rw [List.take_append, List.take_of_length_le (by rw [frame_len]; omega), frame_len]
    rw [e]
    refine .step (takeR_frame r _ hr) ?_
    have e2 : (frameL r ++ (framesL l).take (k - (r.length + 6))).drop (r.length + 6) = (framesL l).take (k - (r.length + 6)) := by
      rw [← frame_len r, List.drop_left]
    rw [e2]
    refine scans_frames l rest (k - (r.length + 6)) w (fun x hx => hl x (List.mem_cons_of_mem _ hx)) (by omega) (by simpa using hwl) (by omega) fun hlt => ?_
    have := hw (by simpa using hlt)
    rw [List.take_succ_cons, frames_cons, List.length_append, frame_len] at this
    omega
theorem scans_all (l : List (List UInt8)) (h : ∀ r ∈ l, r.length ≤ 1100) : Scans (framesL l) l (framesL l).length := by
  have := scans_frames l [] (framesL l).length l.length h (Nat.le_refl _) (Nat.le_refl _) (by rw [List.take_length]; exact Nat.le_refl _) (fun h => absurd h (Nat.lt_irrefl _))
  rw [List.take_length, List.take_length] at this
  exact this
/-- What is scanned is framed so. -/
theorem scans_framed {t : List UInt8} {L : List (List UInt8)} {n : Nat} (h : Scans t L n) : t.take n = framesL L ∧ takeR (t.drop n) = none := by
  induction h with
  | stop h0 => exact ⟨by simp [framesL], by rw [List.drop_zero]; exact h0⟩
  | step h0 _ ih =>
    rw [frames_cons, ← takeR_is h0, List.take_add, ih.1, ← ih.2, List.drop_drop]
    exact ⟨rfl, rfl⟩

end Go.Proofs.YtaogegpfapfchaaGreatDoor

/- Plain: what a leaf's log tells: texts, and edits of the text before. -/
namespace Go.Proofs.YtaogegpfapfchaaGreatDoor
set_option linter.unusedVariables false

theorem item_len53 {x : Ed} (h : OkXs x) : (itemL x).length ≤ 53 := by
  obtain ⟨h1, h2, h3⟩ := h
  have e1 := dec_len (n := x.1.toNat) (by omega)
  have e2 := dec_len (n := x.2.1.toNat) (by omega)
  have e3 := dec_len (n := x.2.2.size) (by omega)
  have e4 : x.2.2.data.toList.length = x.2.2.size := rfl
  simp only [itemL, List.length_append, List.length_cons, List.length_nil]
  omega
theorem write_len53 : ∀ {l : List Ed}, OkLs l → (writeL l).length ≤ 53 * l.length
  | [], _ => by simp [writeL]
  | x :: l, h => by
    have h1 := item_len53 (h x (by simp))
    have h2 := write_len53 (l := l) fun z hz => h z (by simp [hz])
    rw [writeL, List.length_append, List.length_cons]; omega
theorem oke_okls {n : Int} (hn : n ≤ 200) : ∀ (l : List Ed) (f : Bool) (e : Int), OkE n f e l → OkLs l
  | [], _, _, _ => fun x hx => by cases hx
  | y :: l, f, e, h => fun x hx => by
    obtain ⟨h1, h2, h3, h4, h5, h6, h7⟩ := h
    rcases List.mem_cons.1 hx with rfl | hx
    · exact ⟨by omega, by omega, h4⟩
    · exact oke_okls hn l _ _ h7 x hx
/-- Edits that fit a text may be written. -/
theorem check_wr {n : Nat} {l : List Ed} (h : checkE n l = 0) : l.length ≤ 20 ∧ OkLs l := by
  obtain ⟨h0, h1, h2, h3, h4⟩ := checkE_ok h
  exact ⟨h2, oke_okls h1 l _ _ h3⟩

/-- One record, and the text behind it. -/
inductive LStep (p : ByteArray) : List UInt8 → ByteArray → Prop
  | base (t : ByteArray) (h : t.size ≤ 200) : LStep p (98 :: t.data.toList) t
  | edit (l : List Ed) (h : checkE p.size l = 0) (t : ByteArray) (ht : t.data.toList = app p.data.toList 0 l) (hs : t.size ≤ 200) : LStep p (101 :: writeL l) t
abbrev LH := List (List UInt8 × ByteArray)
def Hist : ByteArray → LH → Prop
  | _, [] => True
  | p, x :: H => LStep p x.1 x.2 ∧ Hist x.2 H
def endT : ByteArray → LH → ByteArray
  | p, [] => p
  | _, x :: H => endT x.2 H
def recs (H : LH) : List (List UInt8) := H.map (·.1)
theorem recs_len (H : LH) : (recs H).length = H.length := by simp [recs]
theorem recs_take (H : LH) (k : Nat) : recs (H.take k) = (recs H).take k := by simp [recs]
theorem recs_app (H K : LH) : recs (H ++ K) = recs H ++ recs K := by simp [recs]
theorem endT_app : ∀ (H K : LH) (p : ByteArray), endT p (H ++ K) = endT (endT p H) K
  | [], K, p => rfl
  | x :: H, K, p => endT_app H K x.2
theorem hist_app : ∀ (H K : LH) (p : ByteArray), Hist p (H ++ K) ↔ Hist p H ∧ Hist (endT p H) K
  | [], K, p => by simp [Hist, endT]
  | x :: H, K, p => by
    show LStep p x.1 x.2 ∧ Hist x.2 (H ++ K) ↔ (LStep p x.1 x.2 ∧ Hist x.2 H) ∧ Hist (endT x.2 H) K
    rw [hist_app H K x.2, and_assoc]
theorem hist_snoc {p : ByteArray} {H : LH} {r : List UInt8} {t : ByteArray} (h : Hist p H) (hs : LStep (endT p H) r t) : Hist p (H ++ [(r, t)]) := (hist_app H _ p).2 ⟨h, hs, trivial⟩
theorem endT_snoc (p : ByteArray) (H : LH) (r : List UInt8) (t : ByteArray) : endT p (H ++ [(r, t)]) = t := by rw [endT_app]; rfl
theorem hist_take {p : ByteArray} {H : LH} (h : Hist p H) (k : Nat) : Hist p (H.take k) := by
  have := (hist_app (H.take k) (H.drop k) p).1 (by rw [List.take_append_drop]; exact h)
  exact this.1
theorem LStep.size {p t : ByteArray} {r : List UInt8} (h : LStep p r t) : t.size ≤ 200 := by cases h <;> assumption
theorem LStep.len {p t : ByteArray} {r : List UInt8} (h : LStep p r t) : r.length ≤ 1100 := by
  cases h with
  | base t h => rw [List.length_cons]; show t.data.toList.length + 1 ≤ 1100; have : t.data.toList.length = t.size := rfl; omega
  | edit l h t ht hs =>
    obtain ⟨h1, h2⟩ := check_wr h
    have := write_len53 h2
    rw [List.length_cons]; omega
theorem LStep.pos {p t : ByteArray} {r : List UInt8} (h : LStep p r t) : 0 < r.length := by cases h <;> simp
theorem hist_len : ∀ {H : LH} {p : ByteArray}, Hist p H → ∀ r ∈ recs H, r.length ≤ 1100
  | [], p, _, r, hr => by simp [recs] at hr
  | x :: H, p, h, r, hr => by
    rcases List.mem_cons.1 hr with rfl | hr
    · exact h.1.len
    · exact hist_len h.2 r hr
theorem endT_size : ∀ {H : LH} {p : ByteArray}, Hist p H → p.size ≤ 200 → (endT p H).size ≤ 200
  | [], p, _, hp => hp
  | x :: H, p, h, _ => by
    show (endT x.2 H).size ≤ 200
    exact endT_size h.2 h.1.size
/-- The k-th record is a step from the text before it. -/
theorem hist_at {p : ByteArray} {H : LH} (h : Hist p H) {k : Nat} (hk : k < H.length) : LStep (endT p (H.take k)) H[k].1 H[k].2 := by
  have e : H = H.take k ++ H[k] :: H.drop (k + 1) := by rw [← List.drop_eq_getElem_cons hk, List.take_append_drop]
  have h2 := h
  rw [e] at h2
  exact ((hist_app _ _ p).1 h2).2.1
theorem endT_succ (p : ByteArray) (H : LH) {k : Nat} (hk : k < H.length) : endT p (H.take (k + 1)) = H[k].2 := by
  rw [List.take_succ_eq_append_getElem hk]
  exact endT_snoc p _ _ _
/-- Texts from place j on. -/
theorem frames_lt (L : List (List UInt8)) (i j : Nat) (h : i < j) (hj : j ≤ L.length) : (framesL (L.take i)).length + 6 ≤ (framesL (L.take j)).length := by
  have e : L.take (i + 1) = L.take i ++ [L[i]'(by omega)] := by rw [List.take_succ_eq_append_getElem (by omega)]
  have h1 : (framesL (L.take (i + 1))).length = (framesL (L.take i)).length + (L[i]'(by omega)).length + 6 := by rw [e, frames_snoc, List.length_append, frame_len]; omega
  have h2 := frames_take_le (L.take j) (i + 1)
  rw [List.take_take, Nat.min_eq_left (by omega)] at h2
  omega
end Go.Proofs.YtaogegpfapfchaaGreatDoor

/- The walks of package sum: what Of, Bytes and Right compute, for every string. -/
namespace Go.Proofs.YtaogegpfapfchaaGreatDoor
open Go.RowKit
set_option linter.unusedVariables false

set_option maxHeartbeats 400000 in
theorem sumOf_any (s : ByteArray) (w : World) (hs : s.size ≤ maxLen) :
    Calls Tryz.prog 146 #[.string s] w fun e w' => e = .returned (.int .u32 (sumOf s.data.toList : Nat)) ∧ Below w.heap.size w w' := by
  have hcv := fun w s => run_bytes_of_string (P := Tryz.prog) w 9 54 5 s Tryz.underlying9 Tryz.underlying54 Tryz.underlying5
  unfold maxLen at hs
  go_enter Tryz.func146, Tryz.ntmps146
  go_wp2
  generalize hW : World.drew _ = W
  obtain ⟨hb, hz, hc⟩ := bytes_world _ _ _ _ _ _ hW
  clear hW
  generalize grownCap _ _ _ _ = cap
  go_loop [3, 9] (fun x i => ∃ k : Nat, k ≤ s.size ∧ i = .int .i64 k ∧ x = .int .u32 ((s.data.toList.take k).foldl upd 4294967295 : Nat)) (fun _ i => s.size - (intOf i).toNat)
  case atStart => exact ⟨0, Nat.zero_le _, rfl, rfl⟩
  case round =>
    obtain ⟨k, hk, rfl, rfl⟩ := hrel
    have hXl := fold_lt (s.data.toList.take k) 4294967295 (by decide)
    generalize hX : (s.data.toList.take k).foldl upd 4294967295 = X at hXl
    have HX := Lib.hid hX
    clear hX
    by_cases hlt : k < s.size
    · have hck := hc k hlt
      go_wp2
      have hcl := byte_lt s[k]
      go_loop [3, 17] (fun x i => ∃ j : Nat, j ≤ 8 ∧ i = .int .i64 j ∧ x = .int .u32 (stn j (X ^^^ s[k].toNat) : Nat)) (fun _ i => 8 - (intOf i).toNat)
      case atStart => exact ⟨0, by omega, by go_num, by rw [xor_byte _ _ hXl hcl]; rfl⟩
      case round =>
        obtain ⟨j, hj, rfl, rfl⟩ := hrel
        by_cases hj8 : j < 8
        · go_wp2
          go_round
          case rel => exact ⟨j+1, by omega, by go_num, by rw [step_bits _ (stn_lt _ _ (Nat.xor_lt_two_pow (n := 32) hXl (by omega)))]; rfl⟩
          case measure => simp [intOf]; omega
        · obtain rfl : j = 8 := by omega
          go_wp2
          go_round
          case rel => exact ⟨k+1, by omega, by go_num, by rw [take_succ_bytes s k hlt, List.foldl_append, HX.out]; rfl⟩
          case measure => simp [intOf]; omega
    · go_wp2
      go_ret
      refine ⟨?_, hb⟩
      have : X = s.data.toList.foldl upd 4294967295 := by rw [← HX.out, List.take_of_length_le (by simpa using hlt)]
      rw [xor_max _ hXl, this]
      rfl

set_option maxRecDepth 100000 in
set_option maxHeartbeats 1000000 in
theorem sumBytes_any (x : Nat) (hx : x < 4294967296) (w : World) :
    Calls Tryz.prog 145 #[.int .u32 x] w fun e w' => e = .returned (.string ⟨(bytes4 x).toArray⟩) ∧ Below w.heap.size w w' := by
  go_enter Tryz.func145, Tryz.ntmps145
  go_wp2
  rw [run_string_of _ 54 9 5 _ 4 4 (bytes4 x) rfl Tryz.underlying54 Tryz.underlying5 Tryz.underlying9 ?hc]
  case hc =>
    intro j hj
    have hj : j < 4 := hj
    rw [add_zero, World.cell?_alloc_mark]
    match j, hj with
    | 0, _ => simp [bytes4]
    | 1, _ => simp [bytes4]
    | 2, _ => simp [bytes4]
    | 3, _ => simp [bytes4]; omega
  go_wp2
  go_ret
  exact ⟨rfl, (Below.refl _ _).alloc (Nat.le_refl _) _⟩


set_option maxHeartbeats 400000 in
theorem sumRight_any (s : ByteArray) (w : World) (hs : s.size ≤ maxLen) :
    Calls Tryz.prog 140 #[.string s] w fun e w' => e = .returned (.bool (rightOf s.data.toList)) ∧ Below w.heap.size w w' := by
  unfold maxLen at hs
  by_cases h4 : 4 ≤ s.size
  · obtain ⟨m, hm⟩ : ∃ m, s.size = m + 4 := ⟨s.size - 4, by omega⟩
    have h0 : decide ((0 : Int) ≤ (m : Int)) = true := by simp
    have hle : (m : Int) ≤ (m : Int) + 4 := by omega
    have hle' : m ≤ m + 4 := by omega
    go_enter Tryz.func140, Tryz.ntmps140
    go_wp2
    go_region_held3 (fun _ => True) (trivial) (first | (go_at_call 146; refine (sumOf_any _ _ (by simp [maxLen]; omega)).mono ?_; rintro e w1 ⟨rfl, hb1⟩) | (go_at_call 145; refine (sumBytes_any _ (sumOf_lt _) _).mono ?_; rintro e w2 ⟨rfl, hb2⟩))
    go_wp2
    go_ret
    have hb : Below w.heap.size w w2 := ((Below.refl _ _).drew.trans hb1).trans (hb2.mono hb1.size)
    refine ⟨congrArg (fun b => Ending.returned (.bool b)) ?_, hb⟩
    have e1 : (s.extract m (m + 4)).toList = s.data.toList.drop m := by
      rw [← hm, ByteArray.toList_eq, Lib.extract_to_end]
    have e2 : s.data.toList.length = m + 4 := hm
    show (bytes4 (sumOf (List.take m s.data.toList)) == (s.extract m (m + 4)).toList) = _
    unfold rightOf
    rw [e1, e2]
    simp
  · have h4' : decide ((4 : Int) ≤ (s.size : Int)) = false := by simp; omega
    go_enter Tryz.func140, Tryz.ntmps140
    go_wp2
    go_quiet (fail)
    go_wp2
    go_ret
    refine ⟨congrArg (fun b => Ending.returned (.bool b)) ?_, below_drewN (Below.refl _ _) _⟩
    have e2 : s.data.toList.length = s.size := rfl
    show false = _
    unfold rightOf
    rw [e2]
    simp [h4]

theorem sumOf_check : sumOf [49, 50, 51, 52, 53, 54, 55, 56, 57] = 3808858755 := by decide +kernel
theorem bytes4_one : bytes4 1 = [1, 0, 0, 0] := by decide +kernel


end Go.Proofs.YtaogegpfapfchaaGreatDoor

