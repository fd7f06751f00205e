/- Plain: a word put in place of another one, wherever it stands and nothing was put yet. -/
import Derived.Test.YtbcendaiakeabaaSeek
namespace Go.Proofs.Ytbcendaiakeabaa
set_option linter.unusedVariables false

structure PSt where
  out : List UInt8
  pos : Nat
  n : Nat
def pstep (s by_ : List UInt8) (m : Nat) (t : PSt) (i : Nat) : PSt := if t.pos ≤ i then ⟨t.out ++ ((s.drop t.pos).take (i - t.pos) ++ by_), i + m, t.n + 1⟩ else t
def pfold (s by_ : List UInt8) (m : Nat) (L : List Nat) : PSt := L.foldl (pstep s by_ m) ⟨[], 0, 0⟩
theorem pfold_snoc (s by_ : List UInt8) (m : Nat) (L : List Nat) (i : Nat) : pfold s by_ m (L ++ [i]) = pstep s by_ m (pfold s by_ m L) i := by simp [pfold]
def putT (s p by_ : List UInt8) : List UInt8 := (pfold s by_ p.length (findOf s p)).out ++ s.drop (pfold s by_ p.length (findOf s p)).pos
def putN (s p by_ : List UInt8) : Nat := (pfold s by_ p.length (findOf s p)).n

theorem pf_inv {s by_ : List UInt8} {m : Nat} {I : PSt → Prop} {Q : Nat → Prop} (hs : ∀ t i, I t → Q i → I (pstep s by_ m t i)) : ∀ (L : List Nat) (t : PSt), I t → (∀ i ∈ L, Q i) → I (L.foldl (pstep s by_ m) t)
  | [], t, h, _ => h
  | i :: L, t, h, hq => pf_inv hs L _ (hs t i h (hq i (by simp))) fun j hj => hq j (by simp [hj])
theorem occ_take {s p : List UInt8} {x : Nat} (h : Occ s p x) : (s.drop x).take p.length = p := by
  have := (occ_prefix s p x (by have := h.1; omega)).1 h
  rw [List.prefix_iff_eq_take] at this
  exact this.symm
/-- What is true of every state. -/
structure PIn (s by_ : List UInt8) (m : Nat) (t : PSt) : Prop where
  le : t.pos ≤ s.length
  many : t.n * m ≤ t.pos
  len : t.out.length + t.n * m = t.pos + t.n * by_.length
theorem pin_step {s p by_ : List UInt8} {t : PSt} {i : Nat} (h : PIn s by_ p.length t) (hq : Occ s p i) : PIn s by_ p.length (pstep s by_ p.length t i) := by
  unfold pstep
  by_cases hi : t.pos ≤ i
  · rw [if_pos hi]
    have h1 := hq.1
    have h2 := h.many
    have h3 := h.len
    refine ⟨h1, ?_, ?_⟩
    · show (t.n + 1) * p.length ≤ i + p.length
      rw [Nat.succ_mul]; omega
    · show (t.out ++ ((s.drop t.pos).take (i - t.pos) ++ by_)).length + (t.n + 1) * p.length = i + p.length + (t.n + 1) * by_.length
      rw [List.length_append, List.length_append, List.length_take, List.length_drop, Nat.succ_mul, Nat.succ_mul]; omega
  · rw [if_neg hi]; exact h
theorem pin_start (s by_ : List UInt8) (m : Nat) : PIn s by_ m ⟨[], 0, 0⟩ := ⟨Nat.zero_le _, by simp, by simp⟩
theorem pin_fold {s p by_ : List UInt8} (L : List Nat) (hq : ∀ i ∈ L, Occ s p i) : PIn s by_ p.length (pfold s by_ p.length L) := pf_inv (fun _ _ => pin_step) L _ (pin_start s by_ _) hq
theorem put_len {s p by_ : List UInt8} (hp : 0 < p.length) : (putT s p by_).length + putN s p by_ * p.length = s.length + putN s p by_ * by_.length ∧ putN s p by_ * p.length ≤ s.length := by
  have h := pin_fold (by_ := by_) (findOf s p) fun i hi => (mem_find s p hp i).1 hi
  have h1 := h.le
  have h2 := h.len
  have h3 := h.many
  unfold putT putN
  rw [List.length_append, List.length_drop]
  generalize pfold s by_ p.length (findOf s p) = t at *
  omega

/-- A word in its own place. -/
theorem put_self {s p : List UInt8} (hp : 0 < p.length) : putT s p p = s := by
  have h := pf_inv (s := s) (by_ := p) (m := p.length) (I := fun t => t.pos ≤ s.length ∧ t.out = s.take t.pos) (Q := Occ s p) (fun t i ⟨h1, h2⟩ hq => by
    unfold pstep
    by_cases hi : t.pos ≤ i
    · rw [if_pos hi]
      refine ⟨hq.1, ?_⟩
      show t.out ++ ((s.drop t.pos).take (i - t.pos) ++ p) = s.take (i + p.length)
      have e : s.take (i + p.length) = s.take i ++ (s.drop i).take p.length := by rw [List.take_add]
      have e2 : s.take i = s.take t.pos ++ (s.drop t.pos).take (i - t.pos) := by
        conv => lhs; rw [show i = t.pos + (i - t.pos) from by omega, List.take_add]
      rw [e, e2, occ_take hq, h2, List.append_assoc]
    · rw [if_neg hi]; exact ⟨h1, h2⟩) (findOf s p) ⟨[], 0, 0⟩ ⟨Nat.zero_le _, by simp⟩ fun i hi => (mem_find s p hp i).1 hi
  unfold putT
  rw [show List.foldl (pstep s p p.length) ⟨[], 0, 0⟩ (findOf s p) = pfold s p p.length (findOf s p) from rfl] at h
  rw [h.2, List.take_append_drop]
/-- How often does not depend on what is put. -/
theorem pf_same {s a b : List UInt8} {m : Nat} : ∀ (L : List Nat) (t u : PSt), t.pos = u.pos → t.n = u.n → (L.foldl (pstep s a m) t).n = (L.foldl (pstep s b m) u).n
  | [], t, u, _, h => h
  | i :: L, t, u, h1, h2 => by
    rw [List.foldl_cons, List.foldl_cons]
    apply pf_same L
    · unfold pstep; rw [h1]; split <;> simp_all
    · unfold pstep; rw [h1]; split <;> simp_all
theorem putN_same (s p a b : List UInt8) : putN s p a = putN s p b := pf_same _ _ _ rfl rfl

/-- The byte taken back. -/
def unb (b : UInt8) (p : List UInt8) (l : List UInt8) : List UInt8 := l.flatMap fun c => if c = b then p else [c]
theorem unb_app (b : UInt8) (p l m : List UInt8) : unb b p (l ++ m) = unb b p l ++ unb b p m := by simp [unb]
theorem unb_id (b : UInt8) (p : List UInt8) : ∀ l : List UInt8, b ∉ l → unb b p l = l
  | [], _ => rfl
  | c :: l, h => by
    have := unb_id b p l (fun g => h (by simp [g]))
    show (if c = b then p else [c]) ++ unb b p l = _
    rw [if_neg (fun e => h (by simp [e])), this]; rfl
theorem not_take {b : UInt8} {s : List UInt8} (h : b ∉ s) (i j : Nat) : b ∉ (s.drop i).take j := fun g => h (List.mem_of_mem_drop (List.mem_of_mem_take g))
theorem put_marks {s p : List UInt8} {b : UInt8} (hp : 0 < p.length) (hb : b ∉ s) : unb b p (putT s p [b]) = s ∧ List.count b (putT s p [b]) = putN s p [b] := by
  have h := pf_inv (s := s) (by_ := [b]) (m := p.length) (I := fun t => t.pos ≤ s.length ∧ unb b p t.out = s.take t.pos ∧ List.count b t.out = t.n) (Q := Occ s p) (fun t i ⟨h1, h2, h3⟩ hq => by
    unfold pstep
    by_cases hi : t.pos ≤ i
    · rw [if_pos hi]
      refine ⟨hq.1, ?_, ?_⟩
      · show unb b p (t.out ++ ((s.drop t.pos).take (i - t.pos) ++ [b])) = s.take (i + p.length)
        have e : s.take (i + p.length) = s.take i ++ (s.drop i).take p.length := by rw [List.take_add]
        have e2 : s.take i = s.take t.pos ++ (s.drop t.pos).take (i - t.pos) := by
          conv => lhs; rw [show i = t.pos + (i - t.pos) from by omega, List.take_add]
        have e3 : unb b p [b] = p := by simp [unb]
        rw [e, e2, occ_take hq, unb_app, unb_app, h2, unb_id b p _ (not_take hb _ _), e3, List.append_assoc]
      · show List.count b (t.out ++ ((s.drop t.pos).take (i - t.pos) ++ [b])) = t.n + 1
        rw [List.count_append, List.count_append, h3, List.count_eq_zero_of_not_mem (not_take hb _ _)]
        simp
    · rw [if_neg hi]; exact ⟨h1, h2, h3⟩) (findOf s p) ⟨[], 0, 0⟩ ⟨Nat.zero_le _, by simp [unb], by simp⟩ fun i hi => (mem_find s p hp i).1 hi
  rw [show List.foldl (pstep s [b] p.length) ⟨[], 0, 0⟩ (findOf s p) = pfold s [b] p.length (findOf s p) from rfl] at h
  have hd : b ∉ s.drop (pfold s [b] p.length (findOf s p)).pos := fun g => hb (List.mem_of_mem_drop g)
  unfold putT putN
  rw [unb_app, h.2.1, unb_id b p _ hd, List.take_append_drop, List.count_append, h.2.2, List.count_eq_zero_of_not_mem hd]
  exact ⟨rfl, rfl⟩
/-- All that stands there of one byte. -/
theorem put_one_fold (u p : List UInt8) (b : UInt8) : ∀ i, i ≤ u.length → (pfold u p 1 (foundOf u [b] i)).pos ≤ i ∧ (pfold u p 1 (foundOf u [b] i)).n = List.count b (u.take i) ∧
    (pfold u p 1 (foundOf u [b] i)).out ++ (u.drop (pfold u p 1 (foundOf u [b] i)).pos).take (i - (pfold u p 1 (foundOf u [b] i)).pos) = unb b p (u.take i)
  | 0, _ => by simp [pfold, foundOf, unb]
  | i + 1, hi => by
    obtain ⟨h1, h2, h3⟩ := put_one_fold u p b i (by omega)
    have ht : u.take (i + 1) = u.take i ++ [u.getD i 0] := take_succ_getD u i 0 (by omega)
    have hm : Mt u [b] [b].length (i + 1) ↔ u.getD i 0 = b := by
      unfold Mt
      simp only [List.length_singleton]
      constructor
      · rintro ⟨_, _, h⟩
        have := h 0 (by omega)
        simpa using this.symm
      · intro h
        refine ⟨by omega, by omega, fun j hj => ?_⟩
        obtain rfl : j = 0 := by omega
        simpa using h.symm
    rw [foundOf]
    by_cases h : u.getD i 0 = b
    · rw [if_pos (hm.2 h), List.length_singleton, Nat.add_sub_cancel, pfold_snoc]
      generalize pfold u p 1 (foundOf u [b] i) = t at *
      unfold pstep
      rw [if_pos h1]
      refine ⟨Nat.le_refl _, ?_, ?_⟩
      · show t.n + 1 = _
        rw [ht, List.count_append, h2, h]; simp
      · show (t.out ++ ((u.drop t.pos).take (i - t.pos) ++ p)) ++ _ = _
        rw [Nat.sub_self, List.take_zero, List.append_nil, ← List.append_assoc, h3, ht, unb_app, h]
        simp [unb]
    · rw [if_neg (fun g => h (hm.1 g)), List.append_nil]
      generalize pfold u p 1 (foundOf u [b] i) = t at *
      refine ⟨by omega, ?_, ?_⟩
      · rw [ht, List.count_append, h2, List.count_singleton, if_neg (by simpa using h)]; rfl
      · have e : (u.drop t.pos).take (i + 1 - t.pos) = (u.drop t.pos).take (i - t.pos) ++ [u.getD i 0] := by
          rw [show i + 1 - t.pos = (i - t.pos) + 1 from by omega, take_succ_getD _ _ 0 (by rw [List.length_drop]; omega), getD_drop]
          congr 3; omega
        rw [e, ← List.append_assoc, h3, ht, unb_app]
        congr 1
        simp only [unb, List.flatMap_cons, List.flatMap_nil, List.append_nil]
        rw [if_neg h]
theorem put_one (u p : List UInt8) (b : UInt8) : putT u [b] p = unb b p u ∧ putN u [b] p = List.count b u := by
  obtain ⟨h1, h2, h3⟩ := put_one_fold u p b u.length (Nat.le_refl _)
  unfold putT putN
  rw [List.length_singleton, show findOf u [b] = foundOf u [b] u.length from rfl]
  generalize pfold u p 1 (foundOf u [b] u.length) = t at *
  rw [List.take_of_length_le (by rw [List.length_drop]; exact Nat.le_refl _), List.take_length] at h3
  rw [List.take_length] at h2
  exact ⟨h3, h2⟩
/-- Put, and taken back. -/
theorem put_back {s p : List UInt8} {b : UInt8} (hp : 0 < p.length) (hb : b ∉ s) : putT (putT s p [b]) [b] p = s ∧ putN (putT s p [b]) [b] p = putN s p [b] := by
  obtain ⟨h1, h2⟩ := put_marks hp hb
  obtain ⟨h3, h4⟩ := put_one (putT s p [b]) p b
  exact ⟨h3.trans h1, h4.trans h2⟩
theorem put_known : putT [97, 98, 97, 98, 97] [97, 98, 97] [120] = [120, 98, 97] ∧ putN [97, 98, 97, 98, 97] [97, 98, 97] [120] = 1 := by decide +kernel
end Go.Proofs.Ytbcendaiakeabaa
