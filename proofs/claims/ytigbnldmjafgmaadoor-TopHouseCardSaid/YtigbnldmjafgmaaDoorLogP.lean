/- Plain: records in frames, one behind the other, and what a scan tells. -/
import Derived.Test.YtigbnldmjafgmaaDoorSumLaw
import Derived.Test.YtigbnldmjafgmaaDoorPlain
namespace Go.Proofs.YtigbnldmjafgmaaDoor
set_option linter.unusedVariables false

def hdrL (n : Nat) : List UInt8 := [UInt8.ofNat (n / 256), UInt8.ofNat (n % 256)]
def frameL (r : List UInt8) : List UInt8 := (hdrL r.length ++ r) ++ bytes4 (sumOf (hdrL r.length ++ r))
theorem frame_len (r : List UInt8) : (frameL r).length = r.length + 6 := by
  unfold frameL hdrL; simp [bytes4_length]
/-- The first record of a text, if a whole one stands there. -/
def takeR (t : List UInt8) : Option (List UInt8) :=
  if 6 ≤ t.length ∧ (t.getD 0 0).toNat * 256 + (t.getD 1 0).toNat ≤ 1100 ∧ (t.getD 0 0).toNat * 256 + (t.getD 1 0).toNat + 6 ≤ t.length ∧ rightOf (t.take ((t.getD 0 0).toNat * 256 + (t.getD 1 0).toNat + 6)) = true
  then some ((t.drop 2).take ((t.getD 0 0).toNat * 256 + (t.getD 1 0).toNat)) else none
theorem takeR_some {t r : List UInt8} (h : takeR t = some r) : r.length ≤ 1100 ∧ r.length + 6 ≤ t.length ∧ (t.getD 0 0).toNat * 256 + (t.getD 1 0).toNat = r.length ∧ rightOf (t.take (r.length + 6)) = true ∧ r = (t.drop 2).take r.length := by
  unfold takeR at h
  split at h
  · rename_i hc
    injection h with h
    have hl : r.length = (t.getD 0 0).toNat * 256 + (t.getD 1 0).toNat := by rw [← h, List.length_take, List.length_drop]; omega
    rw [hl]
    exact ⟨hc.2.1, hc.2.2.1, rfl, hc.2.2.2, h.symm⟩
  · cases h
theorem hdr_num {n : Nat} (h : n ≤ 1100) : (UInt8.ofNat (n / 256)).toNat * 256 + (UInt8.ofNat (n % 256)).toNat = n := by
  rw [UInt8.toNat_ofNat', UInt8.toNat_ofNat']; omega
theorem frame_head (r rest : List UInt8) : (frameL r ++ rest).getD 0 0 = UInt8.ofNat (r.length / 256) ∧ (frameL r ++ rest).getD 1 0 = UInt8.ofNat (r.length % 256) := ⟨rfl, rfl⟩
theorem takeR_frame (r rest : List UInt8) (h : r.length ≤ 1100) : takeR (frameL r ++ rest) = some r := by
  have hl := frame_len r
  obtain ⟨h0, h1⟩ := frame_head r rest
  unfold takeR
  rw [h0, h1, hdr_num h, if_pos]
  · congr 1
    unfold frameL hdrL
    simp
  · refine ⟨by rw [List.length_append]; omega, h, by rw [List.length_append]; omega, ?_⟩
    rw [List.take_append_of_le_length (by omega), List.take_of_length_le (by omega)]
    exact right_made _
theorem takeR_cut (r rest : List UInt8) (k : Nat) (h : r.length ≤ 1100) (hk : k < r.length + 6) : takeR ((frameL r ++ rest).take k) = none := by
  have hl := frame_len r
  unfold takeR
  rw [if_neg]
  rintro ⟨c1, c2, c3, c4⟩
  rw [List.length_take] at c1 c3
  obtain ⟨h0, h1⟩ := frame_head r rest
  rw [getD_take _ _ _ _ (by omega), getD_take _ _ _ _ (by omega), h0, h1, hdr_num h] at c3
  omega
/-- A record that stands there is framed there. -/
theorem takeR_is {t r : List UInt8} (h : takeR t = some r) : t.take (r.length + 6) = frameL r := by
  obtain ⟨h1, h2, h3, h4, h5⟩ := takeR_some h
  have hL : (t.take (r.length + 6)).length = r.length + 6 := by rw [List.length_take]; omega
  unfold rightOf at h4
  rw [Bool.and_eq_true, beq_iff_eq, hL, Nat.add_sub_assoc (by omega : 4 ≤ 6)] at h4
  rcases t with _ | ⟨a, _ | ⟨b, t⟩⟩
  · simp at h2
  · simp at h2
  · simp only [List.getD_cons_zero, List.getD_cons_succ] at h3
    have ha := a.toNat_lt
    have hb := b.toNat_lt
    have ea : a = UInt8.ofNat (r.length / 256) := UInt8.toNat_inj.1 (by rw [UInt8.toNat_ofNat']; omega)
    have eb : b = UInt8.ofNat (r.length % 256) := UInt8.toNat_inj.1 (by rw [UInt8.toNat_ofNat']; omega)
    have h6 : (a :: b :: t).take (r.length + (6 - 4)) = hdrL r.length ++ r := by
      show (a :: b :: t).take (r.length + 2) = _
      rw [List.take_succ_cons, List.take_succ_cons, ea, eb]
      unfold hdrL
      simp only [List.cons_append, List.nil_append]
      congr 2
      conv => rhs; rw [h5]
      rfl
    have h7 : ((a :: b :: t).take (r.length + 6)).take (r.length + (6 - 4)) = (a :: b :: t).take (r.length + (6 - 4)) := by
      rw [List.take_take]; congr 1; omega
    have e := List.take_append_drop (r.length + (6 - 4)) ((a :: b :: t).take (r.length + 6))
    rw [← e, ← h4.2, h7, h6]
    rfl

inductive Scans : List UInt8 → List (List UInt8) → Nat → Prop
  | stop {t : List UInt8} : takeR t = none → Scans t [] 0
  | step {t r : List UInt8} {L : List (List UInt8)} {n : Nat} : takeR t = some r → Scans (t.drop (r.length + 6)) L n → Scans t (r :: L) (r.length + 6 + n)
theorem scans_total : ∀ (N : Nat) (t : List UInt8), t.length ≤ N → ∃ L n, Scans t L n
  | N, t, hN => by
    cases h : takeR t with
    | none => exact ⟨[], 0, .stop h⟩
    | some r =>
      obtain ⟨_, h2, _⟩ := takeR_some h
      cases N with
      | zero => omega
      | succ N =>
        obtain ⟨L, n, hL⟩ := scans_total N (t.drop (r.length + 6)) (by rw [List.length_drop]; omega)
        exact ⟨r :: L, r.length + 6 + n, .step h hL⟩
theorem scans_one {t : List UInt8} {L M : List (List UInt8)} {n m : Nat} (h : Scans t L n) (h2 : Scans t M m) : L = M ∧ n = m := by
  induction h generalizing M m with
  | stop h0 =>
    cases h2 with
    | stop _ => exact ⟨rfl, rfl⟩
    | step h1 _ => rw [h0] at h1; cases h1
  | step h0 _ ih =>
    cases h2 with
    | stop h1 => rw [h0] at h1; cases h1
    | step h1 hs =>
      rw [h0] at h1
      injection h1 with h1
      subst h1
      obtain ⟨e1, e2⟩ := ih hs
      exact ⟨by rw [e1], by rw [e2]⟩
theorem scans_bound {t : List UInt8} {L : List (List UInt8)} {n : Nat} (h : Scans t L n) : n ≤ t.length ∧ L.length * 6 ≤ n ∧ (∀ r ∈ L, r.length ≤ 1100) := by
  induction h with
  | stop _ => exact ⟨Nat.zero_le _, Nat.zero_le _, by simp⟩
  | step h0 _ ih =>
    obtain ⟨h1, h2, _⟩ := takeR_some h0
    rw [List.length_drop] at ih
    refine ⟨by omega, by rw [List.length_cons]; omega, fun x hx => ?_⟩
    rcases List.mem_cons.1 hx with rfl | hx
    · exact h1
    · exact ih.2.2 x hx
/-- All frames, one behind the other. -/
def framesL (l : List (List UInt8)) : List UInt8 := (l.map frameL).flatten
theorem frames_cons (r : List UInt8) (l : List (List UInt8)) : framesL (r :: l) = frameL r ++ framesL l := by simp [framesL]
theorem frames_snoc (l : List (List UInt8)) (r : List UInt8) : framesL (l ++ [r]) = framesL l ++ frameL r := by simp [framesL]
theorem frames_app (l m : List (List UInt8)) : framesL (l ++ m) = framesL l ++ framesL m := by simp [framesL]
theorem frames_take_le (l : List (List UInt8)) (k : Nat) : (framesL (l.take k)).length ≤ (framesL l).length := by
  have h := congrArg List.length (frames_app (l.take k) (l.drop k))
  rw [List.take_append_drop, List.length_append] at h
  omega
/-- Of records in frames, cut off anywhere, those are told that are whole. -/
theorem scans_frames : ∀ (l : List (List UInt8)) (rest : List UInt8) (k w : Nat), (∀ r ∈ l, r.length ≤ 1100) → k ≤ (framesL l).length → w ≤ l.length → (framesL (l.take w)).length ≤ k → (w < l.length → k < (framesL (l.take (w + 1))).length) →
    Scans ((framesL l).take k) (l.take w) (framesL (l.take w)).length
  | [], rest, k, w, _, hk, _, _, _ => by
    have : (framesL ([] : List (List UInt8))).take k = [] := by simp [framesL]
    rw [this, List.take_nil]
    exact .stop (by unfold takeR; rw [if_neg (by simp)])
  | r :: l, rest, k, 0, hl, hk, _, _, hw => by
    have hr := hl r List.mem_cons_self
    have h1 := hw (by simp)
    rw [List.take_zero]
    refine .stop ?_
    rw [frames_cons]
    refine takeR_cut r _ k hr ?_
    rw [show (r :: l).take (0 + 1) = [r] from rfl] at h1
    have : (framesL [r]).length = r.length + 6 := by simp [framesL, frame_len]
    omega
  | r :: l, rest, k, w + 1, hl, hk, hwl, h1, hw => by
    have hr := hl r List.mem_cons_self
    have eL : (framesL (r :: l.take w)).length = r.length + 6 + (framesL (l.take w)).length := by rw [frames_cons, List.length_append, frame_len]
    rw [List.take_succ_cons, eL] at h1 ⊢
    rw [frames_cons] at hk ⊢
    rw [List.length_append, frame_len] at hk
    have e : (frameL r ++ framesL l).take k = frameL r ++ (framesL l).take (k - (r.length + 6)) := by
      rw [List.take_append, List.take_of_length_le (by rw [frame_len]; omega), frame_len]
    rw [e]
    refine .step (takeR_frame r _ hr) ?_
    have e2 : (frameL r ++ (framesL l).take (k - (r.length + 6))).drop (r.length + 6) = (framesL l).take (k - (r.length + 6)) := by
      rw [← frame_len r, List.drop_left]
    rw [e2]
    refine scans_frames l rest (k - (r.length + 6)) w (fun x hx => hl x (List.mem_cons_of_mem _ hx)) (by omega) (by simpa using hwl) (by omega) fun hlt => ?_
    have := hw (by simpa using hlt)
    rw [List.take_succ_cons, frames_cons, List.length_append, frame_len] at this
    omega
theorem scans_all (l : List (List UInt8)) (h : ∀ r ∈ l, r.length ≤ 1100) : Scans (framesL l) l (framesL l).length := by
  have := scans_frames l [] (framesL l).length l.length h (Nat.le_refl _) (Nat.le_refl _) (by rw [List.take_length]; exact Nat.le_refl _) (fun h => absurd h (Nat.lt_irrefl _))
  rw [List.take_length, List.take_length] at this
  exact this
/-- What is scanned is framed so. -/
theorem scans_framed {t : List UInt8} {L : List (List UInt8)} {n : Nat} (h : Scans t L n) : t.take n = framesL L ∧ takeR (t.drop n) = none := by
  induction h with
  | stop h0 => exact ⟨by simp [framesL], by rw [List.drop_zero]; exact h0⟩
  | step h0 _ ih =>
    rw [frames_cons, ← takeR_is h0, List.take_add, ih.1, ← ih.2, List.drop_drop]
    exact ⟨rfl, rfl⟩

end Go.Proofs.YtigbnldmjafgmaaDoor
