/- Plain: the edits that undo edits. -/
import Derived.Test.YtigbnldmjafgmaaDoorEdit
namespace Go.Proofs.YtigbnldmjafgmaaDoor
set_option linter.unusedVariables false

/-- A list of bytes as a string. -/
def e8 (l : List UInt8) : ByteArray := ⟨l.toArray⟩
theorem e8_list (l : List UInt8) : (e8 l).data.toList = l := rfl
theorem e8_size (l : List UInt8) : (e8 l).size = l.length := rfl
theorem e8_of (s : ByteArray) : e8 s.data.toList = s := by
  cases s; rfl

/-- What Undo tells. -/
def undoE (s : List UInt8) : Int → List Ed → List Ed
  | _, [] => []
  | m, x :: l => (x.1 + m, (x.2.2.size : Int), e8 ((s.drop x.1.toNat).take x.2.1.toNat)) :: undoE s (m + (x.2.2.size - x.2.1)) l
theorem undo_snoc (s : List UInt8) : ∀ (l : List Ed) (m : Int) (x : Ed), undoE s m (l ++ [x]) = undoE s m l ++ [(x.1 + (m + gain l), (x.2.2.size : Int), e8 ((s.drop x.1.toNat).take x.2.1.toNat))]
  | [], m, x => by simp [undoE, gain]
  | y :: l, m, x => by
    rw [List.cons_append, undoE, undo_snoc s l, undoE, gain, List.cons_append]
    rw [show m + ((y.2.2.size : Int) - y.2.1) + gain l = m + ((y.2.2.size : Int) - y.2.1 + gain l) from by omega]
theorem undo_length (s : List UInt8) : ∀ (l : List Ed) (m : Int), (undoE s m l).length = l.length
  | [], m => rfl
  | y :: l, m => by rw [undoE, List.length_cons, undo_length s l, List.length_cons]
theorem undo_gain {s : List UInt8} : ∀ {l : List Ed} {f : Bool} {e m : Int}, OkE s.length f e l → gain (undoE s m l) = - gain l
  | [], f, e, m, _ => by simp [undoE, gain]
  | x :: l, f, e, m, ⟨h1, h2, h3, h4, h5, h6, h7⟩ => by
    rw [undoE, gain, undo_gain h7, gain]
    have : ((e8 ((s.drop x.1.toNat).take x.2.1.toNat)).size : Int) = x.2.1 := by
      rw [e8_size, List.length_take, List.length_drop]; omega
    simp only [this]; omega

theorem undo_all {s t : List UInt8} : ∀ {l : List Ed} {f : Bool} {e : Nat} {m : Int}, OkE s.length f e l → (∀ x ∈ l, x.2.1 ≤ 40) → (f = true → e = 0) → 0 ≤ (e : Int) + m → (e : Int) + m ≤ t.length → e ≤ s.length → t.drop ((e : Int) + m).toNat = app s e l →
    OkE t.length f (e + m) (undoE s m l) ∧ app t ((e : Int) + m).toNat (undoE s m l) = s.drop e ∧ undoE t (-m) (undoE s m l) = l
  | [], f, e, m, _, _, _, _, _, _, hd => ⟨trivial, hd, rfl⟩
  | x :: l, f, e, m, ⟨h1, h2, h3, h4, h5, h6, h7⟩, hdel, hf, hm, hmt, hes, hd => by
    obtain ⟨at_, del, ins⟩ := x
    simp only at h1 h2 h3 h4 h5 h6 h7
    obtain ⟨i, rfl⟩ : ∃ i : Nat, at_ = i := ⟨at_.toNat, by omega⟩
    obtain ⟨d, rfl⟩ : ∃ i : Nat, del = i := ⟨del.toNat, by omega⟩
    obtain ⟨p, hp⟩ : ∃ p : Nat, (e : Int) + m = p := ⟨((e : Int) + m).toNat, by omega⟩
    have hle : e ≤ i := by
      cases f with
      | true => have := hf rfl; omega
      | false => have := h6 rfl; omega
    have hdx := hdel _ List.mem_cons_self
    simp only at hdx
    have hi : ins.data.toList.length = ins.size := rfl
    rw [hp, Int.toNat_natCast, app] at hd
    simp only [Int.toNat_natCast] at hd
    rw [show ((i : Int) + (d : Int)).toNat = i + d from by omega] at hd
    have hfl : ((s.take i).drop e).length = i - e := by rw [List.length_drop, List.length_take]; omega
    have hlen := congrArg List.length hd
    rw [List.length_drop, List.length_append, List.length_append, hfl, hi] at hlen
    have hpt : p ≤ t.length := by omega
    have e1 : (((i + d : Nat) : Int)) + (m + ((ins.size : Int) - (d : Int))) = ((p + (i - e) + ins.size : Nat) : Int) := by omega
    have hd2 : t.drop (p + (i - e) + ins.size) = app s (i + d) l := by
      have := congrArg (List.drop (i - e + ins.size)) hd
      rw [List.drop_drop] at this
      rw [show p + (i - e) + ins.size = p + (i - e + ins.size) from by omega, this]
      rw [List.drop_append_of_le_length (by rw [List.length_append, hfl, hi]; omega), List.drop_eq_nil_of_le (by rw [List.length_append, hfl, hi]; omega), List.nil_append]
    have ih := undo_all (s := s) (t := t) (l := l) (f := false) (e := i + d) (m := m + ((ins.size : Int) - (d : Int))) (by rw [show ((i + d : Nat) : Int) = (i : Int) + (d : Int) from by omega]; exact h7) (fun x hx => hdel x (List.mem_cons_of_mem _ hx)) (by simp) (by omega) (by rw [e1]; omega) (by omega) (by rw [e1, Int.toNat_natCast]; exact hd2)
    rw [e1, Int.toNat_natCast] at ih
    obtain ⟨g1, g2, g3⟩ := ih
    have hcut : (s.drop i).take d ++ s.drop (i + d) = s.drop i := by
      rw [← List.drop_drop]; exact List.take_append_drop d _
    have hsz : ((s.drop i).take d).length = d := by rw [List.length_take, List.length_drop]; omega
    rw [undoE]
    simp only [Int.toNat_natCast]
    refine ⟨⟨?_, ?_, ?_, ?_, ?_, ?_, ?_⟩, ?_, ?_⟩
    · show 0 ≤ (i : Int) + m; omega
    · show 0 ≤ (ins.size : Int); omega
    · show (i : Int) + m + (ins.size : Int) ≤ t.length; omega
    · show (e8 _).size ≤ 40; rw [e8_size, hsz]; omega
    · show ¬ ((ins.size : Int) = 0 ∧ (e8 _).size = 0)
      rw [e8_size, hsz]
      intro hh; exact h5 ⟨by omega, by omega⟩
    · intro hh; have := h6 hh; show (e : Int) + m < (i : Int) + m; omega
    · show OkE t.length false ((i : Int) + m + (ins.size : Int)) _
      rw [show (i : Int) + m + (ins.size : Int) = ((p + (i - e) + ins.size : Nat) : Int) from by omega]
      exact g1
    · show (t.take ((i : Int) + m).toNat).drop ((e : Int) + m).toNat ++ (e8 _).data.toList ++ app t ((i : Int) + m + (ins.size : Int)).toNat _ = _
      rw [e8_list, show ((i : Int) + m + (ins.size : Int)).toNat = p + (i - e) + ins.size from by omega, g2, show ((i : Int) + m).toNat = p + (i - e) from by omega, hp, Int.toNat_natCast]
      have h8 : (t.take (p + (i - e))).drop p = (s.take i).drop e := by
        rw [List.drop_take, show p + (i - e) - p = i - e from by omega, hd, List.append_assoc, List.take_append_of_le_length (by omega), List.take_of_length_le (by omega)]
      rw [h8, List.append_assoc, hcut, List.drop_take]
      rw [show s.drop i = (s.drop e).drop (i - e) from by rw [List.drop_drop]; congr 1; omega]
      exact List.take_append_drop _ _
    · show ((i : Int) + m + -m, ((e8 ((s.drop i).take d)).size : Int), e8 ((t.drop ((i : Int) + m).toNat).take (ins.size : Int).toNat)) :: undoE t (-m + (((e8 ((s.drop i).take d)).size : Int) - (ins.size : Int))) _ = _
      rw [e8_size, hsz, show (i : Int) + m + -m = (i : Int) from by omega, show -m + ((d : Int) - (ins.size : Int)) = -(m + ((ins.size : Int) - (d : Int))) from by omega, g3]
      congr 3
      rw [Int.toNat_natCast, show ((i : Int) + m).toNat = p + (i - e) from by omega, ← List.drop_drop, hd, List.append_assoc, List.drop_append_of_le_length (by omega), List.drop_eq_nil_of_le (by omega), List.nil_append, List.take_append_of_le_length (by rw [hi]; exact Nat.le_refl _), List.take_of_length_le (by rw [hi]; exact Nat.le_refl _)]
      exact e8_of ins

theorem app_length {s : List UInt8} : ∀ {l : List Ed} {f : Bool} {e : Nat}, OkE s.length f e l → (f = true → e = 0) → e ≤ s.length → ((app s e l).length : Int) = s.length - e + gain l
  | [], f, e, _, _, he => by rw [app, gain, List.length_drop]; omega
  | x :: l, f, e, ⟨h1, h2, h3, h4, h5, h6, h7⟩, hf, he => by
    obtain ⟨at_, del, ins⟩ := x
    simp only at h1 h2 h3 h4 h5 h6 h7
    obtain ⟨i, rfl⟩ : ∃ i : Nat, at_ = i := ⟨at_.toNat, by omega⟩
    obtain ⟨d, rfl⟩ : ∃ i : Nat, del = i := ⟨del.toNat, by omega⟩
    have hle : e ≤ i := by
      cases f with
      | true => have := hf rfl; omega
      | false => have := h6 rfl; omega
    have ih := app_length (s := s) (l := l) (f := false) (e := i + d) (by rw [show ((i + d : Nat) : Int) = (i : Int) + (d : Int) from by omega]; exact h7) (by simp) (by omega)
    have hi : ins.data.toList.length = ins.size := rfl
    rw [app, gain]
    simp only [Int.toNat_natCast]
    rw [show ((i : Int) + (d : Int)).toNat = i + d from by omega, List.length_append, List.length_append, List.length_drop, List.length_take, hi]
    omega

/-- EditUndone, plain. -/
theorem edit_undone (s : List UInt8) (l : List Ed) (h : checkE s.length l = 0) (hdel : ∀ x ∈ l, x.2.1 ≤ 40) :
    checkE (app s 0 l).length (undoE s 0 l) = 0 ∧ app (app s 0 l) 0 (undoE s 0 l) = s ∧ undoE (app s 0 l) 0 (undoE s 0 l) = l ∧ ∀ x ∈ undoE s 0 l, x.2.1 ≤ 40 := by
  obtain ⟨h0, h1, h2, h3, h4⟩ := checkE_ok h
  have hlen := app_length (s := s) (l := l) (f := true) (e := 0) h3 (fun _ => rfl) (Nat.zero_le _)
  have hall := undo_all (s := s) (t := app s 0 l) (l := l) (f := true) (e := 0) (m := 0) h3 hdel (fun _ => rfl) (by omega) (by omega) (Nat.zero_le _) (by simp)
  have hg := undo_gain (m := 0) h3
  simp only [Int.neg_zero] at hall
  obtain ⟨g1, g2, g3⟩ := hall
  refine ⟨?_, by simpa using g2, g3, ?_⟩
  · rw [checkE_full (by omega) (by omega) (by rw [undo_length]; exact h2) g1, if_neg (by rw [hg]; omega)]
  · intro x hx
    have hins := ok_all h1 h3
    have key : ∀ (l : List Ed) (m : Int), (∀ x ∈ l, x.2.2.size ≤ 40) → ∀ x ∈ undoE s m l, x.2.1 ≤ 40 := by
      intro l
      induction l with
      | nil => intro m _ x hx; cases hx
      | cons y l ih =>
        intro m hl x hx
        rw [undoE] at hx
        rcases List.mem_cons.1 hx with rfl | hx
        · have := hl y List.mem_cons_self
          show (y.2.2.size : Int) ≤ 40; omega
        · exact ih _ (fun z hz => hl z (List.mem_cons_of_mem _ hz)) x hx
    exact key l 0 (fun y hy => (hins y hy).2.2.2) x hx

end Go.Proofs.YtigbnldmjafgmaaDoor
