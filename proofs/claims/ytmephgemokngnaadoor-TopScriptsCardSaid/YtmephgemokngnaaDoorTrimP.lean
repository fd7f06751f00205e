/- Plain: many scripts as one. -/
import Derived.Test.YtmephgemokngnaaDoorDiffP
namespace Go.Proofs.YtmephgemokngnaaDoor
set_option linter.unusedVariables false

/-- A cell of a text: where its byte was, or -1 and the byte that was put. -/
abbrev Cell := Int × UInt8
/-- A script done to cells. -/
def applyC (l : List Cell) : Nat → List Ed → List Cell
  | a, [] => l.drop a
  | a, x :: es => (l.take x.1.toNat).drop a ++ x.2.2.data.toList.map (fun b => ((-1 : Int), b)) ++ applyC l (x.1 + x.2.1).toNat es
/-- What is made ahead of the script's end. -/
def frontC (l : List Cell) : Nat → List Ed → List Cell
  | _, [] => []
  | a, x :: es => (l.take x.1.toNat).drop a ++ x.2.2.data.toList.map (fun b => ((-1 : Int), b)) ++ frontC l (x.1 + x.2.1).toNat es
theorem applyC_front (l : List Cell) : ∀ (es : List Ed) (e : Int), applyC l e.toNat es = frontC l e.toNat es ++ l.drop (endOf e es).toNat
  | [], e => by rw [applyC, frontC, endOf]; rfl
  | x :: es, e => by rw [applyC, frontC, endOf, applyC_front l es]; simp only [List.append_assoc]
theorem frontC_snoc (l : List Cell) (y : Ed) : ∀ (es : List Ed) (e : Int), frontC l e.toNat (es ++ [y]) = frontC l e.toNat es ++ ((l.take y.1.toNat).drop (endOf e es).toNat ++ y.2.2.data.toList.map (fun b => ((-1 : Int), b)))
  | [], e => by simp [frontC, endOf]
  | x :: es, e => by rw [List.cons_append, frontC, frontC, endOf, frontC_snoc l y es]; simp only [List.append_assoc]
theorem endOf_snoc (y : Ed) : ∀ (es : List Ed) (e : Int), endOf e (es ++ [y]) = y.1 + y.2.1
  | [], e => rfl
  | x :: es, e => by rw [List.cons_append, endOf, endOf_snoc y es]
/-- The script that makes the cells. -/
def scr : Int → List UInt8 → List Cell → List Ed
  | _, _, [] => []
  | a, ins, c :: r => if c.1 < 0 then scr a (ins ++ [c.2]) r else (if 0 < c.1 - a ∨ ins ≠ [] then [(a, c.1 - a, e8 ins)] else []) ++ scr (c.1 + 1) [] r
/-- The cells of a text of so many bytes. -/
def cells0 (n : Nat) : List Cell := (List.range n).map fun k => ((k : Nat), (0 : UInt8))
/-- All the scripts done: the error, the cells. -/
def cellsE : List Cell → List (List Ed) → Int × List Cell
  | c, [] => (0, c)
  | c, es :: L => if checkE c.length es ≠ 0 then (checkE c.length es, []) else cellsE (applyC c 0 es) L
/-- The byte that a cell stands for. -/
def dec (s : List UInt8) (c : Cell) : UInt8 := if c.1 < 0 then c.2 else s.getD c.1.toNat 0

theorem dec_apply (s : List UInt8) (l : List Cell) : ∀ (es : List Ed) (a : Nat), (applyC l a es).map (dec s) = app (l.map (dec s)) a es
  | [], a => by rw [applyC, app, List.map_drop]
  | x :: es, a => by
    rw [applyC, app, List.map_append, List.map_append, List.map_drop, List.map_take, dec_apply s l es, List.map_map]
    congr 2
    have : (dec s ∘ fun b => ((-1 : Int), b)) = id := by funext b; rfl
    rw [this, List.map_id]
theorem dec_cells0 (s : List UInt8) : (cells0 s.length).map (dec s) = s := by
  unfold cells0
  rw [List.map_map]
  refine List.ext_getElem (by simp) fun i h1 h2 => ?_
  simp only [List.getElem_map, List.getElem_range, Function.comp, dec]
  rw [if_neg (by omega), Int.toNat_natCast, List.getD_eq_getElem?_getD, List.getElem?_eq_getElem h2]
  rfl

/-- Kept bytes stand in order, from a place on. -/
def Sorted (n : Int) : Int → List Cell → Prop
  | _, [] => True
  | a, c :: r => (0 ≤ c.1 → a ≤ c.1 ∧ c.1 < n) ∧ Sorted n (if 0 ≤ c.1 then c.1 + 1 else a) r
theorem Sorted.mono {n : Int} : ∀ {l : List Cell} {a b : Int}, Sorted n a l → b ≤ a → Sorted n b l
  | [], _, _, _, _ => trivial
  | c :: r, a, b, ⟨h1, h2⟩, h => by
    refine ⟨fun hc => ⟨by have := (h1 hc).1; omega, (h1 hc).2⟩, ?_⟩
    by_cases hc : 0 ≤ c.1
    · rw [if_pos hc] at h2 ⊢; exact h2
    · rw [if_neg hc] at h2 ⊢; exact h2.mono h
/-- Where the order stands behind cells. -/
def endC : Int → List Cell → Int
  | a, [] => a
  | a, c :: r => endC (if 0 ≤ c.1 then c.1 + 1 else a) r
theorem endC_append : ∀ (l m : List Cell) (a : Int), endC a (l ++ m) = endC (endC a l) m
  | [], m, a => rfl
  | c :: l, m, a => by rw [List.cons_append, endC, endC, endC_append l m]
theorem Sorted.append {n : Int} : ∀ {l m : List Cell} {a : Int}, Sorted n a (l ++ m) ↔ Sorted n a l ∧ Sorted n (endC a l) m
  | [], m, a => by simp [Sorted, endC]
  | c :: l, m, a => by
    rw [List.cons_append, Sorted, Sorted, endC, Sorted.append (l := l)]
    exact ⟨fun ⟨a, b, c⟩ => ⟨⟨a, b⟩, c⟩, fun ⟨⟨a, b⟩, c⟩ => ⟨a, b, c⟩⟩
theorem Sorted.le_end {n : Int} : ∀ {l : List Cell} {a : Int}, Sorted n a l → a ≤ endC a l
  | [], a, _ => Int.le_refl _
  | c :: l, a, ⟨h1, h2⟩ => by
    have := h2.le_end
    rw [endC]
    by_cases hc : 0 ≤ c.1
    · rw [if_pos hc] at this ⊢; have := (h1 hc).1; omega
    · rw [if_neg hc] at this ⊢; exact this
theorem sorted_put (n a : Int) : ∀ l : List UInt8, Sorted n a (l.map (fun b => ((-1 : Int), b))) ∧ endC a (l.map (fun b => ((-1 : Int), b))) = a
  | [] => ⟨trivial, rfl⟩
  | x :: l => by
    obtain ⟨h1, h2⟩ := sorted_put n a l
    exact ⟨⟨fun h => absurd h (by simp), by simpa using h1⟩, by simpa [endC] using h2⟩
theorem sorted_cells0 (n : Nat) : Sorted n 0 (cells0 n) := by
  have : ∀ (k m : Nat), k + m ≤ n → Sorted n k ((List.range' k m).map fun k => (((k : Nat) : Int), (0 : UInt8))) := by
    intro k m
    induction m generalizing k with
    | zero => exact fun _ => trivial
    | succ m ih =>
      intro h
      rw [List.range'_succ, List.map_cons]
      refine ⟨fun _ => ⟨Int.le_refl _, by simp only; omega⟩, ?_⟩
      rw [if_pos (by simp only; omega)]
      exact ih (k + 1) (by omega)
  have h := this 0 n (by omega)
  rw [← List.range_eq_range'] at h
  exact h
theorem dropC_cut (l : List Cell) (a b : Nat) (h : a ≤ b) : l.drop a = (l.take b).drop a ++ l.drop b := by
  by_cases hb : b ≤ l.length
  · have e : l = l.take b ++ l.drop b := (List.take_append_drop b l).symm
    have e2 : l.drop a = (l.take b ++ l.drop b).drop a := by rw [← e]
    rw [e2, List.drop_append_of_le_length (by rw [List.length_take]; omega)]
  · rw [List.take_of_length_le (l := l) (i := b) (by omega), List.drop_of_length_le (l := l) (i := b) (by omega), List.append_nil]
theorem sorted_apply {n m : Int} {l : List Cell} (hm : l.length = m) : ∀ {es : List Ed} {f : Bool} {e : Nat} {a : Int}, OkE m f e es → (f = true → e = 0) → e ≤ l.length → Sorted n (endC a (l.take e)) (l.drop e) → Sorted n (endC a (l.take e)) (applyC l e es)
  | [], f, e, a, _, _, _, h => h
  | x :: es, f, e, a, ⟨h1, h2, h3, h4, h5, h6, h7⟩, hf, he, h => by
    obtain ⟨i, hi⟩ : ∃ i : Nat, x.1 = i := ⟨x.1.toNat, by omega⟩
    obtain ⟨q, hq⟩ : ∃ q : Nat, x.1 + x.2.1 = q := ⟨(x.1 + x.2.1).toNat, by omega⟩
    have hei : e ≤ i := by
      cases f with
      | true => rw [hf rfl]; omega
      | false => have := h6 rfl; omega
    rw [hq] at h7
    rw [applyC, hq, hi, Int.toNat_natCast, Int.toNat_natCast]
    have e1 : l.drop e = (l.take i).drop e ++ l.drop i := dropC_cut l e i hei
    have e2 : l.drop i = (l.take q).drop i ++ l.drop q := dropC_cut l i q (by omega)
    rw [e1, Sorted.append, e2, Sorted.append] at h
    obtain ⟨s1, s2, s3⟩ := h
    have t1 : endC a (l.take i) = endC (endC a (l.take e)) ((l.take i).drop e) := by
      rw [← endC_append]; congr 1
      conv => lhs; rw [← List.take_append_drop e (l.take i)]
      rw [List.take_take, Nat.min_eq_left hei]
    have t2 : endC a (l.take q) = endC (endC a (l.take i)) ((l.take q).drop i) := by
      rw [← endC_append]; congr 1
      conv => lhs; rw [← List.take_append_drop i (l.take q)]
      rw [List.take_take, Nat.min_eq_left (by omega)]
    rw [← t1] at s2 s3
    rw [← t2] at s3
    have ih := sorted_apply hm h7 (fun h => by cases h) (by omega) s3
    obtain ⟨p1, p2⟩ := sorted_put n (endC a (l.take i)) x.2.2.data.toList
    rw [List.append_assoc, Sorted.append, Sorted.append, ← t1, p2]
    exact ⟨s1, p1, ih.mono (by rw [t2]; exact s2.le_end)⟩

/-- The script makes the bytes that the cells stand for. -/
theorem scr_app (s : List UInt8) : ∀ (l : List Cell) (at_ a : Nat) (ins : List UInt8), Sorted s.length at_ l → a ≤ at_ → at_ ≤ s.length →
    app s a (scr at_ ins (l ++ [(((s.length : Nat) : Int), (0 : UInt8))])) = (s.take at_).drop a ++ ins ++ l.map (dec s)
  | [], at_, a, ins, _, ha, hs => by
    rw [List.nil_append, scr, if_neg (by simp only; omega), scr, List.append_nil, List.map_nil, List.append_nil]
    by_cases h : 0 < ((s.length : Nat) : Int) - at_ ∨ ins ≠ []
    · rw [if_pos h, app, app, e8_list]
      simp only [Int.toNat_natCast]
      rw [show ((at_ : Int) + ((s.length : Int) - at_)).toNat = s.length from by omega, List.drop_of_length_le (Nat.le_refl _), List.append_nil]
    · have hi : ins = [] := by
        by_cases hh : ins = []
        · exact hh
        · exact absurd (.inr hh) h
      have : ¬ 0 < ((s.length : Nat) : Int) - at_ := fun hh => h (.inl hh)
      rw [if_neg h, app, hi, List.append_nil, List.take_of_length_le (by omega)]
  | c :: l, at_, a, ins, ⟨h1, h2⟩, ha, hs => by
    rw [List.cons_append, scr, List.map_cons]
    by_cases hc : c.1 < 0
    · rw [if_neg (by omega)] at h2
      rw [if_pos hc, scr_app s l at_ a (ins ++ [c.2]) h2 ha hs]
      have : dec s c = c.2 := by unfold dec; rw [if_pos hc]
      rw [this]
      simp
    · obtain ⟨h3, h4⟩ := h1 (by omega)
      rw [if_pos (by omega)] at h2
      rw [if_neg hc]
      obtain ⟨p, hp⟩ : ∃ p : Nat, c.1 = p := ⟨c.1.toNat, by omega⟩
      rw [hp] at h2 h3 h4 ⊢
      have hps : p < s.length := by omega
      have hd : dec s c = s.getD p 0 := by unfold dec; rw [if_neg hc, hp, Int.toNat_natCast]
      have hsp : (s.take (p + 1)).drop p = [s.getD p 0] := by rw [take_succ_getD s p 0 hps, List.drop_append_of_le_length (by rw [List.length_take]; omega), List.drop_of_length_le (by rw [List.length_take]; omega)]; rfl
      by_cases h : 0 < (p : Int) - at_ ∨ ins ≠ []
      · rw [if_pos h, List.cons_append, List.nil_append, app, e8_list]
        simp only [Int.toNat_natCast]
        rw [show ((at_ : Int) + ((p : Int) - at_)).toNat = p from by omega]
        have ih := scr_app s l (p + 1) p [] h2 (by omega) (by omega)
        rw [Int.natCast_add, Int.natCast_one] at ih
        rw [ih, hsp, hd]
        simp
      · have hi : ins = [] := by
          by_cases hh : ins = []
          · exact hh
          · exact absurd (.inr hh) h
        have hat : at_ = p := by
          have : ¬ 0 < (p : Int) - at_ := fun hh => h (.inl hh)
          omega
        rw [if_neg h, List.nil_append, hi, List.append_nil]
        have ih := scr_app s l (p + 1) a [] h2 (by omega) (by omega)
        rw [Int.natCast_add, Int.natCast_one] at ih
        rw [ih, hd, hat, List.append_nil, take_drop_cut s a p (p + 1) (by omega) (by omega), hsp]
        simp

theorem cellsE_good (s : List UInt8) : ∀ (L : List (List Ed)) (c : List Cell), Sorted s.length 0 c → (cellsE c L).1 = 0 → Sorted s.length 0 (cellsE c L).2
  | [], c, h, _ => h
  | es :: L, c, h, h0 => by
    rw [cellsE] at h0 ⊢
    by_cases hk : checkE c.length es = 0
    · rw [if_neg (by simpa using hk)] at h0 ⊢
      obtain ⟨_, _, _, ok, _⟩ := checkE_ok hk
      exact cellsE_good s L _ (sorted_apply (n := s.length) (a := 0) (e := 0) rfl ok (fun _ => rfl) (Nat.zero_le _) h) h0
    · rw [if_pos hk] at h0; exact absurd h0 hk
end Go.Proofs.YtmephgemokngnaaDoor
