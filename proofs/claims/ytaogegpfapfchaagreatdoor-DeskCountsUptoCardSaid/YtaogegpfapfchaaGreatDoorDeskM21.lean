import Derived.Test.YtaogegpfapfchaaGreatDoorDeskM04
import Derived.Laws.RangeAny
import Derived.Laws.RangeString
import Derived.Test.YtaogegpfapfchaaGreatDoorDeskM01
/- Several texts in one: XIter XWord. -/
/- A range over a string, in whatever world. -/
namespace Go.Proofs.YtaogegpfapfchaaGreatDoor
open Go.RowKit
set_option linter.unusedVariables false

def IterAt (w : World) (g : Nat) (s : ByteArray) (p : Nat) : Prop := w.heap[g]? = some (.stringIter s p)
def iterTo (w : World) (g : Nat) (s : ByteArray) (p : Nat) : World := { w with heap := w.heap.setIfInBounds g (.stringIter s p) }
section
variable {P : Program} {w : World} {g : Nat} {s : ByteArray} {p : Nat}
theorem IterAt.lt (h : IterAt w g s p) : g < w.heap.size := (Array.getElem?_eq_some_iff.1 h).1
theorem IterAt.iter (w : World) (s : ByteArray) (p : Nat) : IterAt (w.iter s p) w.heap.size s p := World.iter_heap w s p
theorem IterAt.pos (h : IterAt w g s p) : w.iterPos g = p := by unfold World.iterPos; rw [h]
theorem IterAt.to (h : IterAt w g s p) (q : Nat) : IterAt (iterTo w g s q) g s q := by
  show (w.heap.setIfInBounds g _)[g]? = _
  rw [Array.getElem?_setIfInBounds, if_pos rfl, if_pos h.lt]
theorem IterAt.drewN (h : IterAt w g s p) (n : Nat) : IterAt (w.drewN n) g s p := h
theorem iterTo_below {B : Nat} {a : World} (hb : Below B a w) (hg : B ≤ g) (q : Nat) : Below B a (iterTo w g s q) :=
  hb.trans ⟨rfl, rfl, rfl, by show _ ≤ (w.heap.setIfInBounds g _).size; rw [Array.size_setIfInBounds]; exact Nat.le_refl _, fun k hk => by
    show (w.heap.setIfInBounds g _)[k]? = _
    rw [Array.getElem?_setIfInBounds, if_neg (by omega)]⟩
theorem next_some (h : IterAt w g s p) (hp : p < s.size) (ty : TypeId) :
    (Instr.next (.pointer (some ⟨g, 0, none⟩)) true ty).run P w = .ok (.tuple #[.bool true, .int .i64 p, .int .i32 (Utf8.decode s p).1]) (iterTo w g s (p + (Utf8.decode s p).2)) := by
  have hh : w.heap[g]? = some (.stringIter s p) := h
  simp only [Instr.next, getObj, setObj, Sem.run_bind, Sem.run, hh, Result.andThen, hp, if_true]
  simp [goInt, iterTo]
theorem next_none (h : IterAt w g s p) (hp : ¬ p < s.size) (ty : TypeId) :
    (Instr.next (.pointer (some ⟨g, 0, none⟩)) true ty).run P w = .ok (.tuple #[.bool false]) w := by
  have hh : w.heap[g]? = some (.stringIter s p) := h
  simp only [Instr.next, getObj, setObj, Sem.run_bind, Sem.run, hh, Result.andThen, hp, if_false]
  rfl
theorem iter_width (s : ByteArray) (pos : Nat) (h : pos < s.size) : 1 ≤ (Utf8.decode s pos).2 := by
  by_cases ha : (s[pos]'h).toNat < 128
  · rw [decode_ascii s pos h ha]
    exact Nat.le_refl _
  · exact (decode_high s pos h (by omega)).2
end
/-- A number of a list that lies there. -/
theorem ints_cell {w : World} {B N : Nat} {b o : Nat} {L : List Int} (h : Reads w B (some ⟨b, o, none⟩) N 1 (L.flatMap cInt)) (hN : L.length = N) (j : Nat) (hj : j < N) : w.cell? ⟨b, o + j, none⟩ = some (.int .i64 (L.getD j 0)) := by
  obtain ⟨b', o', hA, _, hc⟩ := h.2 (by omega)
  injection hA with hA
  injection hA with e1 e2
  subst e1 e2
  have c0 := hc (j * 1 + 0) (by rw [flat_length cInt 1 cInt_len, hN]; omega)
  rw [flat_getD cInt 1 cInt_len 0 L j _ (by rw [hN]; exact hj) (by omega)] at c0
  simpa only [cInt, List.getD_cons_zero, Nat.mul_one, Nat.add_zero] using c0
end Go.Proofs.YtaogegpfapfchaaGreatDoor

/- Plain: borders and periods of a word (Knuth, Morris, Pratt; Fine, Wilf). -/
namespace Go.Proofs.YtaogegpfapfchaaGreatDoor
set_option linter.unusedVariables false

/-- The first p bytes begin with b bytes as they end. -/
def Bd (s : List UInt8) (p b : Nat) : Prop := b < p ∧ ∀ j, j < b → s.getD j 0 = s.getD (p - b + j) 0
instance (s : List UInt8) (p b : Nat) : Decidable (Bd s p b) := by unfold Bd; exact inferInstance
theorem bd_zero (s : List UInt8) {p : Nat} (hp : 0 < p) : Bd s p 0 := ⟨hp, fun j hj => by omega⟩
theorem bd_step (s : List UInt8) (p b : Nat) : Bd s (p + 1) (b + 1) ↔ Bd s p b ∧ s.getD b 0 = s.getD p 0 := by
  constructor
  · rintro ⟨h1, h2⟩
    refine ⟨⟨by omega, fun j hj => ?_⟩, ?_⟩
    · have := h2 j (by omega)
      rwa [show p + 1 - (b + 1) + j = p - b + j from by omega] at this
    · have := h2 b (by omega)
      rwa [show p + 1 - (b + 1) + b = p from by omega] at this
  · rintro ⟨⟨h1, h2⟩, h3⟩
    refine ⟨by omega, fun j hj => ?_⟩
    rw [show p + 1 - (b + 1) + j = p - b + j from by omega]
    by_cases e : j = b
    · rw [e, h3, show p - b + b = p from by omega]
    · exact h2 j (by omega)
/-- Borders of borders. -/
theorem bd_trans {s : List UInt8} {p b c : Nat} (h : Bd s p b) (h' : Bd s b c) : Bd s p c := by
  refine ⟨by have := h.1; have := h'.1; omega, fun j hj => ?_⟩
  have h1 := h'.2 j hj
  have h2 := h.2 (b - c + j) (by have := h'.1; omega)
  rw [h1, h2]
  have := h.1; have := h'.1
  congr 1; omega
theorem bd_inner {s : List UInt8} {p b c : Nat} (h : Bd s p b) (h' : Bd s p c) (hc : c < b) : Bd s b c := by
  refine ⟨hc, fun j hj => ?_⟩
  have h1 := h'.2 j hj
  have h2 := h.2 (b - c + j) (by omega)
  rw [h1, h2]
  have := h.1
  congr 1; omega

/-- The greatest border below m. -/
def lbd (s : List UInt8) (p : Nat) : Nat → Nat
  | 0 => 0
  | m + 1 => if Bd s p m then m else lbd s p m
/-- The longest border of the first p bytes. -/
def pi (s : List UInt8) (p : Nat) : Nat := lbd s p p
theorem lbd_ok (s : List UInt8) {p : Nat} (hp : 0 < p) : ∀ m, Bd s p (lbd s p m) ∧ ∀ c, c < m → Bd s p c → c ≤ lbd s p m
  | 0 => ⟨bd_zero s hp, fun c hc => by omega⟩
  | m + 1 => by
    rw [lbd]
    by_cases h : Bd s p m
    · rw [if_pos h]; exact ⟨h, fun c hc _ => by omega⟩
    · rw [if_neg h]
      obtain ⟨h1, h2⟩ := lbd_ok s hp m
      refine ⟨h1, fun c hc hb => ?_⟩
      by_cases e : c = m
      · rw [e] at hb; exact absurd hb h
      · exact h2 c (by omega) hb
theorem pi_bd (s : List UInt8) {p : Nat} (hp : 0 < p) : Bd s p (pi s p) := (lbd_ok s hp p).1
theorem pi_max (s : List UInt8) {p c : Nat} (hc : Bd s p c) : c ≤ pi s p := (lbd_ok s (by have := hc.1; omega) p).2 c hc.1 hc
theorem pi_lt (s : List UInt8) {p : Nat} (hp : 0 < p) : pi s p < p := (pi_bd s hp).1
theorem pi_zero (s : List UInt8) : pi s 0 = 0 := rfl
theorem pi_one (s : List UInt8) : pi s 1 = 0 := by have := pi_lt s (p := 1) (by omega); omega
theorem pi_unique {s : List UInt8} {p b : Nat} (h : Bd s p b) (hm : ∀ c, Bd s p c → c ≤ b) : pi s p = b :=
  Nat.le_antisymm (hm _ (pi_bd s (by have := h.1; omega))) (pi_max s h)
/-- What holds in the loop that looks for the next border of i bytes. -/
def Cand (s : List UInt8) (i k : Nat) : Prop := Bd s i k ∧ ∀ b, Bd s i b → s.getD b 0 = s.getD i 0 → b ≤ k
theorem cand_start (s : List UInt8) {i : Nat} (hi : 0 < i) : Cand s i (pi s i) := ⟨pi_bd s hi, fun b hb _ => pi_max s hb⟩
theorem cand_next {s : List UInt8} {i k : Nat} (h : Cand s i k) (hk : 0 < k) (hne : s.getD k 0 ≠ s.getD i 0) : Cand s i (pi s k) := by
  refine ⟨bd_trans h.1 (pi_bd s hk), fun b hb he => ?_⟩
  have h1 := h.2 b hb he
  have h2 : b < k := by
    rcases Nat.lt_or_ge b k with h3 | h3
    · exact h3
    · rw [show b = k from by omega] at he; exact absurd he hne
  exact pi_max s (bd_inner h.1 hb h2)
theorem cand_hit {s : List UInt8} {i k : Nat} (h : Cand s i k) (he : s.getD k 0 = s.getD i 0) : pi s (i + 1) = k + 1 := by
  refine pi_unique ((bd_step s i k).2 ⟨h.1, he⟩) fun c hc => ?_
  cases c with
  | zero => omega
  | succ c =>
    obtain ⟨h1, h2⟩ := (bd_step s i c).1 hc
    have := h.2 c h1 h2
    omega
theorem cand_miss {s : List UInt8} {i : Nat} (h : Cand s i 0) (he : s.getD 0 0 ≠ s.getD i 0) : pi s (i + 1) = 0 := by
  refine pi_unique (bd_zero s (by omega)) fun c hc => ?_
  cases c with
  | zero => omega
  | succ c =>
    obtain ⟨h1, h2⟩ := (bd_step s i c).1 hc
    have := h.2 c h1 h2
    rw [show c = 0 from by omega] at h2
    exact absurd h2 he

/-- The numbers that are told. -/
def bordersOf (s : List UInt8) : List Int := (List.range s.length).map fun i => ((pi s (i + 1) : Nat) : Int)
theorem bordersOf_length (s : List UInt8) : (bordersOf s).length = s.length := by simp [bordersOf]
theorem bordersOf_at (s : List UInt8) (i : Nat) (h : i < s.length) : (bordersOf s).getD i 0 = ((pi s (i + 1) : Nat) : Int) := by
  unfold bordersOf
  rw [getD_some _ _ _ (by simpa using h), List.getElem_map, List.getElem_range]

/-- From a border on: all periods. -/
def pchain (s : List UInt8) : Nat → Nat → List Nat
  | 0, _ => []
  | f + 1, k => if k = 0 then [] else (s.length - k) :: pchain s f (pi s k)
/-- All periods, rising. -/
def periodsOf (s : List UInt8) : List Nat := if s.length = 0 then [] else pchain s s.length (pi s s.length) ++ [s.length]
/-- Each byte is the one so many behind it. -/
def Per (s : List UInt8) (p : Nat) : Prop := ∀ j, j + p < s.length → s.getD j 0 = s.getD (j + p) 0
instance (s : List UInt8) (p : Nat) : Decidable (Per s p) := decidable_of_iff (∀ j, j < s.length → j + p < s.length → s.getD j 0 = s.getD (j + p) 0) ⟨fun h j hj => h j (by omega) hj, fun h j _ hj => h j hj⟩
theorem per_bd {s : List UInt8} {b : Nat} (h : b < s.length) : Bd s s.length b ↔ Per s (s.length - b) := by
  constructor
  · rintro ⟨_, h2⟩ j hj
    have := h2 j (by omega)
    rwa [Nat.add_comm] at this
  · intro h1
    refine ⟨h, fun j hj => ?_⟩
    have := h1 j (by omega)
    rwa [Nat.add_comm j] at this
theorem pchain_mem (s : List UInt8) (p : Nat) : ∀ f k, k ≤ f → k < s.length → (k = 0 ∨ Bd s s.length k) → (p ∈ pchain s f k ↔ ∃ b, 0 < b ∧ b ≤ k ∧ p = s.length - b ∧ Bd s s.length b)
  | 0, k, hf, hk, hb => by
    obtain rfl : k = 0 := by omega
    exact ⟨fun h => by simp [pchain] at h, fun ⟨b, h1, h2, _⟩ => by omega⟩
  | f + 1, k, hf, hk, hb => by
    rw [pchain]
    by_cases h0 : k = 0
    · rw [if_pos h0]
      exact ⟨fun h => by simp at h, fun ⟨b, h1, h2, _⟩ => by omega⟩
    · rw [if_neg h0]
      have hb := hb.resolve_left h0
      have hl := pi_lt s (p := k) (by omega)
      have ih := pchain_mem s p f (pi s k) (by omega) (by omega) (.inr (bd_trans hb (pi_bd s (by omega))))
      rw [List.mem_cons, ih]
      constructor
      · rintro (h | ⟨b, h1, h2, h3, h4⟩)
        · exact ⟨k, by omega, Nat.le_refl _, h, hb⟩
        · exact ⟨b, h1, by omega, h3, h4⟩
      · rintro ⟨b, h1, h2, h3, h4⟩
        by_cases e : b = k
        · rw [e] at h3; exact .inl h3
        · exact .inr ⟨b, h1, pi_max s (bd_inner hb h4 (by omega)), h3, h4⟩
theorem pchain_rise (s : List UInt8) : ∀ f k, k ≤ f → k < s.length → (k = 0 ∨ Bd s s.length k) → (pchain s f k).Pairwise (· < ·)
  | 0, k, _, _, _ => by simp [pchain]
  | f + 1, k, hf, hk, hb => by
    rw [pchain]
    by_cases h0 : k = 0
    · rw [if_pos h0]; exact List.Pairwise.nil
    · rw [if_neg h0]
      have hb := hb.resolve_left h0
      have hl := pi_lt s (p := k) (by omega)
      have hb2 := Or.inr (a := pi s k = 0) (bd_trans hb (pi_bd s (by omega : 0 < k)))
      refine List.pairwise_cons.2 ⟨fun q hq => ?_, pchain_rise s f (pi s k) (by omega) (by omega) hb2⟩
      obtain ⟨b, h1, h2, h3, h4⟩ := (pchain_mem s q f (pi s k) (by omega) (by omega) hb2).1 hq
      omega
theorem pchain_fuel (s : List UInt8) : ∀ f f' k, k ≤ f → k ≤ f' → pchain s f k = pchain s f' k
  | 0, f', k, h1, h2 => by
    obtain rfl : k = 0 := by omega
    cases f' <;> rfl
  | f + 1, 0, k, h1, h2 => by
    obtain rfl : k = 0 := by omega
    rfl
  | f + 1, f' + 1, k, h1, h2 => by
    rw [pchain, pchain]
    by_cases h0 : k = 0
    · rw [if_pos h0, if_pos h0]
    · have hl := pi_lt s (p := k) (by omega)
      rw [if_neg h0, if_neg h0, pchain_fuel s f f' (pi s k) (by omega) (by omega)]
theorem mem_periods (s : List UInt8) (p : Nat) : p ∈ periodsOf s ↔ 0 < p ∧ p ≤ s.length ∧ Per s p := by
  unfold periodsOf
  by_cases h0 : s.length = 0
  · rw [if_pos h0]; exact ⟨fun h => by simp at h, fun ⟨h1, h2, _⟩ => by omega⟩
  · rw [if_neg h0]
    have hl := pi_lt s (p := s.length) (by omega)
    rw [List.mem_append, List.mem_singleton, pchain_mem s p s.length _ (by omega) hl (.inr (pi_bd s (by omega)))]
    constructor
    · rintro (⟨b, h1, h2, rfl, h4⟩ | rfl)
      · have := h4.1
        exact ⟨by omega, by omega, (per_bd this).1 h4⟩
      · exact ⟨by omega, Nat.le_refl _, fun j hj => by omega⟩
    · rintro ⟨h1, h2, h3⟩
      by_cases e : p = s.length
      · exact .inr e
      · left
        have hb : Bd s s.length (s.length - p) := (per_bd (by omega)).2 (by rwa [show s.length - (s.length - p) = p from by omega])
        exact ⟨s.length - p, by omega, pi_max s hb, by omega, hb⟩
theorem periods_rise (s : List UInt8) : (periodsOf s).Pairwise (· < ·) := by
  unfold periodsOf
  by_cases h0 : s.length = 0
  · rw [if_pos h0]; exact List.Pairwise.nil
  · rw [if_neg h0]
    have hl := pi_lt s (p := s.length) (by omega)
    have hb := Or.inr (a := pi s s.length = 0) (pi_bd s (by omega : 0 < s.length))
    refine List.pairwise_append.2 ⟨pchain_rise s _ _ (by omega) hl hb, by simp, fun a ha b hb' => ?_⟩
    rw [List.mem_singleton] at hb'
    obtain ⟨c, h1, h2, h3, h4⟩ := (pchain_mem s a s.length _ (by omega) hl hb).1 ha
    omega
theorem periods_length (s : List UInt8) : (periodsOf s).length ≤ s.length + 1 := by
  have h : ∀ f k, (pchain s f k).length ≤ f := by
    intro f
    induction f with
    | zero => intro k; exact Nat.le_refl _
    | succ f ih =>
      intro k
      rw [pchain]
      split
      · simp
      · rw [List.length_cons]; have := ih (pi s k); omega
  unfold periodsOf
  split
  · simp
  · rw [List.length_append, List.length_singleton]; have := h s.length (pi s s.length); omega

/-- The root: its length, by the least period that goes into the length. -/
def rootLen (s : List UInt8) : Nat := ((periodsOf s).find? fun p => s.length % p == 0).getD 0
def rootOf (s : List UInt8) : List UInt8 := s.take (rootLen s)
def expOf (s : List UInt8) : Nat := s.length / rootLen s
theorem find_least : ∀ (l : List Nat) (f : Nat → Bool), l.Pairwise (· < ·) → ∀ x, l.find? f = some x → x ∈ l ∧ f x = true ∧ ∀ y ∈ l, f y = true → x ≤ y
  | [], f, _, x, h => by simp at h
  | a :: l, f, hp, x, h => by
    obtain ⟨h1, h2⟩ := List.pairwise_cons.1 hp
    rw [List.find?_cons] at h
    by_cases ha : f a = true
    · rw [ha] at h
      injection h with h
      subst h
      exact ⟨by simp, ha, fun y hy _ => by
        rcases List.mem_cons.1 hy with rfl | hy
        · exact Nat.le_refl _
        · exact Nat.le_of_lt (h1 y hy)⟩
    · rw [Bool.eq_false_iff.2 ha] at h
      obtain ⟨g1, g2, g3⟩ := find_least l f h2 x h
      refine ⟨by simp [g1], g2, fun y hy hfy => ?_⟩
      rcases List.mem_cons.1 hy with rfl | hy
      · exact absurd hfy ha
      · exact g3 y hy hfy
/-- A period that goes into the length. -/
def DPer (s : List UInt8) (p : Nat) : Prop := 0 < p ∧ s.length % p = 0 ∧ Per s p
theorem root_ok (s : List UInt8) (h : 0 < s.length) : DPer s (rootLen s) ∧ rootLen s ≤ s.length ∧ ∀ q, DPer s q → rootLen s ≤ q := by
  have hm : s.length ∈ periodsOf s := (mem_periods s s.length).2 ⟨h, Nat.le_refl _, fun j hj => by omega⟩
  cases hf : (periodsOf s).find? fun p => s.length % p == 0 with
  | none =>
    have := List.find?_eq_none.1 hf s.length hm
    simp at this
  | some x =>
    have hr : rootLen s = x := by unfold rootLen; rw [hf]; rfl
    obtain ⟨g1, g2, g3⟩ := find_least _ _ (periods_rise s) x hf
    obtain ⟨k1, k2, k3⟩ := (mem_periods s x).1 g1
    rw [hr]
    refine ⟨⟨k1, by simpa using g2, k3⟩, k2, fun q hq => ?_⟩
    have hq2 : q ≤ s.length := Nat.le_of_dvd h (Nat.dvd_of_mod_eq_zero hq.2.1)
    exact g3 q ((mem_periods s q).2 ⟨hq.1, hq2, hq.2.2⟩) (by simp [hq.2.1])
theorem rootLen_eq {s : List UInt8} {r : Nat} (h : 0 < s.length) (hd : DPer s r) (hm : ∀ q, DPer s q → r ≤ q) : rootLen s = r := by
  obtain ⟨h1, _, h3⟩ := root_ok s h
  exact Nat.le_antisymm (h3 r hd) (hm _ h1)
theorem rootLen_nil : rootLen [] = 0 := rfl

end Go.Proofs.YtaogegpfapfchaaGreatDoor

