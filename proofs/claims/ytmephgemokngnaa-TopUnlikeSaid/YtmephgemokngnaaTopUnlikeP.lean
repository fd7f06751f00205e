/- Plain: how many new texts, and which new palindrome, a byte more brings. -/
import Derived.Test.YtmephgemokngnaaMirrorQ
namespace Go.Proofs.Ytmephgemokngnaa
set_option linter.unusedVariables false

/-- The end of so many bytes. -/
def endW (w : List UInt8) (k : Nat) : List UInt8 := w.drop (w.length - k)
theorem endW_len {w : List UInt8} {k : Nat} (h : k ≤ w.length) : (endW w k).length = k := by unfold endW; rw [List.length_drop]; omega
theorem endW_suffix (w : List UInt8) (k : Nat) : endW w k <:+ w := List.drop_suffix _ _
theorem suffix_end {w x : List UInt8} (h : x <:+ w) : x = endW w x.length := by
  obtain ⟨a, rfl⟩ := h
  unfold endW
  rw [List.length_append, Nat.add_sub_cancel, List.drop_left]
theorem endW_end {w : List UInt8} {j k : Nat} (h : j ≤ k) (hk : k ≤ w.length) : endW w j <:+ endW w k := by
  unfold endW
  rw [show w.length - j = (w.length - k) + (k - j) by omega, ← List.drop_drop]
  exact List.drop_suffix _ _
theorem sub_of {s x y : List UInt8} (h : Sub s y) (hx : x ≠ []) (hxy : x <:+ y) : Sub s x := by
  rw [sub_infix] at *
  exact ⟨hx, hxy.isInfix.trans h.2⟩
/-- The longest end that stands in s. -/
structure LongE (s w : List UInt8) (k : Nat) : Prop where
  le : k ≤ w.length
  at_ : k = 0 ∨ Sub s (endW w k)
  most : ∀ j, k < j → j ≤ w.length → ¬ Sub s (endW w j)
theorem top_new {s : List UInt8} {b : UInt8} {k n m : Nat} (hk : LongE s (s ++ [b]) k) (h : Many (Sub s) n) (h' : Many (Sub (s ++ [b])) m) : m = n + ((s ++ [b]).length - k) := by
  obtain ⟨l, h1, h2, rfl⟩ := h
  obtain ⟨w, hw⟩ : ∃ w, w = s ++ [b] := ⟨_, rfl⟩
  refine h'.eq ⟨l ++ (List.range ((s ++ [b]).length - k)).map fun j => (s ++ [b]).drop j, ?_, fun x => ?_, by rw [List.length_append, List.length_map, List.length_range]⟩
  · rw [List.nodup_append]
    refine ⟨h1, ?_, fun x hx y hy => ?_⟩
    · rw [List.nodup_iff_pairwise_ne, List.pairwise_map]
      refine List.Pairwise.imp_of_mem (fun {a c} ha hc h e => h ?_) (List.nodup_range (n := (s ++ [b]).length - k))
      rw [List.mem_range] at ha hc
      have := congrArg List.length e
      rw [List.length_drop, List.length_drop] at this
      omega
    · rintro rfl
      obtain ⟨j, hj, rfl⟩ := List.mem_map.1 hy
      rw [List.mem_range] at hj
      refine hk.most ((s ++ [b]).length - j) (by omega) (by omega) ?_
      unfold endW
      rw [show (s ++ [b]).length - ((s ++ [b]).length - j) = j by omega]
      exact (h2 _).1 hx
  · rw [List.mem_append, h2]
    constructor
    · rintro (hx | hx)
      · rw [sub_infix] at *
        exact ⟨hx.1, hx.2.trans ⟨[], [b], by simp⟩⟩
      · obtain ⟨j, hj, rfl⟩ := List.mem_map.1 hx
        rw [List.mem_range] at hj
        rw [sub_infix]
        refine ⟨fun e => ?_, (List.drop_suffix _ _).isInfix⟩
        have := congrArg List.length e
        rw [List.length_drop, List.length_nil] at this
        omega
    · intro hx
      by_cases hs : Sub s x
      · exact .inl hs
      · right
        have hsuf := pal_new hx hs
        have e := suffix_end hsuf
        have hl := hsuf.length_le
        rw [List.mem_map]
        refine ⟨(s ++ [b]).length - x.length, List.mem_range.2 ?_, e.symm⟩
        have hgt : k < x.length := Nat.lt_of_not_le fun hle => by
          rcases hk.at_ with h0 | h0
          · have := List.length_pos_iff.2 (sub_infix.1 hx).1
            omega
          · refine hs (sub_of h0 (sub_infix.1 hx).1 ?_)
            rw [e]
            exact endW_end hle hk.le
        omega
/-- The longest palindrome at the end. -/
structure LastP (w : List UInt8) (k : Nat) : Prop where
  pos : 0 < k
  le : k ≤ w.length
  pal : (endW w k).reverse = endW w k
  most : ∀ j, k < j → j ≤ w.length → (endW w j).reverse ≠ endW w j
theorem top_fresh {s : List UInt8} {b : UInt8} {k x y : Nat} (hk : LastP (s ++ [b]) k) (h : Many (Pal s) x) (h' : Many (Pal (s ++ [b])) y) : (Sub s (endW (s ++ [b]) k) → y = x) ∧ (¬ Sub s (endW (s ++ [b]) k) → y = x + 1) := by
  have hne : endW (s ++ [b]) k ≠ [] := fun e => by
    have := congrArg List.length e
    rw [endW_len hk.le, List.length_nil] at this
    have := hk.pos
    omega
  have hz : Pal (s ++ [b]) (endW (s ++ [b]) k) := ⟨sub_infix.2 ⟨hne, (endW_suffix _ _).isInfix⟩, hk.pal⟩
  have hnew : ∀ p, Pal (s ++ [b]) p → ¬ Sub s p → p <:+ endW (s ++ [b]) k := fun p hp hn => by
    have hsuf := pal_new hp.1 hn
    have e := suffix_end hsuf
    have hl := hsuf.length_le
    have hle : p.length ≤ k := Nat.le_of_not_lt fun hlt => hk.most p.length hlt hl (by rw [← e]; exact hp.2)
    rw [e]
    exact endW_end hle hk.le
  constructor
  · intro hs
    refine Nat.le_antisymm (h'.le h fun p hp => ⟨?_, hp.2⟩) (h.le h' fun p hp => pal_more hp)
    rcases Classical.em (Sub s p) with hsp | hsp
    · exact hsp
    · exact sub_of hs (sub_infix.1 hp.1).1 (hnew p hp hsp)
  · intro hs
    obtain ⟨l, h1, h2, rfl⟩ := h
    refine h'.eq ⟨endW (s ++ [b]) k :: l, List.nodup_cons.2 ⟨fun hm => hs ((h2 _).1 hm).1, h1⟩, fun p => ?_, by rw [List.length_cons]⟩
    rw [List.mem_cons, h2]
    constructor
    · rintro (rfl | hp)
      · exact hz
      · exact pal_more hp
    · intro hp
      rcases Classical.em (Sub s p) with hsp | hsp
      · exact .inr ⟨hsp, hp.2⟩
      · left
        have hsuf := hnew p hp hsp
        have hle := hsuf.length_le
        rcases Nat.lt_or_ge p.length (endW (s ++ [b]) k).length with hlt | hge
        · exact (pal_one hp hz hlt hs hsp).elim
        · exact hsuf.eq_of_length (Nat.le_antisymm hle hge)
/-- Arms that reach the end are palindromes there. -/
theorem arm_end {w : List UInt8} {k r : Nat} (h : IsArm w k r) (he : k + r = 2 * w.length) : (endW w r).reverse = endW w r ∧ r ≤ w.length := by
  have hb := isArm_bd h
  have hr : r ≤ w.length := by omega
  refine ⟨?_, hr⟩
  have hk : k = r + 2 * (w.length - r) := by omega
  rw [hk] at h
  have := arm_pal h.1
  have e : seg w (w.length - r) r = endW w r := by unfold seg endW; rw [List.take_of_length_le]; rw [List.length_drop]; omega
  rwa [e] at this
theorem end_arm {w : List UInt8} {f : Nat → Nat} (hf : ∀ k, k < 2 * w.length + 1 → IsArm w k (f k)) {j : Nat} (hj : j ≤ w.length) (hp : (endW w j).reverse = endW w j) : f (2 * w.length - j) = j := by
  have e : seg w (w.length - j) j = endW w j := by unfold seg endW; rw [List.take_of_length_le]; rw [List.length_drop]; omega
  have harm := pal_arm (s := w) (a := w.length - j) (n := j) (by omega) (by rw [e]; exact hp)
  rw [show j + 2 * (w.length - j) = 2 * w.length - j by omega] at harm
  have hi := hf (2 * w.length - j) (by omega)
  have h1 : j ≤ f (2 * w.length - j) := Nat.le_of_not_lt fun h => hi.2 (harm.less h)
  have := isArm_bd hi
  omega
/-- The greatest arm that reaches the end, of the first k middles. -/
structure LastA (f : Nat → Nat) (N k r : Nat) : Prop where
  most : ∀ j, j < k → j + f j = N → f j ≤ r
  at_ : r = 0 ∨ ∃ j, j < k ∧ j + f j = N ∧ f j = r
theorem LastA.last {w : List UInt8} {f : Nat → Nat} {r : Nat} (hf : ∀ k, k < 2 * w.length + 1 → IsArm w k (f k)) (h : LastA f (2 * w.length) (2 * w.length + 1) r) (h0 : 0 < w.length) : LastP w r := by
  have h1 := end_arm hf (j := 1) (by omega) (by
    have hl := endW_len (w := w) (k := 1) (by omega)
    obtain ⟨x, hx⟩ : ∃ x, endW w 1 = [x] := by
      rcases hh : endW w 1 with _ | ⟨x, _ | ⟨y, l⟩⟩
      · rw [hh] at hl; simp at hl
      · exact ⟨x, rfl⟩
      · rw [hh] at hl; simp at hl
    rw [hx]; rfl)
  have hpos := h.most (2 * w.length - 1) (by omega) (by omega)
  rcases h.at_ with e | ⟨j, j1, j2, j3⟩
  · omega
  · have ha := arm_end (hf j j1) j2
    rw [j3] at ha
    refine ⟨by omega, ha.2, ha.1, fun i hi hiw hp => ?_⟩
    have e := end_arm hf hiw hp
    have := h.most (2 * w.length - i) (by omega) (by omega)
    omega
end Go.Proofs.Ytmephgemokngnaa
