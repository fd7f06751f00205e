/- Plain: scripts of two who edit one text. -/
import Derived.Test.YtgoofbbbnphncaaDoorUndoP
namespace Go.Proofs.YtgoofbbbnphncaaDoor
set_option linter.unusedVariables false

/-- Do two edits clash? -/
def Clash (x y : Ed) : Prop := x ≠ y ∧ x.1 ≤ y.1 + y.2.1 ∧ y.1 ≤ x.1 + x.2.1
instance (x y : Ed) : Decidable (Clash x y) := by unfold Clash; infer_instance
theorem Clash.symm {x y : Ed} (h : Clash x y) : Clash y x := ⟨fun e => h.1 e.symm, h.2.2, h.2.1⟩
/-- Two scripts as one. -/
def mergeE : List Ed → List Ed → List Ed
  | [], b => b
  | x :: a, [] => x :: a
  | x :: a, y :: b => if x.1 < y.1 then x :: mergeE a (y :: b) else if y.1 < x.1 then y :: mergeE (x :: a) b else x :: mergeE a b
termination_by a b => a.length + b.length
theorem mergeE_nil_left (b : List Ed) : mergeE [] b = b := by rw [mergeE]
theorem mergeE_nil_right (a : List Ed) : mergeE a [] = a := by cases a <;> rw [mergeE]
theorem mergeE_cons (x y : Ed) (a b : List Ed) : mergeE (x :: a) (y :: b) = if x.1 < y.1 then x :: mergeE a (y :: b) else if y.1 < x.1 then y :: mergeE (x :: a) b else x :: mergeE a b := by rw [mergeE]
theorem mergeE_self : ∀ a : List Ed, mergeE a a = a
  | [] => mergeE_nil_left []
  | x :: a => by rw [mergeE_cons, if_neg (by omega), if_neg (by omega), mergeE_self a]
instance (x : Ed) (a : List Ed) : Decidable (x ∈ a) := @List.instDecidableMemOfLawfulBEq Ed instBEqOfDecidableEq _ x a
theorem merge_perm : ∀ (a b : List Ed), (∀ z ∈ mergeE a b, z ∈ a ∨ z ∈ b) ∧ (mergeE a b).length ≤ a.length + b.length
  | [], b => by rw [mergeE_nil_left]; exact ⟨fun z hz => .inr hz, by simp⟩
  | x :: a, [] => by rw [mergeE_nil_right]; exact ⟨fun z hz => .inl hz, by simp⟩
  | x :: a, y :: b => by
    rw [mergeE_cons]
    split
    · obtain ⟨h1, h2⟩ := merge_perm a (y :: b)
      refine ⟨fun z hz => ?_, by simp only [List.length_cons] at h2 ⊢; omega⟩
      rcases List.mem_cons.1 hz with rfl | hz
      · exact .inl (by simp)
      · exact (h1 z hz).imp (List.mem_cons_of_mem _) id
    · split
      · obtain ⟨h1, h2⟩ := merge_perm (x :: a) b
        refine ⟨fun z hz => ?_, by simp only [List.length_cons] at h2 ⊢; omega⟩
        rcases List.mem_cons.1 hz with rfl | hz
        · exact .inr (by simp)
        · exact (h1 z hz).imp id (List.mem_cons_of_mem _)
      · obtain ⟨h1, h2⟩ := merge_perm a b
        refine ⟨fun z hz => ?_, by simp only [List.length_cons] at h2 ⊢; omega⟩
        rcases List.mem_cons.1 hz with rfl | hz
        · exact .inl (by simp)
        · exact (h1 z hz).imp (List.mem_cons_of_mem _) (List.mem_cons_of_mem _)
termination_by a b => a.length + b.length
theorem mem_merge (a b : List Ed) : ∀ z ∈ mergeE a b, z ∈ a ∨ z ∈ b := (merge_perm a b).1
theorem merge_len (a b : List Ed) : (mergeE a b).length ≤ a.length + b.length := (merge_perm a b).2
/-- By how much what stands there has been moved. -/
def movedE : List Ed → Int → Int
  | [], _ => 0
  | y :: a, p => (if y.1 < p then (y.2.2.size : Int) - y.2.1 else 0) + movedE a p
theorem movedE_snoc : ∀ (a : List Ed) (y : Ed) (p : Int), movedE (a ++ [y]) p = movedE a p + (if y.1 < p then (y.2.2.size : Int) - y.2.1 else 0)
  | [], y, p => by simp [movedE]
  | z :: a, y, p => by rw [List.cons_append, movedE, movedE, movedE_snoc a]; omega
/-- The one script behind the other. -/
def behindE (a : List Ed) : List Ed → List Ed
  | [] => []
  | x :: b => if x ∈ a then behindE a b else (x.1 + movedE a x.1, x.2) :: behindE a b
theorem behindE_snoc (a : List Ed) : ∀ (b : List Ed) (x : Ed), behindE a (b ++ [x]) = behindE a b ++ (if x ∈ a then [] else [(x.1 + movedE a x.1, x.2)])
  | [], x => by rw [List.nil_append, behindE, behindE]; simp [behindE]
  | y :: b, x => by
    rw [List.cons_append, behindE, behindE_snoc a b, behindE]
    split <;> simp
theorem behindE_self (a : List Ed) : ∀ b : List Ed, (∀ x ∈ b, x ∈ a) → behindE a b = []
  | [], _ => rfl
  | x :: b, h => by rw [behindE, if_pos (h x (by simp)), behindE_self a b (fun y hy => h y (by simp [hy]))]
theorem behindE_nil : ∀ b : List Ed, behindE [] b = b
  | [] => rfl
  | x :: b => by rw [behindE, if_neg (by simp), behindE_nil b, movedE, Int.add_zero]

/-- Edits of one script lie apart. -/
theorem OkE.from {n : Int} : ∀ {l : List Ed} {f : Bool} {e : Int}, OkE n f e l → f = false → ∀ x ∈ l, e < x.1
  | [], f, e, _, _, x, hx => by cases hx
  | y :: l, f, e, ⟨h1, h2, h3, h4, h5, h6, h7⟩, hf, x, hx => by
    rcases List.mem_cons.1 hx with rfl | hx
    · exact h6 hf
    · have := OkE.from h7 rfl x hx
      have := h6 hf
      omega
theorem OkE.noClash {n : Int} : ∀ {l : List Ed} {f : Bool} {e : Int}, OkE n f e l → ∀ x ∈ l, ∀ y ∈ l, ¬ Clash x y
  | [], f, e, _, x, hx, y, hy => by cases hx
  | z :: l, f, e, ⟨h1, h2, h3, h4, h5, h6, h7⟩, x, hx, y, hy => by
    intro hc
    rcases List.mem_cons.1 hx with hx1 | hx1
    · rcases List.mem_cons.1 hy with hy1 | hy1
      · exact hc.1 (hx1.trans hy1.symm)
      · have := OkE.from h7 rfl y hy1
        have := hc.2.2
        rw [hx1] at this
        omega
    · rcases List.mem_cons.1 hy with hy1 | hy1
      · have := OkE.from h7 rfl x hx1
        have := hc.2.1
        rw [hy1] at this
        omega
      · exact OkE.noClash h7 x hx1 y hy1 hc
end Go.Proofs.YtgoofbbbnphncaaDoor
