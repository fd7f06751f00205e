import Derived.Test.YtmephgemokngnaaDoorOwnK
import Derived.Sort.OwnSorted
import Derived.Shelf.SlSortCmp.InsertionK
import Derived.Shelf.SlSortCmp.Whole1
import Derived.Test.YtmephgemokngnaaDoorProg
import Derived.Shelf.Small.Strs
import Derived.Test.YtmephgemokngnaaDoorPlain
import Derived.Lib.Bytealg
import Derived.Shelf.SlSortCmp.NoneTotal
import Derived.Test.YtmephgemokngnaaDoorLib
import Derived.Test.YtmephgemokngnaaDoorOwnS
import Derived.Test.YtmephgemokngnaaDoorCheck
import Derived.IntWalk
import Derived.Test.YtmephgemokngnaaDoorRows
import Derived.Test.YtmephgemokngnaaDoorEditLaws
import Derived.Test.YtmephgemokngnaaDoorTopScriptsP
import Derived.Test.YtmephgemokngnaaDoorUndoWalk
import Derived.Test.YtmephgemokngnaaDoorScriptOne
import Derived.Test.YtmephgemokngnaaDoorCards
import Derived.Test.YtmephgemokngnaaDoorTie
import Derived.WalkKit
import Derived.ProofKit
import Derived.OpenShut
import Derived.ShutString
import Derived.SizedLaws
import Derived.ChangeOld
import Derived.Below
import Derived.LaidMore
import Derived.Lay
import Derived.MakeChecks
import Derived.SevenTiedAt
import Derived.Stop.Joined
import Derived.Test.YtmephgemokngnaaDoorTab
/- Several texts in one: XSortK XLaidIntSort XLaidCompare XLyndon XTurnP XIntSort XLaidIntSort0 XIntSort0 XOwnU XAppEq XTurnWalk XGoodT XTopWorks XTopScripts XTopScriptsRow. -/
/- A row of one's own that the library sorts. -/
namespace Go.Proofs.YtmephgemokngnaaDoor
open Go.RowKit Go.Sort
set_option linter.unusedVariables false

theorem flatK_list {α : Type} [Inhabited α] (enc : α → List Value) (k : Nat) (hk : ∀ x, (enc x).length = k) (d : Array α) : (flatK enc k d).toList = d.toList.flatMap enc := by
  have h0 := flat_length enc k hk d.toList
  refine List.ext_getElem? fun t => ?_
  by_cases ht : t < d.size * k
  · have kp : 0 < k := by rcases Nat.eq_zero_or_pos k with h | h; · subst h; simp at ht
                          · exact h
    have hq : t / k < d.size := Nat.div_lt_of_lt_mul (by rw [Nat.mul_comm]; exact ht)
    have hm : t % k < k := Nat.mod_lt _ kp
    have e1 : (flatK enc k d).toList[t]? = some ((enc d[t / k]!)[t % k]!) := by
      rw [Array.getElem?_toList, Array.getElem?_eq_getElem (by simpa using ht)]
      have := get_flatK enc k d t ht
      rw [getElem!_pos _ t (by simpa using ht)] at this
      rw [this]
    rw [e1]
    have e2 : (d.toList.flatMap enc).getD t undef = (enc d[t / k]!)[t % k]! := by
      have h3 := flat_getD enc k hk (default : α) d.toList (t / k) (t % k) (by simpa using hq) hm
      have e : t / k * k + t % k = t := by rw [Nat.mul_comm]; exact Nat.div_add_mod t k
      rw [e] at h3
      rw [h3]
      have e4 : d.toList.getD (t / k) default = d[t / k]! := by
        rw [List.getD_eq_getElem?_getD, List.getElem?_eq_getElem (by simpa using hq), getElem!_pos d (t / k) hq]
        rfl
      rw [e4, List.getD_eq_getElem?_getD, List.getElem?_eq_getElem (by rw [hk]; exact hm), getElem!_pos (enc _) (t % k) (by rw [hk]; exact hm)]
      rfl
    have hl : t < (d.toList.flatMap enc).length := by rw [h0]; simpa using ht
    rw [List.getElem?_eq_getElem hl]
    rw [List.getD_eq_getElem?_getD, List.getElem?_eq_getElem hl] at e2
    rw [← e2]; rfl
  · rw [List.getElem?_eq_none (by simp; omega), List.getElem?_eq_none (by rw [h0]; simp; omega)]

section
variable {T : TypeId} {s : Nat} {w w' : World} {K : Nat → Prop} {A : Option Addr} {n c g o : Nat} {xs : List Value}
theorem OwnK.holds (h : OwnK T s w K (some ⟨g, o, none⟩) n c xs) : Holds id w g o xs.toArray := fun j hj => by
  have hj' : j < n * s := by rw [← h.1]; simpa using hj
  obtain ⟨h1, h2⟩ := h.cell j hj'
  refine ⟨?_, h2⟩
  rw [h1, getElem!_pos _ j hj]
  simp at hj ⊢
/-- A row of one's own, laid anew. -/
theorem OwnK.sorted {F : Array Value} (h : OwnK T s w K (some ⟨g, o, none⟩) n c xs) (hF : F.size = n * s) (m : Nat) (os : Array Obj) : OwnK T s (grow (putRow id (Sort.ahead w m) g o F) os) K (some ⟨g, o, none⟩) n c F.toList := by
  refine ⟨by simpa using hF, ?_⟩
  rcases h.2 with ⟨h0, _⟩ | ⟨g', o', cur, hv, hb, hg, h1, h2, h3, h4⟩
  · cases h0
  · injection hv with hv
    injection hv with hv hv2
    subst hv hv2
    have hle : n * s ≤ c * s := Nat.mul_le_mul_right _ h1
    refine .inr ⟨g, o, putCells id o F cur, rfl, hb, ?_, h1, h2, by simpa [putCells] using h3, ?_⟩
    · unfold Blk at hg ⊢
      have hg' : g < w.heap.size := (Array.getElem?_eq_some_iff.1 hg).1
      rw [heap_grow_old _ _ (by simpa using hg')]
      simp [putRow, mapBlock, Sort.ahead, Array.getElem?_modify, hg, onCells]
    · refine List.ext_getElem? fun j => ?_
      by_cases hj : j < n * s
      · rw [List.getElem?_take_of_lt hj, List.getElem?_drop, Array.getElem?_toList, Array.getElem?_toList, Array.getElem?_eq_getElem (by simp [putCells]; omega), Array.getElem?_eq_getElem (by omega)]
        simp only [putCells, Array.getElem_mapIdx, id]
        rw [if_pos (by omega), Nat.add_sub_cancel_left, getElem!_pos _ _ (by omega)]
      · rw [List.getElem?_eq_none (by rw [List.length_take]; omega), List.getElem?_eq_none (by simp; omega)]
end
theorem grownBy_put {w : World} {g o n : Nat} {os : Array Obj} (F : Array Value) : w.grownBy (grow (putRow id (Sort.ahead w n) g o F) os) (some g) := by
  refine ⟨rfl, rfl, rfl, by simp, fun k hk hne => ?_⟩
  rw [heap_grow_old _ _ (by simpa using hk)]
  have : g ≠ k := fun e => hne (by rw [e])
  simp [putRow, mapBlock, Sort.ahead, Array.getElem?_modify, this]
end Go.Proofs.YtmephgemokngnaaDoor

/- IntSort: contracts of the library laid at this program: the tables of numbers and the facts that they ask. -/
namespace Go.Proofs.YtmephgemokngnaaDoor
open Go.RowKit
set_option linter.unusedVariables false

def layIntSort_ren : Go.Shelf.Ren := ⟨fun | 6 => 26 | 15 => 34 | 14 => 33 | 28 => 45 | 29 => 46 | 20 => 37 | 21 => 38 | 22 => 39 | 23 => 40 | 24 => 41 | 25 => 42 | 26 => 43 | 27 => 44 | 46 => 52 | 47 => 53 | 48 => 54 | 49 => 55 | 50 => 56 | 57 => 61 | n => n, fun | 22 => 39 | 24 => 3 | 25 => 60 | 3 => 3 | 39 => 70 | 0 => 0 | 53 => 81 | 55 => 83 | 4 => 4 | 46 => 74 | 45 => 73 | 50 => 78 | 5 => 5 | 9 => 9 | 66 => 88 | 70 => 92 | 76 => 99 | 77 => 100 | n => n, fun | n => n⟩
theorem layIntSort : Go.Proofs.SlLaysF.n6 Tryd.prog layIntSort_ren := {
  mixed := by kernel_rfl,
  f6 := ⟨Tryd.f26.name, by decide, Tryd.func26.trans (congrArg some (by kernel_rfl))⟩,
  f14 := ⟨Tryd.f33.name, by decide, Tryd.func33.trans (congrArg some (by kernel_rfl))⟩,
  f15 := Tryd.func34.trans (congrArg some (by kernel_rfl)),
  f20 := ⟨Tryd.f37.name, by decide, Tryd.func37.trans (congrArg some (by kernel_rfl))⟩,
  f21 := ⟨Tryd.f38.name, by decide, Tryd.func38.trans (congrArg some (by kernel_rfl))⟩,
  f22 := ⟨Tryd.f39.name, by decide, Tryd.func39.trans (congrArg some (by kernel_rfl))⟩,
  f23 := ⟨Tryd.f40.name, by decide, Tryd.func40.trans (congrArg some (by kernel_rfl))⟩,
  f24 := ⟨Tryd.f41.name, by decide, Tryd.func41.trans (congrArg some (by kernel_rfl))⟩,
  f25 := ⟨Tryd.f42.name, by decide, Tryd.func42.trans (congrArg some (by kernel_rfl))⟩,
  f26 := ⟨Tryd.f43.name, by decide, Tryd.func43.trans (congrArg some (by kernel_rfl))⟩,
  f27 := ⟨Tryd.f44.name, by decide, Tryd.func44.trans (congrArg some (by kernel_rfl))⟩,
  f28 := Tryd.func45.trans (congrArg some (by kernel_rfl)),
  f29 := Tryd.func46.trans (congrArg some (by kernel_rfl)),
  f46 := ⟨Tryd.f52.name, by decide, Tryd.func52.trans (congrArg some (by kernel_rfl))⟩,
  f47 := Tryd.func53.trans (congrArg some (by kernel_rfl)),
  f48 := Tryd.func54.trans (congrArg some (by kernel_rfl)),
  f49 := ⟨Tryd.f55.name, by decide, Tryd.func55.trans (congrArg some (by kernel_rfl))⟩,
  f50 := ⟨Tryd.f56.name, by decide, Tryd.func56.trans (congrArg some (by kernel_rfl))⟩,
  f57 := ⟨Tryd.f61.name, by decide, Tryd.func61.trans (congrArg some (by kernel_rfl))⟩,
  t0 := Tryd.underlying0,
  a0 := Tryd.isAgg0,
  z0 := Tryd.sizeOf0,
  v0 := Tryd.zeroValue0,
  t3 := Tryd.underlying3,
  a3 := Tryd.isAgg3,
  z3 := Tryd.sizeOf3,
  v3 := Tryd.zeroValue3,
  t4 := Tryd.underlying4,
  a4 := Tryd.isAgg4,
  z4 := Tryd.sizeOf4,
  v4 := Tryd.zeroValue4,
  t5 := Tryd.underlying5,
  a5 := Tryd.isAgg5,
  z5 := Tryd.sizeOf5,
  v5 := Tryd.zeroValue5,
  t9 := Tryd.underlying9,
  a9 := Tryd.isAgg9,
  z9 := Tryd.sizeOf9,
  v9 := Tryd.zeroValue9,
  t22 := Tryd.underlying39,
  a22 := Tryd.isAgg39,
  z22 := Tryd.sizeOf39,
  v22 := Tryd.zeroValue39,
  a24 := Tryd.isAgg3,
  z24 := Tryd.sizeOf3,
  t25 := Tryd.underlying60,
  a25 := Tryd.isAgg60,
  z25 := Tryd.sizeOf60,
  v25 := Tryd.zeroValue60,
  t39 := Tryd.underlying70,
  a39 := Tryd.isAgg70,
  z39 := Tryd.sizeOf70,
  v39 := Tryd.zeroValue70,
  t45 := Tryd.underlying73,
  a45 := Tryd.isAgg73,
  z45 := Tryd.sizeOf73,
  v45 := Tryd.zeroValue73,
  t46 := Tryd.underlying74,
  a46 := Tryd.isAgg74,
  z46 := Tryd.sizeOf74,
  v46 := Tryd.zeroValue74,
  t50 := Tryd.underlying78,
  a50 := Tryd.isAgg78,
  z50 := Tryd.sizeOf78,
  v50 := Tryd.zeroValue78,
  t53 := Tryd.underlying81,
  a53 := Tryd.isAgg81,
  z53 := Tryd.sizeOf81,
  v53 := Tryd.zeroValue81,
  t55 := Tryd.underlying83,
  a55 := Tryd.isAgg83,
  z55 := Tryd.sizeOf83,
  v55 := Tryd.zeroValue83,
  t66 := Tryd.underlying88,
  a66 := Tryd.isAgg88,
  z66 := Tryd.sizeOf88,
  v66 := Tryd.zeroValue88,
  t70 := Tryd.underlying92,
  a70 := Tryd.isAgg92,
  z70 := Tryd.sizeOf92,
  v70 := Tryd.zeroValue92,
  t76 := Tryd.underlying99,
  a76 := Tryd.isAgg99,
  z76 := Tryd.sizeOf99,
  v76 := Tryd.zeroValue99,
  t77 := Tryd.underlying100,
  a77 := Tryd.isAgg100,
  z77 := Tryd.sizeOf100,
  v77 := Tryd.zeroValue100 }

end Go.Proofs.YtmephgemokngnaaDoor

/- Compare: contracts of the library laid at this program: the tables of numbers and the facts that they ask. -/
namespace Go.Proofs.YtmephgemokngnaaDoor
open Go.RowKit
set_option linter.unusedVariables false

def layCompare_ren : Go.Shelf.Ren := ⟨fun | 106 => 28 | 213 => 35 | 265 => 47 | n => n, fun | 9 => 9 | 3 => 3 | n => n, fun | n => n⟩
theorem layCompare : Go.Proofs.Lays.n106 Tryd.prog layCompare_ren := {
  mixed := by kernel_rfl,
  f106 := Tryd.func28.trans (congrArg some (by kernel_rfl)),
  f213 := Tryd.func35.trans (congrArg some (by kernel_rfl)),
  f265 := Tryd.func47.trans (congrArg some (by kernel_rfl)),
  t3 := Tryd.underlying3,
  a3 := Tryd.isAgg3,
  z3 := Tryd.sizeOf3,
  v3 := Tryd.zeroValue3,
  t9 := Tryd.underlying9,
  a9 := Tryd.isAgg9,
  z9 := Tryd.sizeOf9,
  v9 := Tryd.zeroValue9 }

end Go.Proofs.YtmephgemokngnaaDoor

/- Plain: Lyndon words; each word falls into such words in one way, none less than the next (Chen, Fox, Lyndon); how Duval finds them. -/
namespace Go.Proofs.YtmephgemokngnaaDoor
set_option linter.unusedVariables false

/-- One text stands ahead of another one. -/
def llt : List UInt8 → List UInt8 → Bool
  | _, [] => false
  | [], _ :: _ => true
  | x :: a, y :: b => decide (x < y) || (x == y && llt a b)
theorem u8_irrefl (x : UInt8) : ¬ x < x := by rw [UInt8.lt_iff_toNat_lt]; omega
theorem u8_trans {x y z : UInt8} (h : x < y) (k : y < z) : x < z := by rw [UInt8.lt_iff_toNat_lt] at *; omega
theorem u8_tri (x y : UInt8) : x < y ∨ x = y ∨ y < x := by
  rcases Nat.lt_trichotomy x.toNat y.toNat with h | h | h
  · exact .inl (UInt8.lt_iff_toNat_lt.2 h)
  · exact .inr (.inl (UInt8.toNat_inj.1 h))
  · exact .inr (.inr (UInt8.lt_iff_toNat_lt.2 h))
theorem llt_cons (x y : UInt8) (a b : List UInt8) : llt (x :: a) (y :: b) = true ↔ x < y ∨ (x = y ∧ llt a b = true) := by
  rw [llt, Bool.or_eq_true, Bool.and_eq_true, decide_eq_true_iff, beq_iff_eq]
theorem llt_irrefl : ∀ a : List UInt8, llt a a = false
  | [] => rfl
  | x :: a => by
    rw [Bool.eq_false_iff]
    intro h
    rcases (llt_cons x x a a).1 h with h | ⟨_, h⟩
    · exact u8_irrefl x h
    · rw [llt_irrefl a] at h; cases h
theorem llt_trans : ∀ {a b c : List UInt8}, llt a b = true → llt b c = true → llt a c = true
  | _, [], _, h, _ => by simp [llt] at h
  | _, _ :: _, [], _, h => by simp [llt] at h
  | [], y :: b, z :: c, _, _ => rfl
  | x :: a, y :: b, z :: c, h, k => by
    rw [llt_cons] at h k ⊢
    rcases h with h | ⟨rfl, h⟩
    · rcases k with k | ⟨rfl, k⟩
      · exact .inl (u8_trans h k)
      · exact .inl h
    · rcases k with k | ⟨rfl, k⟩
      · exact .inl k
      · exact .inr ⟨rfl, llt_trans h k⟩
theorem llt_tri : ∀ a b : List UInt8, llt a b = true ∨ a = b ∨ llt b a = true
  | [], [] => .inr (.inl rfl)
  | [], _ :: _ => .inl rfl
  | _ :: _, [] => .inr (.inr rfl)
  | x :: a, y :: b => by
    rw [llt_cons, llt_cons]
    rcases u8_tri x y with h | rfl | h
    · exact .inl (.inl h)
    · rcases llt_tri a b with h | rfl | h
      · exact .inl (.inr ⟨rfl, h⟩)
      · exact .inr (.inl rfl)
      · exact .inr (.inr (.inr ⟨rfl, h⟩))
    · exact .inr (.inr (.inl h))
theorem llt_app (l a b : List UInt8) : llt (l ++ a) (l ++ b) = llt a b := by
  induction l with
  | nil => rfl
  | cons x l ih => rw [List.cons_append, List.cons_append, llt, ih]; simp
theorem llt_nil (a : List UInt8) : llt a [] = false := by cases a <;> rfl
theorem llt_prefix (a b : List UInt8) (h : b ≠ []) : llt a (a ++ b) = true := by
  have := llt_app a [] b
  rw [List.append_nil] at this
  rw [this]
  cases b with
  | nil => exact absurd rfl h
  | cons x b => rfl
/-- Not greater. -/
def lle (a b : List UInt8) : Prop := llt b a = false
theorem lle_refl (a : List UInt8) : lle a a := llt_irrefl a
theorem lle_of_lt {a b : List UInt8} (h : llt a b = true) : lle a b := by
  unfold lle
  rw [Bool.eq_false_iff]
  intro k
  have := llt_trans h k
  rw [llt_irrefl] at this; cases this
theorem lle_iff {a b : List UInt8} : lle a b ↔ llt a b = true ∨ a = b := by
  constructor
  · intro h
    rcases llt_tri a b with k | k | k
    · exact .inl k
    · exact .inr k
    · unfold lle at h; rw [h] at k; cases k
  · rintro (h | rfl)
    · exact lle_of_lt h
    · exact lle_refl _
theorem lle_trans {a b c : List UInt8} (h : lle a b) (k : lle b c) : lle a c := by
  rw [lle_iff] at *
  rcases h with h | rfl
  · rcases k with k | rfl
    · exact .inl (llt_trans h k)
    · exact .inl h
  · exact k
theorem lle_antisymm {a b : List UInt8} (h : lle a b) (k : lle b a) : a = b := by
  rcases lle_iff.1 h with h | h
  · unfold lle at k; rw [h] at k; cases k
  · exact h
theorem llt_of_lt_le {a b c : List UInt8} (h : llt a b = true) (k : lle b c) : llt a c = true := by
  rcases lle_iff.1 k with k | rfl
  · exact llt_trans h k
  · exact h
theorem llt_of_le_lt {a b c : List UInt8} (h : lle a b) (k : llt b c = true) : llt a c = true := by
  rcases lle_iff.1 h with h | rfl
  · exact llt_trans h k
  · exact k
theorem lle_prefix (a b : List UInt8) : lle a (a ++ b) := by
  rw [lle_iff]
  rcases b with _ | ⟨x, b⟩
  · exact .inr (by rw [List.append_nil])
  · exact .inl (llt_prefix a _ (by simp))

/-- They differ at a place that both have. -/
def Dif (a b : List UInt8) : Prop := ∃ l x y a' b', a = l ++ x :: a' ∧ b = l ++ y :: b' ∧ x < y
theorem Dif.lt {a b : List UInt8} (h : Dif a b) : llt a b = true := by
  obtain ⟨l, x, y, a', b', rfl, rfl, hxy⟩ := h
  rw [llt_app, llt_cons]
  exact .inl hxy
theorem Dif.app {a b : List UInt8} (h : Dif a b) (c d : List UInt8) : Dif (a ++ c) (b ++ d) := by
  obtain ⟨l, x, y, a', b', rfl, rfl, hxy⟩ := h
  exact ⟨l, x, y, a' ++ c, b' ++ d, by simp, by simp, hxy⟩
theorem llt_dif : ∀ {a b : List UInt8}, llt a b = true → Dif a b ∨ ∃ c, c ≠ [] ∧ b = a ++ c
  | _, [], h => by rw [llt_nil] at h; cases h
  | [], y :: b, _ => .inr ⟨y :: b, by simp, rfl⟩
  | x :: a, y :: b, h => by
    rcases (llt_cons x y a b).1 h with h | ⟨hxy, h⟩
    · exact .inl ⟨[], x, y, a, b, rfl, rfl, h⟩
    · rcases llt_dif h with ⟨l, p, q, a', b', ha, hb, hpq⟩ | ⟨c, hc, hb⟩
      · exact .inl ⟨x :: l, p, q, a', b', by rw [ha]; rfl, by rw [hb, hxy]; rfl, hpq⟩
      · exact .inr ⟨c, hc, by rw [hb, hxy]; rfl⟩

/-- A Lyndon word: less than all its proper ends. -/
def Lyn (w : List UInt8) : Prop := w ≠ [] ∧ ∀ u v, w = u ++ v → u ≠ [] → v ≠ [] → llt w v = true
theorem lyn_one (x : UInt8) : Lyn [x] := by
  refine ⟨by simp, fun u v h hu hv => ?_⟩
  have h1 := congrArg List.length h
  have h2 := List.length_pos_iff.2 hu
  have h3 := List.length_pos_iff.2 hv
  rw [List.length_append, List.length_singleton] at h1
  omega
theorem Lyn.le {w u v : List UInt8} (h : Lyn w) (e : w = u ++ v) (hv : v ≠ []) : lle w v := by
  by_cases hu : u = []
  · rw [hu, List.nil_append] at e; rw [e]; exact lle_refl _
  · exact lle_of_lt (h.2 u v e hu hv)
/-- Of two in order, both together are one. -/
theorem lyn_join {u v : List UInt8} (hu : Lyn u) (hv : Lyn v) (h : llt u v = true) : Lyn (u ++ v) := by
  have key : llt (u ++ v) v = true := by
    rcases llt_dif h with hd | ⟨c, hc, rfl⟩
    · have := (hd.app v []).lt
      rwa [List.append_nil] at this
    · rw [llt_app]
      exact hv.2 u c rfl hu.1 hc
  refine ⟨by simp [hu.1], fun x y e hx hy => ?_⟩
  rcases List.append_eq_append_iff.1 e with ⟨t, ht, hvy⟩ | ⟨t, ht, hyv⟩
  · -- x = u ++ t, v = t ++ y
    by_cases h0 : t = []
    · rw [h0, List.nil_append] at hvy
      rw [← hvy]; exact key
    · exact llt_trans key (hv.2 t y hvy h0 hy)
  · -- u = x ++ t, y = t ++ v
    by_cases h0 : t = []
    · rw [h0, List.nil_append] at hyv
      rw [hyv]; exact key
    · rcases llt_dif (hu.2 x t ht hx h0) with hd | ⟨c, hc, e2⟩
      · rw [hyv]; exact (hd.app v v).lt
      · have h1 := congrArg List.length ht
        have h2 := congrArg List.length e2
        have h3 := List.length_pos_iff.2 hx
        rw [List.length_append] at h1 h2
        omega
/-- A greater byte in the place of one, what is behind it cut off. -/
theorem lyn_raise {p q : List UInt8} {c d : UInt8} (h : Lyn (p ++ d :: q)) (hc : d < c) : Lyn (p ++ [c]) := by
  refine ⟨by simp, fun x y e hx hy => ?_⟩
  obtain ⟨t, z, rfl⟩ : ∃ t z, y = t ++ [z] := by
    rcases List.eq_nil_or_concat y with rfl | ⟨t, z, rfl⟩
    · exact absurd rfl hy
    · exact ⟨t, z, by simp⟩
  rw [← List.append_assoc] at e
  obtain ⟨e1, e2⟩ := List.append_inj' e rfl
  injection e2 with e2 _
  subst e2
  subst e1
  have hxl := List.length_pos_iff.2 hx
  have hlt := h.2 x (t ++ d :: q) (by simp) hx (by simp)
  rcases llt_dif hlt with ⟨l, a, b, a', b', h1, h2, hab⟩ | ⟨r, _, h2⟩
  · -- where they differ
    rcases List.append_eq_append_iff.1 h2 with ⟨r, hr, h3⟩ | ⟨r, hr, h3⟩
    · -- l = t ++ r, d :: q = r ++ b :: b'
      cases r with
      | nil =>
        rw [List.append_nil] at hr
        subst hr
        injection h3 with h3 _
        subst h3
        -- x ++ l ++ d :: q = l ++ a :: a'
        have h4 : (x ++ l) ++ (d :: q) = l ++ (a :: a') := h1
        rcases List.append_eq_append_iff.1 h4 with ⟨r2, hr2, h5⟩ | ⟨r2, hr2, h5⟩
        · have := congrArg List.length hr2
          rw [List.length_append, List.length_append] at this
          omega
        · cases r2 with
          | nil =>
            have := congrArg List.length hr2
            rw [List.length_append, List.length_append, List.length_nil] at this
            omega
          | cons a2 r2 =>
            injection h5 with h5 h6
            subst h5
            exact Dif.lt ⟨l, a, c, r2 ++ [c], [], by rw [hr2]; simp, rfl, u8_trans hab hc⟩
      | cons d2 r =>
        injection h3 with h3 h4
        subst h3
        subst hr
        -- x ++ t ++ d :: q = t ++ d :: r ++ a :: a'
        have h5 : (x ++ t) ++ (d :: q) = t ++ (d :: (r ++ a :: a')) := by rw [h1]; simp
        rcases List.append_eq_append_iff.1 h5 with ⟨r2, hr2, h6⟩ | ⟨r2, hr2, h6⟩
        · have := congrArg List.length hr2
          rw [List.length_append, List.length_append] at this
          omega
        · cases r2 with
          | nil =>
            have := congrArg List.length hr2
            rw [List.length_append, List.length_append, List.length_nil] at this
            omega
          | cons a2 r2 =>
            injection h6 with h6 h7
            subst h6
            exact Dif.lt ⟨t, d, c, r2 ++ [c], [], by rw [hr2]; simp, rfl, hc⟩
    · -- t = l ++ r, b :: b' = r ++ d :: q
      cases r with
      | nil =>
        rw [List.append_nil] at hr
        subst hr
        injection h3 with h3 _
        subst h3
        have h4 : (x ++ t) ++ (b :: q) = t ++ (a :: a') := h1
        rcases List.append_eq_append_iff.1 h4 with ⟨r2, hr2, h5⟩ | ⟨r2, hr2, h5⟩
        · have := congrArg List.length hr2
          rw [List.length_append, List.length_append] at this
          omega
        · cases r2 with
          | nil =>
            have := congrArg List.length hr2
            rw [List.length_append, List.length_append, List.length_nil] at this
            omega
          | cons a2 r2 =>
            injection h5 with h5 h6
            subst h5
            exact Dif.lt ⟨t, a, c, r2 ++ [c], [], by rw [hr2]; simp, rfl, u8_trans hab hc⟩
      | cons b2 r =>
        injection h3 with h3 h4
        subst h3
        subst hr
        -- x ++ (l ++ b :: r) ++ d :: q = l ++ a :: a'
        have h5 : (x ++ (l ++ b :: r)) ++ (d :: q) = l ++ (a :: a') := h1
        rcases List.append_eq_append_iff.1 h5 with ⟨r2, hr2, h6⟩ | ⟨r2, hr2, h6⟩
        · have := congrArg List.length hr2
          simp only [List.length_append, List.length_cons] at this
          omega
        · cases r2 with
          | nil =>
            have := congrArg List.length hr2
            simp only [List.length_append, List.length_cons, List.length_nil] at this
            omega
          | cons a2 r2 =>
            injection h6 with h6 h7
            subst h6
            exact Dif.lt ⟨l, a, b, r2 ++ [c], r ++ [c], by rw [hr2]; simp, by simp, hab⟩
  · have := congrArg List.length h2
    simp only [List.length_append, List.length_cons] at this
    omega

/-- Words that fall in order, none less than the next, all Lyndon words. -/
structure Cfl (s : List UInt8) (F : List (List UInt8)) : Prop where
  flat : F.flatten = s
  lyn : ∀ f ∈ F, Lyn f
  fall : F.Pairwise fun a b => lle b a
theorem Cfl.nil : Cfl [] [] := ⟨rfl, by simp, List.Pairwise.nil⟩
theorem Cfl.one {w : List UInt8} (h : Lyn w) : Cfl w [w] := ⟨by simp, fun f hf => by rw [List.mem_singleton] at hf; rw [hf]; exact h, by simp⟩
/-- The last one is no greater than any end. -/
theorem last_least : ∀ (F : List (List UInt8)) (f u v : List UInt8), (∀ g ∈ F ++ [f], Lyn g) → (F ++ [f]).Pairwise (fun a b => lle b a) → (F ++ [f]).flatten = u ++ v → v ≠ [] → lle f v
  | [], f, u, v, hl, _, e, hv => by
    have e : f = u ++ v := by simpa using e
    exact (hl f (by simp)).le e hv
  | g :: F, f, u, v, hl, hp, e, hv => by
    rw [List.cons_append, List.flatten_cons] at e
    have hp' := List.pairwise_cons.1 hp
    rcases List.append_eq_append_iff.1 e with ⟨t, ht, h2⟩ | ⟨t, ht, h2⟩
    · -- u = g ++ t
      exact last_least F f t v (fun x hx => hl x (by simp at hx ⊢; exact .inr hx)) hp'.2 h2 hv
    · -- g = u ++ t, v = t ++ rest
      have hfg : lle f g := hp'.1 f (by simp)
      by_cases h0 : t = []
      · rw [h0, List.nil_append] at h2
        refine last_least F f [] v (fun x hx => hl x (by simp at hx ⊢; exact .inr hx)) hp'.2 (by rw [h2]; rfl) hv
      · rw [h2]
        exact lle_trans hfg (lle_trans ((hl g (by simp)).le ht h0) (lle_prefix _ _))
theorem snoc_of {α : Type} {F : List α} (h : F ≠ []) : ∃ G f, F = G ++ [f] := by
  rcases List.eq_nil_or_concat F with rfl | ⟨G, f, rfl⟩
  · exact absurd rfl h
  · exact ⟨G, f, by simp⟩
theorem cfl_nil {F : List (List UInt8)} (h : Cfl [] F) : F = [] := by
  cases F with
  | nil => rfl
  | cons f F =>
    have h1 := h.flat
    rw [List.flatten_cons, List.append_eq_nil_iff] at h1
    exact absurd h1.1 (h.lyn f (by simp)).1
/-- CHEN, FOX, LYNDON: only one way. -/
theorem cfl_unique : ∀ (n : Nat) (s : List UInt8) (F G : List (List UInt8)), s.length ≤ n → Cfl s F → Cfl s G → F = G
  | n, [], F, G, _, hF, hG => by rw [cfl_nil hF, cfl_nil hG]
  | 0, x :: s, F, G, hn, _, _ => by simp at hn
  | n + 1, x :: s, F, G, hn, hF, hG => by
    have hF0 : F ≠ [] := by rintro rfl; have := hF.flat; simp at this
    have hG0 : G ≠ [] := by rintro rfl; have := hG.flat; simp at this
    obtain ⟨F, f, rfl⟩ := snoc_of hF0
    obtain ⟨G, g, rfl⟩ := snoc_of hG0
    have eF := hF.flat
    have eG := hG.flat
    rw [List.flatten_append, List.flatten_cons, List.flatten_nil, List.append_nil] at eF eG
    have lf := (hF.lyn f (by simp)).1
    have lg := (hG.lyn g (by simp)).1
    have h1 : lle f g := last_least F f G.flatten g hF.lyn hF.fall (by rw [hF.flat, eG]) lg
    have h2 : lle g f := last_least G g F.flatten f hG.lyn hG.fall (by rw [hG.flat, eF]) lf
    have e := lle_antisymm h1 h2
    subst e
    have e3 : F.flatten = G.flatten := List.append_inj_left' (eF.trans eG.symm) rfl
    have hl := congrArg List.length eF
    have hfl := List.length_pos_iff.2 lf
    rw [List.length_append, List.length_cons] at hl
    rw [List.length_cons] at hn
    have ih := cfl_unique n F.flatten F G (by omega) ⟨rfl, fun y hy => hF.lyn y (by simp [hy]), (List.pairwise_append.1 hF.fall).1⟩
      ⟨e3.symm, fun y hy => hG.lyn y (by simp [hy]), (List.pairwise_append.1 hG.fall).1⟩
    rw [ih]
theorem cfl_eq {s : List UInt8} {F G : List (List UInt8)} (hF : Cfl s F) (hG : Cfl s G) : F = G := cfl_unique _ s F G (Nat.le_refl _) hF hG
theorem flat_le : ∀ F : List (List UInt8), (∀ f ∈ F, f ≠ []) → F.length ≤ F.flatten.length
  | [], _ => Nat.le_refl _
  | f :: F, h => by
    have h1 := flat_le F fun g hg => h g (by simp [hg])
    have h2 := List.length_pos_iff.2 (h f (by simp))
    rw [List.flatten_cons, List.length_append, List.length_cons]; omega
theorem cfl_len {s : List UInt8} {F : List (List UInt8)} (h : Cfl s F) : F.length ≤ s.length := by
  have := flat_le F fun f hf => (h.lyn f hf).1
  rwa [h.flat] at this
/-- One alone: just where the word is one. -/
theorem cfl_one {s : List UInt8} {F : List (List UInt8)} (h : Cfl s F) : F.length = 1 ↔ Lyn s := by
  constructor
  · intro hl
    obtain ⟨f, rfl⟩ := List.length_eq_one_iff.1 hl
    have := h.flat
    have e : f = s := by simpa using this
    rw [← e]; exact h.lyn f (by simp)
  · intro hs
    rw [cfl_eq h (Cfl.one hs)]; rfl

end Go.Proofs.YtmephgemokngnaaDoor

/- Plain: the turns of a word in order, and their last bytes (Burrows, Wheeler). -/
namespace Go.Proofs.YtmephgemokngnaaDoor
set_option linter.unusedVariables false

theorem compare_llt : ∀ a b : List UInt8, Lib.compareBytes a b = if llt a b = true then -1 else if a = b then 0 else 1
  | [], [] => by simp [Lib.compareBytes, llt]
  | [], _ :: _ => by simp [Lib.compareBytes, llt]
  | _ :: _, [] => by simp [Lib.compareBytes, llt]
  | x :: a, y :: b => by
    rw [Lib.compareBytes, compare_llt a b]
    by_cases h1 : x < y
    · rw [if_pos h1, if_pos ((llt_cons x y a b).2 (.inl h1))]
    · rw [if_neg h1]
      by_cases h2 : y < x
      · have hne : x ≠ y := fun e => by subst e; exact u8_irrefl x h2
        rw [if_pos h2, if_neg, if_neg]
        · intro e; injection e with e _; exact hne e
        · rw [llt_cons]
          rintro (h | ⟨h, _⟩)
          · exact h1 h
          · exact hne h
      · have e : x = y := by
          rcases u8_tri x y with h | h | h
          · exact absurd h h1
          · exact h
          · exact absurd h h2
        subst e
        rw [if_neg h2]
        have : llt (x :: a) (x :: b) = llt a b := by
          rw [Bool.eq_iff_iff, llt_cons]
          exact ⟨fun h => h.elim (fun h => absurd h h1) (·.2), fun h => .inr ⟨rfl, h⟩⟩
        rw [this]
        by_cases h3 : a = b
        · subst h3; simp
        · rw [if_neg h3, if_neg (c := x :: a = x :: b) (by simpa using h3)]

/-- Two rows of one order, of the same elements, are one. -/
theorem sorted_eq {α : Type} {R : α → α → Prop} (hR : ∀ a b, R a b → R b a → a = b) : ∀ {l m : List α}, l.Perm m → l.Pairwise R → m.Pairwise R → l = m
  | [], m, h, _, _ => h.nil_eq
  | a :: l, [], h, _, _ => absurd h.length_eq (by simp)
  | a :: l, b :: m, h, h1, h2 => by
    obtain ⟨a1, l1⟩ := List.pairwise_cons.1 h1
    obtain ⟨b1, m1⟩ := List.pairwise_cons.1 h2
    have e : a = b := by
      rcases List.mem_cons.1 (h.mem_iff.1 (show a ∈ a :: l by simp)) with e | ha
      · exact e
      · rcases List.mem_cons.1 (h.mem_iff.2 (show b ∈ b :: m by simp)) with e | hb
        · exact e.symm
        · exact hR a b (a1 b hb) (b1 a ha)
    subst e
    rw [sorted_eq hR (List.perm_cons a |>.1 h) l1 m1]

def rotL (s : List UInt8) (i : Nat) : List UInt8 := s.drop i ++ s.take i
theorem rotL_len (s : List UInt8) (i : Nat) : (rotL s i).length = s.length := by
  unfold rotL
  rw [List.length_append, List.length_drop, List.length_take]; omega
/-- How turns i and k stand to each other. -/
def ltR (s : List UInt8) (i k : Nat) : Prop := llt (rotL s i) (rotL s k) = true ∨ rotL s i = rotL s k ∧ i < k
def cmpR (s : List UInt8) (i k : Nat) : Int := if Lib.compareBytes (rotL s i) (rotL s k) ≠ 0 then Lib.compareBytes (rotL s i) (rotL s k) else (i : Int) - (k : Int)
theorem cmpR_lt (s : List UInt8) (i k : Nat) : cmpR s i k < 0 ↔ ltR s i k := by
  unfold cmpR ltR
  rw [compare_llt]
  by_cases h1 : llt (rotL s i) (rotL s k) = true
  · simp [h1]
  · by_cases h2 : rotL s i = rotL s k
    · rw [if_neg h1, if_pos h2]
      simp only [ne_eq, not_true_eq_false, if_false]
      constructor
      · intro h; exact .inr ⟨h2, by omega⟩
      · rintro (h | ⟨_, h⟩)
        · exact absurd h h1
        · omega
    · rw [if_neg h1, if_neg h2]
      simp [h1, h2]
theorem ltR_irrefl (s : List UInt8) (i : Nat) : ¬ ltR s i i := by
  rintro (h | ⟨_, h⟩)
  · rw [llt_irrefl] at h; cases h
  · omega
theorem ltR_trans {s : List UInt8} {i j k : Nat} (h1 : ltR s i j) (h2 : ltR s j k) : ltR s i k := by
  rcases h1 with h1 | ⟨h1, h1'⟩ <;> rcases h2 with h2 | ⟨h2, h2'⟩
  · exact .inl (llt_trans h1 h2)
  · exact .inl (h2 ▸ h1)
  · exact .inl (h1 ▸ h2)
  · exact .inr ⟨h1.trans h2, by omega⟩
theorem ltR_tri (s : List UInt8) (i k : Nat) : ltR s i k ∨ i = k ∨ ltR s k i := by
  rcases llt_tri (rotL s i) (rotL s k) with h | h | h
  · exact .inl (.inl h)
  · rcases Nat.lt_trichotomy i k with h' | h' | h'
    · exact .inl (.inr ⟨h, h'⟩)
    · exact .inr (.inl h')
    · exact .inr (.inr (.inr ⟨h.symm, h'⟩))
  · exact .inr (.inr (.inl h))
/-- The places of a word in the order of its turns. -/
structure IsOrd (s : List UInt8) (o : List Nat) : Prop where
  perm : o.Perm (List.range s.length)
  sorted : o.Pairwise (ltR s)
theorem IsOrd.unique {s : List UInt8} {o o' : List Nat} (h : IsOrd s o) (h' : IsOrd s o') : o = o' :=
  sorted_eq (R := ltR s) (fun a b h1 h2 => absurd (ltR_trans h1 h2) (ltR_irrefl s a)) (h.perm.trans h'.perm.symm) h.sorted h'.sorted
theorem IsOrd.len {s : List UInt8} {o : List Nat} (h : IsOrd s o) : o.length = s.length := by rw [h.perm.length_eq, List.length_range]
theorem IsOrd.lt {s : List UInt8} {o : List Nat} (h : IsOrd s o) {i : Nat} (hi : i ∈ o) : i < s.length := List.mem_range.1 (h.perm.mem_iff.1 hi)
/-- The byte ahead of a place, in the ring. -/
def prevB (s : List UInt8) (i : Nat) : UInt8 := (s ++ s).getD (i + s.length - 1) 0
/-- The last bytes. -/
def lastB (s : List UInt8) (o : List Nat) : List UInt8 := o.map (prevB s)
/-- The rows. -/
def rowsR (s : List UInt8) (o : List Nat) : List (List UInt8) := o.map (rotL s)
theorem IsOrd.rows_sorted {s : List UInt8} {o : List Nat} (h : IsOrd s o) : (rowsR s o).Pairwise lle := by
  unfold rowsR
  refine List.Pairwise.map _ (fun a b hab => ?_) h.sorted
  rcases hab with h | ⟨h, _⟩
  · exact lle_of_lt h
  · rw [h]; exact lle_refl _
/-- All turns. -/
def turnsL (s : List UInt8) : List (List UInt8) := (List.range s.length).map (rotL s)
theorem IsOrd.rows_perm {s : List UInt8} {o : List Nat} (h : IsOrd s o) : (rowsR s o).Perm (turnsL s) := h.perm.map _
theorem getD_app_r (a b : List UInt8) (k : Nat) : (a ++ b).getD (a.length + k) 0 = b.getD k 0 := by
  rw [List.getD_eq_getElem?_getD, List.getElem?_append_right (by omega), Nat.add_sub_cancel_left, List.getD_eq_getElem?_getD]
theorem getD_app_l (a b : List UInt8) {k : Nat} (h : k < a.length) : (a ++ b).getD k 0 = a.getD k 0 := by
  rw [List.getD_eq_getElem?_getD, List.getElem?_append_left h, List.getD_eq_getElem?_getD]
/-- A turn's last byte. -/
theorem prevB_last {s : List UInt8} {i : Nat} (hi : i < s.length) : prevB s i = (rotL s i).getD (s.length - 1) 0 := by
  unfold prevB rotL
  rcases Nat.eq_zero_or_pos i with h0 | h0
  · subst h0
    rw [List.drop_zero, List.take_zero, List.append_nil, Nat.zero_add, getD_app_l _ _ (by omega)]
  · have e1 : i + s.length - 1 = s.length + (i - 1) := by omega
    have e2 : s.length - 1 = (s.drop i).length + (i - 1) := by rw [List.length_drop]; omega
    rw [e1, getD_app_r, e2, getD_app_r, List.getD_eq_getElem?_getD, List.getD_eq_getElem?_getD, List.getElem?_take, if_pos (by omega)]
theorem lastB_rows {s : List UInt8} {o : List Nat} (h : ∀ i ∈ o, i < s.length) : lastB s o = (rowsR s o).map (·.getD (s.length - 1) 0) := by
  unfold lastB rowsR
  rw [List.map_map]
  exact List.map_congr_left fun i hi => prevB_last (h i hi)
theorem rotL_rotL {s : List UInt8} {k j : Nat} (hk : k ≤ s.length) (hj : j < s.length) : rotL (rotL s k) j = rotL s ((j + k) % s.length) := by
  unfold rotL
  have l1 : (s.drop k).length = s.length - k := List.length_drop
  have l2 : (s.take k).length = k := by rw [List.length_take]; omega
  rcases Nat.lt_or_ge (j + k) s.length with h | h
  · rw [Nat.mod_eq_of_lt h, List.drop_append_of_le_length (by omega), List.take_append_of_le_length (by omega), List.drop_drop, List.append_assoc]
    rw [Nat.add_comm k j]
    congr 1
    rw [← List.take_append_drop k (s.take (j + k)), List.take_take, Nat.min_eq_left (by omega), List.drop_take, show j + k - k = j from by omega]
  · have e : (j + k) % s.length = j + k - s.length := by
      rw [Nat.mod_eq_sub_mod h, Nat.mod_eq_of_lt (by omega)]
    rw [e]
    obtain ⟨d, hd⟩ : ∃ d, d = j + k - s.length := ⟨_, rfl⟩
    rw [← hd]
    have e1 : (s.drop k ++ s.take k).drop j = (s.drop d).take (k - d) := by
      rw [List.drop_append, List.drop_eq_nil_of_le (by omega), List.nil_append, l1, show j - (s.length - k) = d from by omega, List.drop_take]
    have e2 : (s.drop k ++ s.take k).take j = s.drop k ++ s.take d := by
      rw [List.take_append, List.take_of_length_le (by omega), l1, show j - (s.length - k) = d from by omega, List.take_take, Nat.min_eq_left (by omega)]
    have e3 : s.drop k = (s.drop d).drop (k - d) := by rw [List.drop_drop]; congr 1; omega
    rw [e1, e2, e3, ← List.append_assoc, List.take_append_drop]
theorem turns_perm (s : List UInt8) {k : Nat} (hk : k ≤ s.length) : (turnsL (rotL s k)).Perm (turnsL s) := by
  unfold turnsL
  rw [rotL_len]
  obtain ⟨m, hm⟩ := Nat.exists_eq_add_of_le hk
  have e1 : (List.range s.length).map (rotL (rotL s k)) = (List.range m).map (fun j => rotL s (k + j)) ++ (List.range k).map (rotL s) := by
    rw [hm, Nat.add_comm k m, List.range_add, List.map_append, List.map_map]
    congr 1
    · refine List.map_congr_left fun j hj => ?_
      have := List.mem_range.1 hj
      rw [rotL_rotL hk (by omega), Nat.mod_eq_of_lt (by omega), Nat.add_comm]
    · refine List.map_congr_left fun j hj => ?_
      have := List.mem_range.1 hj
      show rotL (rotL s k) (m + j) = _
      rw [rotL_rotL hk (by omega), show m + j + k = j + s.length from by omega, Nat.add_mod_right, Nat.mod_eq_of_lt (by omega)]
  have e2 : (List.range s.length).map (rotL s) = (List.range k).map (rotL s) ++ (List.range m).map (fun j => rotL s (k + j)) := by
    rw [hm, List.range_add, List.map_append, List.map_map]
    rfl
  rw [e1, e2]
  exact List.perm_append_comm
/-- All turns of a word have the same rows, and the same last bytes. -/
theorem turn_rows {s : List UInt8} {o o' : List Nat} {k : Nat} (hk : k ≤ s.length) (h : IsOrd s o) (h' : IsOrd (rotL s k) o') : rowsR (rotL s k) o' = rowsR s o :=
  sorted_eq (R := lle) (fun a b h1 h2 => lle_antisymm h1 h2) (h'.rows_perm.trans ((turns_perm s hk).trans h.rows_perm.symm)) h'.rows_sorted h.rows_sorted
theorem turn_same {s : List UInt8} {o o' : List Nat} {k : Nat} (hk : k ≤ s.length) (h : IsOrd s o) (h' : IsOrd (rotL s k) o') : lastB (rotL s k) o' = lastB s o := by
  rw [lastB_rows fun i hi => h'.lt hi, lastB_rows fun i hi => h.lt hi, turn_rows hk h h', rotL_len]
/-- Where the word itself stands. -/
def zeroAt (o : List Nat) : Nat := o.idxOf 0

/-- The order of places by their bytes, and of the same by place. -/
def ltB (t : List UInt8) (i k : Nat) : Prop := t.getD i 0 < t.getD k 0 ∨ t.getD i 0 = t.getD k 0 ∧ i < k
def cmpB (t : List UInt8) (i k : Nat) : Int := if t.getD i 0 ≠ t.getD k 0 then ((t.getD i 0).toNat : Int) - ((t.getD k 0).toNat : Int) else (i : Int) - (k : Int)
theorem cmpB_lt (t : List UInt8) (i k : Nat) : cmpB t i k < 0 ↔ ltB t i k := by
  unfold cmpB ltB
  by_cases h : t.getD i 0 = t.getD k 0
  · rw [if_neg (by simpa using h), h]
    constructor
    · intro h; exact .inr ⟨rfl, by omega⟩
    · rintro (h | ⟨_, h⟩)
      · exact absurd h (u8_irrefl _)
      · omega
  · rw [if_pos (by simpa using h)]
    constructor
    · intro h'; exact .inl (UInt8.lt_iff_toNat_lt.2 (by omega))
    · rintro (h' | ⟨h', _⟩)
      · have := UInt8.lt_iff_toNat_lt.1 h'; omega
      · exact absurd h' h
theorem ltB_irrefl (t : List UInt8) (i : Nat) : ¬ ltB t i i := by
  rintro (h | ⟨_, h⟩)
  · exact u8_irrefl _ h
  · omega
theorem ltB_trans {t : List UInt8} {i j k : Nat} (h1 : ltB t i j) (h2 : ltB t j k) : ltB t i k := by
  rcases h1 with h1 | ⟨h1, h1'⟩ <;> rcases h2 with h2 | ⟨h2, h2'⟩
  · exact .inl (u8_trans h1 h2)
  · exact .inl (h2 ▸ h1)
  · exact .inl (h1 ▸ h2)
  · exact .inr ⟨h1.trans h2, by omega⟩
theorem ltB_tri (t : List UInt8) (i k : Nat) : ltB t i k ∨ i = k ∨ ltB t k i := by
  rcases u8_tri (t.getD i 0) (t.getD k 0) with h | h | h
  · exact .inl (.inl h)
  · rcases Nat.lt_trichotomy i k with h' | h' | h'
    · exact .inl (.inr ⟨h, h'⟩)
    · exact .inr (.inl h')
    · exact .inr (.inr (.inr ⟨h.symm, h'⟩))
  · exact .inr (.inr (.inl h))
structure IsOrdB (t : List UInt8) (o : List Nat) : Prop where
  perm : o.Perm (List.range t.length)
  sorted : o.Pairwise (ltB t)
theorem IsOrdB.unique {t : List UInt8} {o o' : List Nat} (h : IsOrdB t o) (h' : IsOrdB t o') : o = o' :=
  sorted_eq (R := ltB t) (fun a b h1 h2 => absurd (ltB_trans h1 h2) (ltB_irrefl t a)) (h.perm.trans h'.perm.symm) h.sorted h'.sorted
theorem IsOrdB.len {t : List UInt8} {o : List Nat} (h : IsOrdB t o) : o.length = t.length := by rw [h.perm.length_eq, List.length_range]
theorem IsOrdB.lt {t : List UInt8} {o : List Nat} (h : IsOrdB t o) {i : Nat} (hi : i ∈ o) : i < t.length := List.mem_range.1 (h.perm.mem_iff.1 hi)
/-- Step by step, from a place: the bytes that come up. -/
def stepsG (t : List UInt8) (l : List Nat) : Nat → Nat → List UInt8
  | _, 0 => []
  | k, n + 1 => t.getD (l.getD k 0) 0 :: stepsG t l (l.getD k 0) n
def placeG (l : List Nat) (k : Nat) : Nat → Nat
  | 0 => k
  | n + 1 => l.getD (placeG l k n) 0
theorem stepsG_snoc (t : List UInt8) (l : List Nat) : ∀ (n k : Nat), stepsG t l k (n + 1) = stepsG t l k n ++ [t.getD (placeG l k (n + 1)) 0]
  | 0, k => rfl
  | n + 1, k => by
    have e : ∀ m k, placeG l (l.getD k 0) m = placeG l k (m + 1) := fun m => by
      induction m with
      | zero => intro k; rfl
      | succ m ih => intro k; show l.getD (placeG l (l.getD k 0) m) 0 = l.getD (placeG l k (m + 1)) 0; rw [ih]
    rw [stepsG, stepsG_snoc t l n, stepsG, List.cons_append, e]
theorem stepsG_len (t : List UInt8) (l : List Nat) : ∀ (n k : Nat), (stepsG t l k n).length = n
  | 0, _ => rfl
  | n + 1, k => by rw [stepsG, List.length_cons, stepsG_len]
end Go.Proofs.YtmephgemokngnaaDoor

/- A block of cells that the library sorts whole; strings.Compare. -/
namespace Go.Proofs.YtmephgemokngnaaDoor
open Go.RowKit Go.Sort Go.Shelf Go.Lib
set_option linter.unusedVariables false

theorem Blk.sortedW {α : Type} [Inhabited α] (enc : α → Value) {w : World} {g : Nat} {T : TypeId} {cs : Array Value} (d : Array α) (h : Blk w g T cs) (hs : cs.size = d.size) (m : Nat) (os : Array Obj) :
    Blk (sortWorld enc w g 0 m d os) g T (d.map enc) ∧ w.grownBy (sortWorld enc w g 0 m d os) (some g) := by
  refine ⟨?_, ⟨rfl, rfl, rfl, by simp [sortWorld], fun k hk hne => ?_⟩⟩
  · unfold Blk at h ⊢
    have hg' : g < w.heap.size := (Array.getElem?_eq_some_iff.1 h).1
    unfold sortWorld
    rw [heap_grow_old _ _ (by simpa using hg')]
    have e : putCells enc 0 d cs = d.map enc := by
      refine Array.ext (by simp [putCells, hs]) fun j h1 h2 => ?_
      have hj : j < d.size := by simpa using h2
      simp only [putCells, Array.getElem_mapIdx, Array.getElem_map]
      rw [if_pos (by omega), Nat.sub_zero, getElem!_pos d j hj]
    simp [putRow, mapBlock, Sort.ahead, Array.getElem?_modify, h, onCells, e]
  · unfold sortWorld
    rw [heap_grow_old _ _ (by simpa using hk)]
    have : g ≠ k := fun e => hne (by rw [e])
    simp [putRow, mapBlock, Sort.ahead, Array.getElem?_modify, this]
theorem Blk.holds1 {α : Type} [Inhabited α] (enc : α → Value) {w : World} {g : Nat} {T : TypeId} (d : Array α) (h : Blk w g T (d.map enc)) : Holds enc w g 0 d := fun j hj => by
  refine ⟨?_, h.frozen _⟩
  rw [h.cell, Nat.zero_add, Array.getElem?_eq_getElem (by simpa using hj), Array.getElem_map, getElem!_pos d j hj]

theorem compare_any (a b : ByteArray) (w : World) : Calls Tryd.prog 28 #[.string a, .string b] w fun e w' => e = .returned (.int .i64 (Lib.compareBytes a.data.toList b.data.toList)) ∧ w = w' := by
  have h := Any.strings_Compare layCompare a b w
  change Calls Tryd.prog 28 _ _ _ at h
  exact h.mono fun _ _ ⟨h1, h2⟩ => ⟨h1, h2.symm⟩
/-- slices.SortFunc of ints: what comes out of it. -/
theorem intSort_any {α : Type} [Inhabited α] (enc : α → Int) (cf : α → α → Int) (hO : SWO (ltOf cf)) (g : Nat) (cb : Array Value) (blk : Nat) (d : Array α) (w : World) (hB : Blk w blk 3 (d.map fun x => Value.int .i64 (enc x)))
    (eg : ∀ args w, (callFunc g args).run Tryd.prog w = .ok (.enter g args) w)
    (hcmp : ∀ W, (∀ b t cs, b ≠ blk → Blk w b t cs → Blk W b t cs) → ∀ x y : α, Calls Tryd.prog g (#[.int .i64 (enc x), .int .i64 (enc y)] ++ cb) W fun e w' => e = .returned (.int .i64 (cf x y)) ∧ ∃ q os', w' = grow (W.drewN q) os') (hsz : d.size < 4611686018427387904) :
    Calls Tryd.prog 26 #[.slice (some ⟨blk, 0, none⟩) d.size d.size, .func (.func g) #[] cb] w fun e w' => e = .returned (.tuple #[]) ∧
      ∃ d' : Array α, d'.toList.Perm d.toList ∧ d'.toList.Pairwise (fun x y => ltOf cf y x = false) ∧ Blk w' blk 3 (d'.map fun x => Value.int .i64 (enc x)) ∧ w.grownBy w' (some blk) := by
  have hL : CmpLays1 Tryd.prog g cb (fun x => Value.int .i64 (enc x)) cf blk 0 d.size w := fun m os dk hdk x y => by
    refine hcmp _ (fun b t cs hb hblk => ?_) x y
    have hgr := (Blk.sortedW (fun x => Value.int .i64 (enc x)) dk hB (by simp [hdk]) m os).2
    exact hblk.grown hgr (fun e => hb (by injection e with e; exact e.symm))
  have h := Any.slices_SortFunc layIntSort (fun x => Value.int .i64 (enc x)) (fun _ => rfl) cf hO g cb blk 0 d.size d w eg hL (Blk.holds1 _ d hB) hB.lt hsz
  change Calls Tryd.prog 26 _ _ _ at h
  refine h.mono fun e w' ⟨he, d', n, os, ⟨hs, _, hp⟩, hsort, hw⟩ => ⟨he, d', ?_, ?_, ?_⟩
  · have e1 : ∀ x : Array α, x.size = d.size → (x.extract 0 d.size).toList = x.toList := fun x hx => by rw [← hx, Array.extract_size]
    rwa [e1 _ hs, e1 _ rfl] at hp
  · refine List.pairwise_iff_getElem.2 fun i j hi hj hij => ?_
    have := hsort i j (Nat.zero_le _) hij (by rw [← hs]; simpa using hj)
    rwa [getElem!_pos d' j (by simpa using hj), getElem!_pos d' i (by simpa using hi)] at this
  · rw [hw]
    exact Blk.sortedW _ d' hB (by simp [hs]) n os
end Go.Proofs.YtmephgemokngnaaDoor

/- IntSort0: contracts of the library laid at this program: the tables of numbers and the facts that they ask. -/
namespace Go.Proofs.YtmephgemokngnaaDoor
open Go.RowKit
set_option linter.unusedVariables false

def layIntSort0_ren : Go.Shelf.Ren := ⟨fun | 6 => 26 | 15 => 34 | 14 => 33 | 28 => 45 | 29 => 46 | 20 => 37 | 21 => 38 | 22 => 39 | 23 => 40 | 24 => 41 | 25 => 42 | 26 => 43 | 27 => 44 | 46 => 52 | 47 => 53 | 48 => 54 | 49 => 55 | 50 => 56 | 57 => 61 | n => n, fun | 22 => 39 | 24 => 3 | 25 => 60 | 3 => 3 | 39 => 70 | 0 => 0 | 53 => 81 | 55 => 83 | 4 => 4 | 46 => 74 | 45 => 73 | 50 => 78 | 5 => 5 | 9 => 9 | 66 => 88 | 70 => 92 | 76 => 99 | 77 => 100 | n => n, fun | n => n⟩
theorem layIntSort0 : Go.Proofs.SlLaysF0.n6 Tryd.prog layIntSort0_ren := {
  mixed := by kernel_rfl,
  f6 := ⟨Tryd.f26.name, by decide, Tryd.func26.trans (congrArg some (by kernel_rfl))⟩,
  f14 := ⟨Tryd.f33.name, by decide, Tryd.func33.trans (congrArg some (by kernel_rfl))⟩,
  f15 := Tryd.func34.trans (congrArg some (by kernel_rfl)),
  f20 := ⟨Tryd.f37.name, by decide, Tryd.func37.trans (congrArg some (by kernel_rfl))⟩,
  f21 := ⟨Tryd.f38.name, by decide, Tryd.func38.trans (congrArg some (by kernel_rfl))⟩,
  f22 := ⟨Tryd.f39.name, by decide, Tryd.func39.trans (congrArg some (by kernel_rfl))⟩,
  f23 := ⟨Tryd.f40.name, by decide, Tryd.func40.trans (congrArg some (by kernel_rfl))⟩,
  f24 := ⟨Tryd.f41.name, by decide, Tryd.func41.trans (congrArg some (by kernel_rfl))⟩,
  f25 := ⟨Tryd.f42.name, by decide, Tryd.func42.trans (congrArg some (by kernel_rfl))⟩,
  f26 := ⟨Tryd.f43.name, by decide, Tryd.func43.trans (congrArg some (by kernel_rfl))⟩,
  f27 := ⟨Tryd.f44.name, by decide, Tryd.func44.trans (congrArg some (by kernel_rfl))⟩,
  f28 := Tryd.func45.trans (congrArg some (by kernel_rfl)),
  f29 := Tryd.func46.trans (congrArg some (by kernel_rfl)),
  f46 := ⟨Tryd.f52.name, by decide, Tryd.func52.trans (congrArg some (by kernel_rfl))⟩,
  f47 := Tryd.func53.trans (congrArg some (by kernel_rfl)),
  f48 := Tryd.func54.trans (congrArg some (by kernel_rfl)),
  f49 := ⟨Tryd.f55.name, by decide, Tryd.func55.trans (congrArg some (by kernel_rfl))⟩,
  f50 := ⟨Tryd.f56.name, by decide, Tryd.func56.trans (congrArg some (by kernel_rfl))⟩,
  f57 := ⟨Tryd.f61.name, by decide, Tryd.func61.trans (congrArg some (by kernel_rfl))⟩,
  t0 := Tryd.underlying0,
  a0 := Tryd.isAgg0,
  z0 := Tryd.sizeOf0,
  v0 := Tryd.zeroValue0,
  t3 := Tryd.underlying3,
  a3 := Tryd.isAgg3,
  z3 := Tryd.sizeOf3,
  v3 := Tryd.zeroValue3,
  t4 := Tryd.underlying4,
  a4 := Tryd.isAgg4,
  z4 := Tryd.sizeOf4,
  v4 := Tryd.zeroValue4,
  t5 := Tryd.underlying5,
  a5 := Tryd.isAgg5,
  z5 := Tryd.sizeOf5,
  v5 := Tryd.zeroValue5,
  t9 := Tryd.underlying9,
  a9 := Tryd.isAgg9,
  z9 := Tryd.sizeOf9,
  v9 := Tryd.zeroValue9,
  t22 := Tryd.underlying39,
  a22 := Tryd.isAgg39,
  z22 := Tryd.sizeOf39,
  v22 := Tryd.zeroValue39,
  t25 := Tryd.underlying60,
  a25 := Tryd.isAgg60,
  z25 := Tryd.sizeOf60,
  v25 := Tryd.zeroValue60,
  t39 := Tryd.underlying70,
  a39 := Tryd.isAgg70,
  z39 := Tryd.sizeOf70,
  v39 := Tryd.zeroValue70,
  t45 := Tryd.underlying73,
  a45 := Tryd.isAgg73,
  z45 := Tryd.sizeOf73,
  v45 := Tryd.zeroValue73,
  t46 := Tryd.underlying74,
  a46 := Tryd.isAgg74,
  z46 := Tryd.sizeOf74,
  v46 := Tryd.zeroValue74,
  t50 := Tryd.underlying78,
  a50 := Tryd.isAgg78,
  z50 := Tryd.sizeOf78,
  v50 := Tryd.zeroValue78,
  t53 := Tryd.underlying81,
  a53 := Tryd.isAgg81,
  z53 := Tryd.sizeOf81,
  v53 := Tryd.zeroValue81,
  t55 := Tryd.underlying83,
  a55 := Tryd.isAgg83,
  z55 := Tryd.sizeOf83,
  v55 := Tryd.zeroValue83,
  t66 := Tryd.underlying88,
  a66 := Tryd.isAgg88,
  z66 := Tryd.sizeOf88,
  v66 := Tryd.zeroValue88,
  t70 := Tryd.underlying92,
  a70 := Tryd.isAgg92,
  z70 := Tryd.sizeOf92,
  v70 := Tryd.zeroValue92,
  t76 := Tryd.underlying99,
  a76 := Tryd.isAgg99,
  z76 := Tryd.sizeOf99,
  v76 := Tryd.zeroValue99,
  t77 := Tryd.underlying100,
  a77 := Tryd.isAgg100,
  z77 := Tryd.sizeOf100,
  v77 := Tryd.zeroValue100 }

end Go.Proofs.YtmephgemokngnaaDoor

/- slices.SortFunc of no ints. -/
namespace Go.Proofs.YtmephgemokngnaaDoor
open Go.RowKit Go.Sort Go.Shelf Go.Lib
set_option linter.unusedVariables false
theorem intSort_none (p : Option Addr) (cap : Nat) (fv : Value) (w : World) : Calls Tryd.prog 26 #[.slice p 0 cap, fv] w fun e w' => e = .returned (.tuple #[]) ∧ w = w' := by
  have h := AnyF.slices_SortFunc_none layIntSort0 p cap fv w
  change Calls Tryd.prog 26 _ _ _ at h
  exact h.mono fun _ _ ⟨h1, h2⟩ => ⟨h1, h2.symm⟩
end Go.Proofs.YtmephgemokngnaaDoor

/- A row of bytes of one's own beside another one: append, string. -/
namespace Go.Proofs.YtmephgemokngnaaDoor
open Go.RowKit
set_option linter.unusedVariables false

/-- A slice of bytes that lies anywhere in a row of one's own. -/
def OwnU (w : World) (K : Nat → Prop) (A : Option Addr) (n c : Nat) (l : List UInt8) : Prop :=
  l.length = n ∧ ((A = none ∧ n = 0 ∧ c = 0) ∨
    ∃ g o cur, A = some ⟨g, o, none⟩ ∧ ¬ K g ∧ Blk w g 5 cur ∧ n ≤ c ∧ c ≤ maxLen ∧ cur.size = o + c ∧ (cur.toList.drop o).take n = l.map b8)
section
variable {w w' : World} {K : Nat → Prop} {A : Option Addr} {n c g o : Nat} {l : List UInt8}
theorem OwnU.nil (w : World) (K : Nat → Prop) : OwnU w K none 0 0 [] := ⟨rfl, .inl ⟨rfl, rfl, rfl⟩⟩
theorem OwnU.cap (h : OwnU w K A n c l) : n ≤ c ∧ c ≤ maxLen := by
  rcases h.2 with ⟨_, h1, h2⟩ | ⟨g, o, cur, _, _, _, h1, h2, _⟩
  · omega
  · exact ⟨h1, h2⟩
theorem OwnU.keep (h : OwnU w K A n c l) (hk : ∀ k, ¬ K k → (Value.slice A n c).ownBlock = some k → k < w.heap.size → w'.heap[k]? = w.heap[k]?) : OwnU w' K A n c l := by
  refine ⟨h.1, ?_⟩
  rcases h.2 with h0 | ⟨g, o, cur, hv, hb, hg, rest⟩
  · exact .inl h0
  · exact .inr ⟨g, o, cur, hv, hb, by unfold Blk; rw [hk g hb (by rw [hv]; rfl) hg.lt]; exact hg, rest⟩
theorem OwnU.after (h : OwnU w K A n c l) (hb : Below w.heap.size w w') : OwnU w' K A n c l := h.keep fun k _ _ hk => hb.block k hk
theorem OwnU.alloc (h : OwnU w K A n c l) (o : Obj) : OwnU (w.alloc o) K A n c l := h.keep fun k _ _ hk => Below.heap_alloc w o k hk
theorem OwnU.far (h : OwnU w K A n c l) (hp : (Value.slice A n c).ownBlock ≠ some g) (i : Nat) (u : Value) : OwnU (w.setCell ⟨g, i, none⟩ u) K A n c l :=
  h.keep fun k _ hq _ => Below.heap_setCell w ⟨g, i, none⟩ u k (by rintro rfl; exact hp hq)
theorem OwnU.grown {row : Option Nat} (h : OwnU w K A n c l) (hg : w.grownBy w' row) (hp : ∀ k, row = some k → (Value.slice A n c).ownBlock ≠ some k) : OwnU w' K A n c l :=
  h.keep fun k _ hq hk => hg.block k hk (fun e => hp k e.symm hq)
theorem OwnU.lt (h : OwnU w K A n c l) : ∀ k, (Value.slice A n c).ownBlock = some k → ¬ K k ∧ k < w.heap.size := fun k hk => by
  rcases h.2 with ⟨rfl, _⟩ | ⟨g, o, cur, rfl, hb, hg, _⟩
  · cases hk
  · injection hk with hk
    subst hk
    exact ⟨hb, hg.lt⟩
theorem OwnU.weak {K' : Nat → Prop} (h : OwnU w K A n c l) (hK : ∀ k, (Value.slice A n c).ownBlock = some k → ¬ K' k) : OwnU w K' A n c l := by
  refine ⟨h.1, ?_⟩
  rcases h.2 with h0 | ⟨g, o, cur, hv, hb, rest⟩
  · exact .inl h0
  · exact .inr ⟨g, o, cur, hv, hK g (by rw [hv]; rfl), rest⟩
theorem OwnU.ne_blk {t : TypeId} {cs : Array Value} (h : OwnU w K A n c l) (hg : Blk w g t cs) (ht : 5 ≠ t) : (Value.slice A n c).ownBlock ≠ some g := fun hq => by
  rcases h.2 with ⟨rfl, _⟩ | ⟨g', o, cur, rfl, hb, hg', _⟩
  · cases hq
  · injection hq with hq
    subst hq
    have := hg'.symm.trans hg
    injection this with this
    injection this with _ this _
    exact ht this
theorem OwnU.shape (h : OwnU w K A n c l) (hn : 0 < n) : ∃ g o, A = some ⟨g, o, none⟩ ∧ g < w.heap.size := by
  rcases h.2 with ⟨_, h0, _⟩ | ⟨g, o, _, hv, _, hg, _⟩
  · omega
  · exact ⟨g, o, hv, hg.lt⟩
theorem OwnU.cell (h : OwnU w K (some ⟨g, o, none⟩) n c l) (j : Nat) (hj : j < n) : w.cell? ⟨g, o + j, none⟩ = some (b8 (l.getD j 0)) := by
  rcases h.2 with ⟨h0, _⟩ | ⟨g', o', cur, hv, hb, hg, h1, h2, h3, h4⟩
  · cases h0
  · injection hv with hv
    injection hv with hv hv2
    subst hv hv2
    rw [hg.cell, ← Array.getElem?_toList]
    have : ((cur.toList.drop o).take n)[j]? = cur.toList[o + j]? := by rw [List.getElem?_take, if_pos hj, List.getElem?_drop]
    rw [← this, h4, List.getElem?_map, List.getElem?_eq_getElem (by rw [h.1]; exact hj), List.getD_eq_getElem?_getD, List.getElem?_eq_getElem (by rw [h.1]; exact hj)]
    rfl
/-- The first of them. -/
theorem OwnU.short (h : OwnU w K A n c l) (m : Nat) (hm : m ≤ n) : OwnU w K A m c (l.take m) := by
  refine ⟨by rw [List.length_take, h.1]; omega, ?_⟩
  rcases h.2 with ⟨h0, h1, h2⟩ | ⟨g, o, cur, hv, hb, hg, h1, h2, h3, h4⟩
  · exact .inl ⟨h0, by omega, h2⟩
  · refine .inr ⟨g, o, cur, hv, hb, hg, by omega, h2, h3, ?_⟩
    rw [List.map_take, ← h4, List.take_take, Nat.min_eq_left hm]
/-- All but the first of them. -/
theorem OwnU.tail (h : OwnU w K (some ⟨g, o, none⟩) (n + 1) c l) : OwnU w K (some ⟨g, o + 1, none⟩) n (c - 1) (l.drop 1) := by
  refine ⟨by rw [List.length_drop, h.1]; omega, ?_⟩
  rcases h.2 with ⟨h0, _⟩ | ⟨g', o', cur, hv, hb, hg, h1, h2, h3, h4⟩
  · cases h0
  · injection hv with hv
    injection hv with hv hv2
    subst hv hv2
    refine .inr ⟨g, o + 1, cur, rfl, hb, hg, by omega, by omega, by omega, ?_⟩
    rw [List.map_drop, ← h4, List.drop_take, List.drop_drop]
    congr 1
end

/-- append of one byte. -/
theorem run_append_U {P : Program} (w : World) (K : Nat → Prop) (t ty : TypeId) (ht : P.underlying t = some (.slice 5)) (hinfo : (P.info? 5).map (fun i => (i.zero, i.size, i.bytes)) = some (some (.int .u8 0), 1, 1))
    (A : Option Addr) (n c : Nat) (l : List UInt8) (hown : OwnU w K A n c l) (a : Addr) (c2 : Nat) (x : UInt8) (hx : w.cell? a = some (b8 x)) (ha : a.spot = none)
    (h63 : n ≤ 8000000000000) (hK : ∀ k, K k → k < w.heap.size) :
    ∃ A' c' w', (Builtin.append_ #[t, t] ty #[.slice A n c, .slice (some a) 1 c2]).run P w = .ok (.slice A' (n + 1) c') w' ∧ OwnU w' K A' (n + 1) c' (l ++ [x]) ∧ w.grownBy w' (Value.slice A n c).ownBlock ∧
      (∀ k, (Value.slice A' (n + 1) c').ownBlock = some k → (Value.slice A n c).ownBlock = some k ∨ w.heap.size ≤ k) := by
  obtain ⟨i, hi, hz, hs1, hby⟩ := info_parts hinfo
  have hnews : ∀ j u, ([b8 x] : List Value)[j]? = some u → w.cell? (a.add j) = some u := fun j u hj => by
    cases j with
    | zero => injection hj with hj; subst hj; obtain ⟨b, o, s⟩ := a; simp only at ha; subst ha; rw [add_at, Nat.add_zero]; exact hx
    | succ j => simp at hj
  have h1 : ∀ u ∈ ([b8 x] : List Value), u.oneCell' = true := b8_one [x]
  have hll : (l ++ [x]).length = n + 1 := by rw [List.length_append, hown.1]; rfl
  rcases hown.2 with ⟨rfl, rfl, rfl⟩ | ⟨g, o, cur, rfl, hb, hg, hnc, hcm, hcs, htake⟩
  · have hl : l = [] := List.eq_nil_of_length_eq_zero hown.1
    subst hl
    have hr := run_append_nil (P := P) w t ty 5 i _ ht hi hz a 1 c2 [b8 x] (by rw [hs1]; rfl) hnews (by omega) (by omega) (by rw [hby]; decide)
    refine ⟨_, _, _, hr, ⟨hll, .inr ⟨w.heap.size, 0, _, rfl, fun hk => Nat.lt_irrefl _ (hK _ hk), Blk.new w.drew _ _, grownCap_ge w 1 0 _, grownCap_le_maxLen w 1 0 _ (by unfold maxLen; omega), ?_, ?_⟩⟩, ⟨rfl, rfl, rfl, by simp, fun k hk _ => Below.heap_alloc w.drew _ k hk⟩, fun k hk => ?_⟩
    · have := grownCap_ge w 1 0 5
      simp only [Array.size_append, List.size_toArray, size_zeroCells, List.length_singleton]
      show 1 + (_ - 1) * 1 = _
      omega
    · simp
    · have hk : w.heap.size = k := by injection hk
      exact .inr (by omega)
  · by_cases hroom : n + 1 ≤ c
    · have hf := run_firstCells_some (P := P) w i.size 1 a 1 c2 [b8 x] (by rw [hs1]; rfl) hnews
      have hst := run_storeCells_T P g (o + n) 5 (0, 0) [b8 x] 0 cur w hg (fun i _ hh => by omega) (by simp; omega) h1
      simp only [Nat.add_zero] at hst
      have hr : (Builtin.append_ #[t, t] ty #[.slice (some ⟨g, o, none⟩) n c, .slice (some a) 1 c2]).run P w =
          .ok (.slice (some ⟨g, o, none⟩) (n + 1) c) (w.setRow g (cur.toList.take (o + n) ++ [b8 x] ++ cur.toList.drop (o + n + [b8 x].length)).toArray) := by
        rw [hs1] at hf
        simp [Builtin.append_, run_underlying ht, sizeOf, typeInfo, hi, Builtin.lenOf, hroom, hf, add_at, hs1, hst]
      refine ⟨_, _, _, hr, ⟨hll, .inr ⟨g, o, _, rfl, hb, setRow_heap w g cur _ _ _ hg, hroom, hcm, ?_, ?_⟩⟩, ⟨rfl, rfl, rfl, by simp, fun k _ hk => setRow_other w g k _ (fun e => hk (by simp [Value.ownBlock, e]))⟩, fun k hk => .inl hk⟩
      · simp only [List.size_toArray, List.length_append, List.length_take, List.length_drop, Array.length_toList, List.length_singleton]; omega
      · rw [List.map_append, ← htake]
        have hlen : (cur.toList.take (o + n)).length = o + n := by rw [List.length_take, Array.length_toList]; omega
        rw [List.append_assoc, List.drop_append_of_le_length (by omega), List.drop_take, show o + n - o = n from by omega]
        have hl2 : ((cur.toList.drop o).take n).length = n := by rw [List.length_take, List.length_drop, Array.length_toList]; omega
        rw [List.take_append, List.take_of_length_le (by omega), hl2, show n + 1 - n = 1 from by omega]
        rfl
    · have holds : ∀ j u, (l.map b8)[j]? = some u → w.cell? ((⟨g, o, none⟩ : Addr).add j) = some u := fun j u hj => by
        have hj' : j < n := by have := (List.getElem?_eq_some_iff.1 hj).1; rw [List.length_map, hown.1] at this; exact this
        rw [add_at, hg.cell, ← Array.getElem?_toList, ← hj, ← htake, List.getElem?_take, if_pos hj', List.getElem?_drop]
      have hr := run_append_grow (P := P) w t ty 5 i _ ht hi hz ⟨g, o, none⟩ n c (l.map b8) (by rw [List.length_map, hown.1, hs1]; omega) holds a 1 c2 [b8 x] (by rw [hs1]; rfl) hnews (by omega) (by omega) (growslice_fits (by omega) (by rw [hby]; omega))
      refine ⟨_, _, _, hr, ⟨hll, .inr ⟨w.heap.size, 0, _, rfl, fun hk => Nat.lt_irrefl _ (hK _ hk), Blk.new w.drew _ _, grownCap_ge w (n + 1) c _, grownCap_le_maxLen w (n + 1) c _ (by unfold maxLen; omega), ?_, ?_⟩⟩, ⟨rfl, rfl, rfl, by simp, fun k hk _ => Below.heap_alloc w.drew _ k hk⟩, fun k hk => ?_⟩
      · have := grownCap_ge w (n + 1) c 5
        simp only [Array.size_append, List.size_toArray, size_zeroCells, List.length_singleton, List.length_map, hown.1]
        show n + 1 + (_ - (n + 1)) * 1 = _
        omega
      · rw [List.drop_zero, Array.toList_append, Array.toList_append, List.take_append_of_le_length (by simp [hown.1]), List.take_of_length_le (by simp [hown.1])]
        simp
      · have hk : w.heap.size = k := by injection hk
        exact .inr (by omega)

/-- append of one byte, as one step of a region that draws. -/
theorem step_append_U {P : Program} {w : World} {ops : Array Oper} {o : Oper} {a : Act} {Kq : Act → World → Prop} {Q : Exit → Act → World → Prop} {E : Prop} (hgd : o.guard = none) (s x : Operand) (t : TypeId)
    (ho : o.op = .call { callee := .builtin .append, args := #[s, x], argTypes := #[t, t] }) (K : Nat → Prop)
    (hinfo : (P.info? 5).map (fun i => (i.zero, i.size, i.bytes)) = some (some (.int .u8 0), 1, 1)) (ht : P.underlying t = some (.slice 5))
    (A : Option Addr) (n c : Nat) (l : List UInt8) (hs : a.eval s = .slice A n c) (hown : OwnU w K A n c l)
    (ad : Addr) (c2 : Nat) (y : UInt8) (hx : a.eval x = .slice (some ad) 1 c2) (hy : w.cell? ad = some (b8 y)) (had : ad.spot = none)
    (h63 : n ≤ 8000000000000) (hK : ∀ k, K k → k < w.heap.size)
    (h : ∀ A' c' w1, OwnU w1 K A' (n + 1) c' (l ++ [y]) → w.grownBy w1 (Value.slice A n c).ownBlock → (∀ k, (Value.slice A' (n + 1) c').ownBlock = some k → (Value.slice A n c).ownBlock = some k ∨ w.heap.size ≤ k) → Kq (a.put o.dst (.slice A' (n + 1) c')) w1) :
    if Region.wanted o (yielded ops a.tmps) = true then Oper.wp P o a w Kq Q else E := by
  rw [if_pos (by simp [Region.wanted, hgd])]
  obtain ⟨A', c', w1, hr, h1, h2, h3⟩ := run_append_U (P := P) w K t o.type ht hinfo A n c l hown ad c2 y hy had h63 hK
  unfold Oper.wp execOp
  simp only [ho, resolve, invoke, builtin, Sem.run_bind, Sem.run_pure, Result.andThen_ok, List.map_toArray, List.map_cons, List.map_nil, hs, hx, hr]
  exact h A' c' w1 h1 h2 h3

theorem infoU8 : (Tryd.prog.info? 5).map (fun i => (i.zero, i.size, i.bytes)) = some (some (.int .u8 0), 1, 1) := by kernel_rfl
theorem run_string_U {P : Program} {w : World} {K : Nat → Prop} {A : Option Addr} {n c : Nat} {l : List UInt8} (src dst : TypeId) (h : OwnU w K A n c l) (hs : P.underlying src = some (.slice 5)) (he : P.underlying 5 = some (.int .u8)) (hd : P.underlying dst = some .string) :
    (convert src dst (.slice A n c)).run P w = .ok (.string ⟨l.toArray⟩) w := by
  rcases h.2 with ⟨rfl, rfl, rfl⟩ | ⟨g, o, cur, rfl, hb, hg, h1, h2, h3, h4⟩
  · have hl : l = [] := List.eq_nil_of_length_eq_zero h.1
    subst hl
    rw [run_convert_bytes_string w src dst 5 none 0 0 hs he hd]
    simp [Conv.bytesToString]
    rfl
  · refine run_string_of w src dst 5 ⟨g, o, none⟩ n c l h.1 hs he hd fun j hj => ?_
    have := h.cell j (by rw [← h.1]; exact hj)
    rw [add_at, this, getD_some _ _ _ hj]
    rfl
end Go.Proofs.YtmephgemokngnaaDoor

/- append by its own run equation, at the operation. -/
namespace Go.Proofs.YtmephgemokngnaaDoor
open Go.RowKit
set_option linter.unusedVariables false
theorem wpList_app_eq {P : Program} {w w' : World} {ops : Array Oper} {rest : List Oper} {o : Oper} {a : Act} {Q : Exit → Act → World → Prop} (hgd : o.guard = none) (s x : Operand) (t u : TypeId)
    (ho : o.op = .call { callee := .builtin .append, args := #[s, x], argTypes := #[t, u] }) (v1 v2 v : Value) (hs : a.eval s = v1) (hx : a.eval x = v2) (hr : (Builtin.append_ #[t, u] o.type #[v1, v2]).run P w = .ok v w')
    (h : wpList P ops Q rest (a.put o.dst v) w') : wpList P ops Q (o :: rest) a w := by
  refine wpList_plain hgd fun K hK => ?_
  unfold Oper.wp execOp
  simp only [ho, resolve, invoke, builtin, Sem.run_bind, Sem.run_pure, Result.andThen_ok, List.map_toArray, List.map_cons, List.map_nil, hs, hx, hr]
  exact hK _ _ h
end Go.Proofs.YtmephgemokngnaaDoor

/- The walk of turn.Put. -/
namespace Go.Proofs.YtmephgemokngnaaDoor
open Go.RowKit Go.Sort Go.Shelf Go.Lib
set_option linter.unusedVariables false

theorem ext_rot (s : ByteArray) (i : Nat) (hi : i ≤ s.size) : ((s ++ s).extract i (i + s.size)).data.toList = rotL s.data.toList i := by
  rw [Lib.extract_data, show (s ++ s).data.toList = s.data.toList ++ s.data.toList from by simp [ByteArray.data_append], Nat.add_sub_cancel_left]
  have hl : s.data.toList.length = s.size := rfl
  unfold rotL
  rw [List.drop_append_of_le_length (by omega), List.take_append, List.take_of_length_le (by rw [List.length_drop]; omega), List.length_drop, show s.size - (s.data.toList.length - i) = i from by omega]

theorem quiet_leftT {P : Program} {f : FuncId} {args : Array Value} {w : World} {n : Nat} {v : Value} (h : Calls P f args (w.drewN n) fun e w' => e = .returned v ∧ w.drewN n = w') :
    Calls P f args (w.drewN n) fun e w'' => e = .returned v ∧ ∃ m, w'' = w.drewN m := h.mono fun _ _ ⟨he, hb⟩ => ⟨he, n, hb.symm⟩
set_option maxHeartbeats 1000000 in
theorem turnCmp (s : ByteArray) (hs : s.size ≤ 200) (b2 b3 : Nat) (i k : Nat) (hi : i < s.size) (hk : k < s.size) (W : World) (c2 : W.cell? ⟨b2, 0, none⟩ = some (.string (s ++ s))) (c3 : W.cell? ⟨b3, 0, none⟩ = some (.string s)) :
    Calls Tryd.prog 27 #[.int .i64 i, .int .i64 k, .pointer (some ⟨b2, 0, none⟩), .pointer (some ⟨b3, 0, none⟩)] W fun e w' => e = .returned (.int .i64 (cmpR s.data.toList i k)) ∧ ∃ q os', w' = grow (W.drewN q) os' := by
  obtain ⟨p, hp⟩ : ∃ p, p = i + s.size := ⟨_, rfl⟩
  obtain ⟨q, hq⟩ : ∃ q, q = k + s.size := ⟨_, rfl⟩
  obtain ⟨tw, htw⟩ : ∃ tw, tw = s ++ s := ⟨_, rfl⟩
  have hts : tw.size = s.size + s.size := by rw [htw, ByteArray.size_append]
  rw [← htw] at c2
  have hc := fun w => compare_any (tw.extract i p) (tw.extract k q) w
  rw [htw, hp, hq, ext_rot s i (by omega), ext_rot s k (by omega)] at hc
  rw [← htw, ← hp, ← hq] at hc
  unfold cmpR
  generalize Lib.compareBytes (rotL s.data.toList i) (rotL s.data.toList k) = c at *
  have hpw : IntKind.i64.wrap ((i : Int) + (s.size : Int)) = (p : Int) := by rw [IntKind.wrap_i64]; omega
  have hqw : IntKind.i64.wrap ((k : Int) + (s.size : Int)) = (q : Int) := by rw [IntKind.wrap_i64]; omega
  have hp1 : p ≤ tw.size := by omega
  have hq1 : q ≤ tw.size := by omega
  have hip : i ≤ p := by omega
  have hkq : k ≤ q := by omega
  have hp1' : (p : Int) ≤ tw.size := by omega
  have hq1' : (q : Int) ≤ tw.size := by omega
  have hip' : (i : Int) ≤ p := by omega
  have hkq' : (k : Int) ≤ q := by omega
  obtain ⟨R, hR⟩ : ∃ R, R = if c ≠ 0 then c else (i : Int) - (k : Int) := ⟨_, rfl⟩
  rw [← hR]
  have HR := Lib.hid hR
  have Hp := Lib.hid hp
  have Hq := Lib.hid hq
  have Hts := Lib.hid hts
  have Hi := Lib.hid hi
  have Hk := Lib.hid hk
  have Hs := Lib.hid hs
  clear htw hp hq hts hi hk hs hR
  go_enter Tryd.func27, Tryd.ntmps27
  go_wp2_with fail
  go_quiet ((go_at_call 28; exact quiet_leftT (hc _)))
  by_cases hc0 : c = 0
  · have q1 : (c != 0) = false := by simp [hc0]
    obtain rfl : R = (i : Int) - (k : Int) := by rw [HR.out, if_neg (by simp [hc0])]
    have e1 : IntKind.i64.wrap ((i : Int) - k) = (i : Int) - k := by have := Hi.out; have := Hk.out; have := Hs.out; rw [IntKind.wrap_i64]; omega
    have e2 : wrap64 ((i : Int) - k) = (i : Int) - k := by have := Hi.out; have := Hk.out; have := Hs.out; exact IntWalk.wrap64_in _ (by omega)
    clear hpw hqw hp1 hq1 hip hkq hp1' hq1' hip' hkq'
    go_wp2
    go_ret
    exact ⟨by first | rfl | simp [e2], _, #[], by simp; try rfl⟩
  · have q1 : (c != 0) = true := by simpa using hc0
    obtain rfl : R = c := by rw [HR.out, if_pos hc0]
    clear hpw hqw hp1 hq1 hip hkq hp1' hq1' hip' hkq'
    go_wp2
    go_ret
    exact ⟨rfl, _, #[], by simp; try rfl⟩

theorem turnSwo (s : List UInt8) (m : Nat) : SWO (ltOf fun x y : Fin (m + 1) => cmpR s x.1 y.1) := by
  have e : ∀ x y : Fin (m + 1), ltOf (fun x y : Fin (m + 1) => cmpR s x.1 y.1) x y = true ↔ ltR s x.1 y.1 := fun x y => by unfold ltOf; rw [decide_eq_true_iff]; exact cmpR_lt s x.1 y.1
  refine ⟨fun x => ?_, fun x y z h1 h2 => ?_, fun x y z h1 h2 => ?_⟩
  · rw [Bool.eq_false_iff]; intro h; exact ltR_irrefl s _ ((e x x).1 h)
  · rw [e] at *; exact ltR_trans h1 h2
  · rw [Bool.eq_false_iff] at *
    intro h
    have h3 := (e x z).1 h
    rcases ltR_tri s x.1 y.1 with k | k | k
    · exact h1 ((e x y).2 k)
    · exact h2 ((e y z).2 (by rw [← k]; exact h3))
    · exact h2 ((e y z).2 (ltR_trans k h3))
/-- What the sort leaves is the order of turns. -/
theorem turnOrd (s : List UInt8) (m : Nat) (hm : s.length = m + 1) (d' : Array (Fin (m + 1))) (hp : d'.toList.Perm (List.finRange (m + 1))) (hs : d'.toList.Pairwise (fun x y => ltOf (fun x y : Fin (m + 1) => cmpR s x.1 y.1) y x = false)) : IsOrd s (d'.toList.map (·.1)) := by
  have hn : d'.toList.Nodup := hp.nodup_iff.2 (List.nodup_finRange _)
  refine ⟨?_, ?_⟩
  · have := hp.map (fun x : Fin (m + 1) => x.1)
    rw [hm]
    refine this.trans ?_
    have e : (List.finRange (m + 1)).map (fun x : Fin (m + 1) => x.1) = List.range (m + 1) := List.ext_getElem (by simp) fun j h1 h2 => by simp
    rw [e]
  · refine List.Pairwise.map _ (fun a b h => ?_) (List.Pairwise.and hs hn)
    obtain ⟨h1, h2⟩ := h
    unfold ltOf at h1
    have h1 := of_decide_eq_false h1
    rw [cmpR_lt] at h1
    rcases ltR_tri s a.1 b.1 with k | k | k
    · exact k
    · exact absurd (Fin.ext k) h2
    · exact absurd k h1

def atK (o : List Nat) (k : Nat) : Nat := if zeroAt o < k then zeroAt o else 0
theorem atK_succ {o : List Nat} (hn : o.Nodup) {k : Nat} (hk : k < o.length) : atK o (k + 1) = if o.getD k 0 = 0 then k else atK o k := by
  have hg : o.getD k 0 = o[k] := by rw [List.getD_eq_getElem?_getD, List.getElem?_eq_getElem hk]; rfl
  unfold atK zeroAt
  by_cases h : o.getD k 0 = 0
  · rw [if_pos h]
    have : o.idxOf 0 = k := by
      rw [hg] at h
      rw [← h]
      exact List.Nodup.idxOf_getElem hn k hk
    rw [if_pos (by omega), this]
  · rw [if_neg h]
    have : o.idxOf 0 ≠ k := fun e => by
      have h1 : o.idxOf 0 < o.length := by omega
      have h2 := List.getElem_idxOf h1
      apply h
      rw [hg]
      simpa [e] using h2
    by_cases h1 : o.idxOf 0 < k
    · rw [if_pos h1, if_pos (by omega)]
    · rw [if_neg h1, if_neg (by omega)]

/-- What Put tells of a word. -/
def ToldPut (s : ByteArray) (w : World) (e : Ending) (w' : World) : Prop :=
  ∃ o, IsOrd s.data.toList o ∧ e = .returned (.tuple #[.string ⟨(lastB s.data.toList o).toArray⟩, .int .i64 (zeroAt o : Int), .int .i64 0]) ∧ RowKit.Below w.heap.size w w'

set_option maxRecDepth 100000 in
set_option maxHeartbeats 4000000 in
theorem turnPut_pos (s : ByteArray) (h0 : 0 < s.size) (hs : s.size ≤ 200) (w : World) : Calls Tryd.prog 14 #[.string s] w (ToldPut s w) := by
  obtain ⟨m, hm⟩ : ∃ m, s.size = m + 1 := ⟨s.size - 1, by omega⟩
  have Hm := Lib.hid hm
  clear hm
  have hbx := Blk.new w 9 #[.string s]
  have hb0 : RowKit.Below w.heap.size w (w.alloc (Obj.cells #[.string s] 9)) := (Below.refl _ _).alloc (Nat.le_refl _) _
  have hC := Lib.hid (wordCheck_ok s hs)
  have hmk := fun w => make_ints (P := Tryd.prog) 39 3 Tryd.underlying39 (by kernel_rfl) s.size s.size rfl (by omega) w
  have eg : ∀ args w, (callFunc 27 args).run Tryd.prog w = .ok (.enter 27 args) w := enters_of Tryd.func27 (by kernel_rfl) rfl
  have hca : ∀ w, (Op.stringOp .add s s).run Tryd.prog w = .ok (.string (s ++ s)) w := fun w => run_string_add_sum w _ _ (by omega)
  go_enter Tryd.func14, Tryd.ntmps14
  go_wp2_with fail
  have c1 : (w.alloc (Obj.cells #[.string s] 9)).cell? ⟨w.heap.size, 0, none⟩ = some (.string s) := hbx.cell 0
  have hz1 : (w.alloc (Obj.cells #[.string s] 9)).heap.size = w.heap.size + 1 := by simp
  generalize w.alloc (Obj.cells #[.string s] 9) = w1 at *
  go_wp2_with fail
  refine (hC.out _).mono ?_
  rintro e w2 ⟨rfl, rfl⟩
  have hMz : (madeCells #[.int .i64 0] s.size).size = s.size := by
    have := toList_madeCells_one (.int .i64 0) s.size
    rw [← Array.length_toList, this, List.length_replicate]
  have hgo := Blk.new w1 3 (madeCells #[.int .i64 0] s.size)
  have hbx2 := hbx.alloc (Obj.cells (madeCells #[.int .i64 0] s.size) 3)
  have hb2 := hb0.alloc hb0.size (Obj.cells (madeCells #[.int .i64 0] s.size) 3)
  have hgs : w1.heap.size = w.heap.size + 1 := hz1
  rw [hgs] at hgo
  go_wp2
  generalize w1.alloc (Obj.cells (madeCells #[.int .i64 0] s.size) 3) = w2 at *
  generalize madeCells #[.int .i64 0] s.size = cs0 at *
  go_loopw [7, 23] (fun _ iv wr => ∃ (k : Nat) (cs : Array Value), k ≤ s.size ∧ iv = .int .i64 k ∧ cs.size = s.size ∧ Hid (∀ j, j < k → cs[j]? = some (.int .i64 j)) ∧ Blk wr (w.heap.size + 1) 3 cs ∧ Blk wr w.heap.size 9 #[.string s] ∧ RowKit.Below w.heap.size w wr ∧ w.heap.size + 2 ≤ wr.heap.size) (fun _ iv _ => s.size - (intOf iv).toNat)
  case atStart => exact ⟨0, cs0, Nat.zero_le _, rfl, hMz, Lib.hid (fun j hj => by omega), hgo, hbx2, hb2, hgo.lt⟩
  case round =>
    clear hgo hbx2 hb2 hMz
    obtain ⟨k, cs, hk, rfl, hcs, Hcs, hg, hx, hbr, hsz⟩ := hrel
    by_cases hlt : k < s.size
    · have f0 := hg.frozen k
      have g0 : wr.cell? ⟨w.heap.size + 1, k, none⟩ = some (cs[k]'(by omega)) := by rw [hg.cell, Array.getElem?_eq_getElem]
      have ilt : (k : Int) < s.size := by omega
      generalize hck : cs[k]'(by omega) = ck at *
      clear hck
      go_wp2
      go_roundw
      case rel =>
        refine ⟨k + 1, _, by omega, by go_num, ?_, Lib.hid fun j hj => ?_, hg.set_ k (.int .i64 k), hx.far (by show w.heap.size ≠ w.heap.size + 1; omega) _, hbr.setCell (by show w.heap.size ≤ w.heap.size + 1; omega) _, by rw [size_setCell]; exact hsz⟩
        · simpa using hcs
        · rw [Array.getElem?_setIfInBounds]
          by_cases e : k = j
          · subst e; rw [if_pos rfl, if_pos (by omega)]
          · rw [if_neg e]; exact Hcs.out j (by omega)
      case measure => simp [intOf]; omega
    · obtain rfl : k = s.size := by omega
      generalize wr = V at *
      have hcd : cs = ((List.finRange (m + 1)).toArray.map fun x : Fin (m + 1) => Value.int .i64 (x.1 : Int)) := by
        refine Array.ext (by simp [hcs, Hm.out]) fun j h1 h2 => ?_
        have := Hcs.out j (by omega)
        rw [Array.getElem?_eq_getElem h1] at this
        injection this with this
        rw [this]; simp
      rw [hcd] at hg
      have e1 : V.cell? ⟨w.heap.size, 0, none⟩ = some (.string s) := hx.cell 0
      have hy := Blk.new V 9 #[.string (s ++ s)]
      have hx3 := hx.alloc (Obj.cells #[.string (s ++ s)] 9)
      have hg3 := hg.alloc (Obj.cells #[.string (s ++ s)] 9)
      have hb3 := hbr.alloc hbr.size (Obj.cells #[.string (s ++ s)] 9)
      have hz3 : (V.alloc (Obj.cells #[.string (s ++ s)] 9)).heap.size = V.heap.size + 1 := by simp
      clear hx hg hbr Hcs hcd hcs
      go_wp2_with fail
      have hS := intSort_any (fun x : Fin (m + 1) => (x.1 : Int)) (fun x y => cmpR s.data.toList x.1 y.1) (turnSwo s.data.toList m) 27 #[.pointer (some ⟨V.heap.size, 0, none⟩), .pointer (some ⟨w.heap.size, 0, none⟩)] (w.heap.size + 1) (List.finRange (m + 1)).toArray (V.alloc (Obj.cells #[.string (s ++ s)] 9)) hg3 eg
        (fun W hW x y => turnCmp s hs V.heap.size w.heap.size x.1 y.1 (by have := x.2; have := Hm.out; omega) (by have := y.2; have := Hm.out; omega) W ((hW _ _ _ (by omega) hy).cell 0) ((hW _ _ _ (by omega) hx3).cell 0)) (by have := Hm.out; simp; omega)
      rw [show (List.finRange (m + 1)).toArray.size = s.size from by simp [Hm.out]] at hS
      refine hS.mono ?_
      rintro e w4 ⟨rfl, d', hp, hsd, hg4, hgr⟩
      have hx4 := hx3.grown hgr (fun e => by injection e with e; omega)
      have hy4 := hy.grown hgr (fun e => by injection e with e; omega)
      have hb4 : RowKit.Below w.heap.size w w4 := hb3.grown hgr hb3.size (fun k hk => by injection hk with hk; omega)
      have hz4 : V.heap.size + 1 ≤ w4.heap.size := by have := hgr.size; omega
      have hord := turnOrd s.data.toList m Hm.out d' (by simpa using hp) hsd
      obtain ⟨o, ho⟩ : ∃ o, o = d'.toList.map (·.1) := ⟨_, rfl⟩
      rw [← ho] at hord
      have hol : o.length = s.size := hord.len
      have hnd : o.Nodup := hord.perm.nodup_iff.2 List.nodup_range
      have hcell : ∀ k, k < s.size → w4.cell? ⟨w.heap.size + 1, k, none⟩ = some (.int .i64 ((o.getD k 0 : Nat) : Int)) := fun k hk => by
        have hk2 : k < d'.size := by rw [← hol, ho] at hk; simpa using hk
        rw [hg4.cell, Array.getElem?_eq_getElem (by simpa using hk2), Array.getElem_map, ho, List.getD_eq_getElem?_getD, List.getElem?_eq_getElem (by simpa using hk2), List.getElem_map]
        rfl
      have hbz : w.heap.size + 1 < w4.heap.size := hg4.lt
      have hK4 : ∀ k, k < w.heap.size → k < w4.heap.size := fun k hk => by omega
      have Ho := Lib.hid ho
      have Hord := Lib.hid hord
      have Hol := Lib.hid hol
      have Hnd := Lib.hid hnd
      clear hS hy hx3 hg3 hb3 hgr hp hsd ho hord hol hnd hz3 hca hmk
      go_wp2
      go_loopw [9, 10, 11, 12, 40] (fun bv av _ _ iv W => ∃ (k : Nat) (A : Option Addr) (c : Nat), k ≤ s.size ∧ iv = .int .i64 k ∧ av = .int .i64 ((atK o k : Nat) : Int) ∧ bv = .slice A k c ∧ OwnU W (fun q => q < w4.heap.size) A k c (lastB s.data.toList (o.take k)) ∧ RowKit.Below w4.heap.size w4 W) (fun _ _ _ _ iv _ => s.size - (intOf iv).toNat)
      case atStart =>
        refine ⟨0, _, 0, Nat.zero_le _, rfl, rfl, rfl, ⟨rfl, .inr ⟨w4.heap.size, 0, #[], rfl, by omega, Blk.new w4 _ _, Nat.le_refl _, Nat.zero_le _, rfl, rfl⟩⟩, (Below.refl _ _).alloc (Nat.le_refl _) _⟩
      case round =>
        obtain ⟨k, A, c, hk, rfl, rfl, rfl, hown, hbr⟩ := hrel
        have hb5 : RowKit.Below w.heap.size w wr := hb4.trans (hbr.mono (by omega))
        by_cases hlt : k < s.size
        · have k0 : wr.cell? ⟨w.heap.size + 1, k, none⟩ = some (.int .i64 ((o.getD k 0 : Nat) : Int)) := (hbr.cell (p := ⟨w.heap.size + 1, k, none⟩) hbz).trans (hcell k hlt)
          have k1 : wr.cell? ⟨V.heap.size, 0, none⟩ = some (.string (s ++ s)) := (hy4.below hbr hy4.lt).cell 0
          have k2 : wr.cell? ⟨w.heap.size, 0, none⟩ = some (.string s) := (hx4.below hbr hx4.lt).cell 0
          have hat := atK_succ Hnd.out (k := k) (by rw [Hol.out]; exact hlt)
          have htk : o.take (k + 1) = o.take k ++ [o.getD k 0] := take_succ_getD o k 0 (by rw [Hol.out]; exact hlt)
          have hii : o.getD k 0 < s.size := Hord.out.lt (by rw [List.getD_eq_getElem?_getD, List.getElem?_eq_getElem (by rw [Hol.out]; exact hlt)]; exact List.getElem_mem _)
          have hlb : lastB s.data.toList (o.take (k + 1)) = lastB s.data.toList (o.take k) ++ [prevB s.data.toList (o.getD k 0)] := by rw [htk]; unfold lastB; rw [List.map_append]; rfl
          have Hat := Lib.hid hat
          have Hlb := Lib.hid hlb
          clear hat htk hlb
          generalize o.getD k 0 = i at *
          obtain ⟨p, hp⟩ : ∃ p, p = i + s.size - 1 := ⟨_, rfl⟩
          obtain ⟨tw, htw⟩ : ∃ tw, tw = s ++ s := ⟨_, rfl⟩
          have hts : tw.size = s.size + s.size := by rw [htw, ByteArray.size_append]
          have hpt : p < tw.size := by omega
          have hpt' : (p : Int) < tw.size := by omega
          have hpe : (i : Int) + (s.size : Int) - 1 = (p : Int) := by omega
          have hpb : prevB s.data.toList i = tw[p] := by
            rw [← getD_bytes tw p hpt, htw, hp]
            unfold prevB
            rw [show (s ++ s).data.toList = s.data.toList ++ s.data.toList from by simp [ByteArray.data_append]]
            rfl
          rw [← htw] at k1
          have hk8 : k ≤ 8000000000000 := by omega
          obtain ⟨A', c', wr', r1, r2, r3, r4⟩ := run_append_U (P := Tryd.prog) (wr.alloc (Obj.cells #[.int .u8 (tw[p].toNat : Int)] 5)) (fun q => q < w4.heap.size) 61 61 Tryd.underlying61 infoU8 A k c _ (hown.alloc _) ⟨wr.heap.size, 0, none⟩ 1 tw[p] (by
              rw [World.cell?_alloc_mark]; rfl) rfl hk8 (fun q hq => by have := hbr.size; simp; omega)
          have hbr2 : RowKit.Below w4.heap.size w4 wr' := (hbr.alloc hbr.size _).grown r3 (by have := hbr.size; simp; omega) fun q hq => by have := (hown.lt q hq).1; omega
          rw [← hpb, ← Hlb.out] at r2
          have Hr2 := Lib.hid r2
          have Hts := Lib.hid hts
          have Hp := Lib.hid hp
          clear hts hp htw hpb r2 r3 r4
          have qz : ((i : Int) == 0) = decide (i = 0) := by
            by_cases h : i = 0
            · simp [h]
            · rw [decide_eq_false h]; simpa using (show (i : Int) ≠ 0 by omega)
          by_cases hi0 : i = 0
          · rw [if_pos hi0] at Hat
            have qz1 : ((i : Int) == 0) = true := by rw [qz]; exact decide_eq_true hi0
            clear qz hi0
            go_wp2_with (first | (at_builtin; go_must (refine wpList_app_eq rfl (.tmp 45) (.tmp 53) 61 61 rfl _ _ _ rfl rfl r1 ?_)))
            clear r1
            go_wp2
            go_roundw
            case rel => exact ⟨k + 1, A', c', by omega, by go_num, by rw [Hat.out], rfl, Hr2.out, hbr2⟩
            case measure => simp [intOf]; omega
          · rw [if_neg hi0] at Hat
            have qz2 : ((i : Int) == 0) = false := by rw [qz]; exact decide_eq_false hi0
            clear qz
            go_wp2_with (first | (at_builtin; go_must (refine wpList_app_eq rfl (.tmp 45) (.tmp 53) 61 61 rfl _ _ _ rfl rfl r1 ?_)))
            clear r1
            go_wp2
            go_roundw
            case rel => exact ⟨k + 1, A', c', by omega, by go_num, by rw [Hat.out], rfl, Hr2.out, hbr2⟩
            case measure => simp [intOf]; omega
        · obtain rfl : k = s.size := by omega
          have e : o.take s.size = o := List.take_of_length_le (by rw [Hol.out]; exact Nat.le_refl _)
          rw [e] at hown
          have hstr := run_string_U (P := Tryd.prog) 61 9 hown Tryd.underlying61 Tryd.underlying5 Tryd.underlying9
          have hz : atK o s.size = zeroAt o := by
            unfold atK zeroAt
            rw [if_pos]
            rw [← Hol.out]
            exact List.idxOf_lt_length_of_mem (Hord.out.perm.mem_iff.2 (List.mem_range.2 h0))
          rw [hz]
          have Hz := Lib.hid hz
          clear hz e
          go_wp2
          refine bodyPost_ret (by simp [results, Tryd.results14, go_sem]; try rfl) rfl ?_
          exact ⟨o, Hord.out, rfl, hb5⟩

set_option maxRecDepth 100000 in
set_option maxHeartbeats 2000000 in
theorem turnPut_zero (w : World) : Calls Tryd.prog 14 #[.string ⟨#[]⟩] w (ToldPut ⟨#[]⟩ w) := by
  have hC := Lib.hid (wordCheck_ok ⟨#[]⟩ (by decide))
  have hmk := fun w => make_ints (P := Tryd.prog) 39 3 Tryd.underlying39 (by kernel_rfl) 0 0 rfl (by omega) w
  have hca : ∀ w, (Op.stringOp .add (⟨#[]⟩ : ByteArray) ⟨#[]⟩).run Tryd.prog w = .ok (.string (⟨#[]⟩ ++ ⟨#[]⟩)) w := fun w => run_string_add_sum w _ _ (by decide)
  have hbx := Blk.new w 9 #[.string ⟨#[]⟩]
  have hb0 : RowKit.Below w.heap.size w (w.alloc (Obj.cells #[.string ⟨#[]⟩] 9)) := (Below.refl _ _).alloc (Nat.le_refl _) _
  have c1 : (w.alloc (Obj.cells #[.string ⟨#[]⟩] 9)).cell? ⟨w.heap.size, 0, none⟩ = some (.string ⟨#[]⟩) := hbx.cell 0
  go_enter Tryd.func14, Tryd.ntmps14
  go_wp2_with fail
  generalize w.alloc (Obj.cells #[.string ⟨#[]⟩] 9) = w1 at *
  go_wp2_with fail
  refine (hC.out _).mono ?_
  rintro e w2 ⟨rfl, rfl⟩
  have hbx2 := hbx.alloc (Obj.cells (madeCells #[.int .i64 0] 0) 3)
  have hb2 := hb0.alloc hb0.size (Obj.cells (madeCells #[.int .i64 0] 0) 3)
  go_wp2
  generalize w1.heap.size = g1 at *
  generalize w1.alloc (Obj.cells (madeCells #[.int .i64 0] 0) 3) = w2 at *
  go_loopw [7, 23] (fun _ iv wr => iv = .int .i64 0 ∧ wr = w2) (fun _ iv _ => 0)
  case atStart => exact ⟨rfl, rfl⟩
  case round =>
    obtain ⟨rfl, rfl⟩ := hrel
    have e1 : wr.cell? ⟨w.heap.size, 0, none⟩ = some (.string ⟨#[]⟩) := hbx2.cell 0
    generalize wr = V at *
    have hb3 := hb2.alloc hb2.size (Obj.cells #[.string ((⟨#[]⟩ : ByteArray) ++ ⟨#[]⟩)] 9)
    go_wp2_with fail
    refine (intSort_none _ _ _ _).mono ?_
    rintro e w4 ⟨rfl, rfl⟩
    have hb4 := hb3.alloc hb3.size (Obj.cells #[] 5)
    go_wp2
    go_loopw [9, 10, 11, 12, 40] (fun bv av _ _ iv W => iv = .int .i64 0 ∧ av = .int .i64 0 ∧ OwnU W (fun q => q < w.heap.size) none 0 0 [] ∧ (∃ g, bv = .slice (some ⟨g, 0, none⟩) 0 0) ∧ RowKit.Below w.heap.size w W) (fun _ _ _ _ iv _ => 0)
    case atStart => exact ⟨rfl, rfl, OwnU.nil _ _, ⟨_, rfl⟩, hb4⟩
    case round =>
      obtain ⟨rfl, rfl, hown, ⟨g, rfl⟩, hbr⟩ := hrel
      have hstr : (convert 61 9 (.slice (some ⟨g, 0, none⟩) 0 0)).run Tryd.prog wr = .ok (.string ⟨#[]⟩) wr := by
        refine run_string_of wr 61 9 5 ⟨g, 0, none⟩ 0 0 [] rfl Tryd.underlying61 Tryd.underlying5 Tryd.underlying9 fun j hj => by simp at hj
      go_wp2
      refine bodyPost_ret (by simp [results, Tryd.results14, go_sem]; try rfl) rfl ?_
      exact ⟨[], ⟨by simp, by simp⟩, rfl, hbr⟩
theorem turnPut_ok (s : ByteArray) (hs : s.size ≤ 200) (w : World) : Calls Tryd.prog 14 #[.string s] w (ToldPut s w) := by
  rcases Nat.eq_zero_or_pos s.size with h0 | h0
  · obtain rfl : s = ⟨#[]⟩ := by
      obtain ⟨⟨l⟩⟩ := s
      cases l with
      | nil => rfl
      | cons a l => simp [ByteArray.size] at h0
    exact turnPut_zero w
  · exact turnPut_pos s h0 hs w
set_option maxHeartbeats 1000000 in
theorem turnPut_no (s : ByteArray) (hs : 200 < s.size) (w : World) : Calls Tryd.prog 14 #[.string s] w fun e w' => e = .returned (.tuple #[.string ⟨#[]⟩, .int .i64 0, .int .i64 2]) ∧ RowKit.Below w.heap.size w w' := by
  have hC := Lib.hid (wordCheck_no s hs)
  have hbx := Blk.new w 9 #[.string s]
  have hb0 : RowKit.Below w.heap.size w (w.alloc (Obj.cells #[.string s] 9)) := (Below.refl _ _).alloc (Nat.le_refl _) _
  have c1 : (w.alloc (Obj.cells #[.string s] 9)).cell? ⟨w.heap.size, 0, none⟩ = some (.string s) := hbx.cell 0
  go_enter Tryd.func14, Tryd.ntmps14
  go_wp2_with fail
  generalize w.alloc (Obj.cells #[.string s] 9) = w1 at *
  go_wp2_with fail
  refine (hC.out _).mono ?_
  rintro e w2 ⟨rfl, rfl⟩
  go_wp2
  refine bodyPost_ret (by simp [results, Tryd.results14, go_sem]; try rfl) rfl ?_
  exact ⟨rfl, hb0⟩
/- turns: of banana. -/
end Go.Proofs.YtmephgemokngnaaDoor

/- The walk of the laws' helper good (of quilltop): no error among those given. -/
namespace Go.Proofs.YtmephgemokngnaaDoor
open Go.RowKit
set_option linter.unusedVariables false

set_option maxHeartbeats 400000 in
theorem notOkT_any (x : Int) (w : World) :
    Calls Tryd.prog 21 #[.int .i64 x] w fun e w' => e = .returned (.bool (x != 0)) ∧ w = w' := by
  go_enter Tryd.func21, Tryd.ntmps21
  go_wp2
  go_ret
  exact ⟨rfl, rfl⟩

/-- Where the first error stands, or -1. -/
def firstBadT : List Int → Nat → Int
  | [], _ => -1
  | x :: l, k => if x = 0 then firstBadT l (k + 1) else (k : Int)
theorem firstBadT_neg : ∀ (l : List Int) (k : Nat), decide (0 ≤ firstBadT l k) = !(l.all (· == 0))
  | [], k => by simp [firstBadT]
  | x :: l, k => by
    unfold firstBadT
    by_cases h : x = 0
    · rw [if_pos h, firstBadT_neg l (k + 1)]; simp [h]
    · rw [if_neg h]; simp [h]

set_option maxHeartbeats 400000 in
theorem indexBadT_any (g o n c : Nat) (es : List Int) (hes : es.length = n) (hn : n ≤ 1000) (w : World) (hc : ∀ j, j < n → w.cell? ⟨g, o + j, none⟩ = some (.int .i64 (es.getD j 0))) :
    Calls Tryd.prog 30 #[.slice (some ⟨g, o, none⟩) n c, .func (Fn.func 21) #[] #[]] w
      fun e w' => e = .returned (.int .i64 (firstBadT es 0)) ∧ w = w' := by
  have Hc := Lib.hid hc
  clear hc
  go_enter Tryd.func30, Tryd.ntmps30
  go_wp2
  go_loop [5, 8] (fun _ i => ∃ k : Nat, k ≤ n ∧ i = .int .i64 k ∧ firstBadT es 0 = firstBadT (es.drop k) k) (fun _ i => n - (intOf i).toNat)
  case atStart => exact ⟨0, Nat.zero_le _, rfl, by simp⟩
  case round =>
    obtain ⟨k, hk, rfl, hf⟩ := hrel
    have Hf := Lib.hid hf
    clear hf
    by_cases hlt : k < n
    · have hck := Hc.out k hlt
      have hd : es.drop k = es.getD k 0 :: es.drop (k + 1) := drop_getD es k 0 (by omega)
      have Hd := Lib.hid hd
      clear hd
      by_cases h0 : es.getD k 0 = 0
      · rw [h0] at hck
        have hv : ∀ w, Calls Tryd.prog 21 #[.int .i64 0] w fun e w' => e = .returned (.bool false) ∧ w = w' := fun w => notOkT_any 0 w
        have Hv := Lib.hid hv
        have H0 := Lib.hid h0
        clear hv h0
        go_wp2_with fail
        refine (Hv.out _).mono ?_
        rintro e w1 ⟨rfl, rfl⟩
        go_wp2
        go_round
        case rel => exact ⟨k + 1, by omega, by go_num, by rw [Hf.out, Hd.out, firstBadT, if_pos H0.out]⟩
        case measure => simp [intOf]; omega
      · have hv : ∀ w, Calls Tryd.prog 21 #[.int .i64 (es.getD k 0)] w fun e w' => e = .returned (.bool true) ∧ w = w' := fun w =>
          (notOkT_any (es.getD k 0) w).mono fun e w' ⟨he, hw⟩ => ⟨by rw [he]; congr 2; simpa using h0, hw⟩
        generalize es.getD k 0 = v at *
        have Hv := Lib.hid hv
        have H0 := Lib.hid h0
        clear hv h0
        go_wp2_with fail
        refine (Hv.out _).mono ?_
        rintro e w1 ⟨rfl, rfl⟩
        go_wp2
        go_ret
        exact ⟨by rw [Hf.out, Hd.out, firstBadT, if_neg H0.out]; rfl, rfl⟩
    · obtain rfl : k = n := by omega
      go_wp2
      go_ret
      exact ⟨by rw [Hf.out, List.drop_of_length_le (by omega)]; rfl, rfl⟩

set_option maxHeartbeats 400000 in
theorem goodT_any (g o n c : Nat) (es : List Int) (hes : es.length = n) (hn : n ≤ 1000) (w : World) (hc : ∀ j, j < n → w.cell? ⟨g, o + j, none⟩ = some (.int .i64 (es.getD j 0))) :
    Calls Tryd.prog 11 #[.slice (some ⟨g, o, none⟩) n c] w fun e w' => e = .returned (.bool (es.all (· == 0))) ∧ w = w' := by
  have hcf : Calls Tryd.prog 20 #[.slice (some ⟨g, o, none⟩) n c, .func (Fn.func 21) #[] #[]] w
      fun e w' => e = .returned (.bool (!(es.all (· == 0)))) ∧ w = w' := by
    have hr := firstBadT_neg es 0
    have Hr := Lib.hid hr
    clear hr
    have H1 := Lib.hid (indexBadT_any g o n c es hes hn w hc)
    clear hc
    go_enter Tryd.func20, Tryd.ntmps20
    go_wp2_with fail
    refine H1.out.mono ?_
    rintro e w1 ⟨rfl, rfl⟩
    generalize firstBadT es 0 = v at *
    go_wp2
    go_ret
    exact ⟨congrArg (fun b => Ending.returned (.bool b)) Hr.out, rfl⟩
  have Hcf := Lib.hid hcf
  clear hcf hc
  go_enter Tryd.func11, Tryd.ntmps11
  go_wp2_with fail
  refine Hcf.out.mono ?_
  rintro e w1 ⟨rfl, rfl⟩
  go_wp2
  go_ret
  exact ⟨by simp, rfl⟩

/-- At a slice that the call has just made. -/
theorem goodT_fresh (es : List Int) (n c : Nat) (hes : es.length = n) (hn : n ≤ 1000) (w : World) (T : TypeId) :
    Calls Tryd.prog 11 #[.slice (some ⟨w.heap.size, 0, none⟩) n c] (w.alloc (.cells (es.map (Value.int .i64)).toArray T))
      fun e w' => e = .returned (.bool (es.all (· == 0))) ∧ Below w.heap.size w w' := by
  refine (goodT_any w.heap.size 0 n c es hes hn _ fun j hj => ?_).mono fun e w' ⟨he, hw⟩ => ⟨he, by rw [← hw]; exact (Below.refl _ _).alloc (Nat.le_refl _) _⟩
  rw [Nat.zero_add, World.cell?_alloc_mark]
  simp [hes, hj, List.getD]

end Go.Proofs.YtmephgemokngnaaDoor

/- The walk of the helper works. -/
namespace Go.Proofs.YtmephgemokngnaaDoor
open Go.RowKit
set_option linter.unusedVariables false

theorem works_hello : checkE 5 [(0, 1, ⟨#[74]⟩)] = 0 ∧ app [104, 101, 108, 108, 111] 0 [(0, 1, ⟨#[74]⟩)] = [74, 101, 108, 108, 111] := by decide +kernel
set_option maxRecDepth 100000 in
set_option maxHeartbeats 1000000 in
theorem works_any (w : World) : Calls Tryd.prog 5 #[] w fun e w' => e = .returned (.bool true) ∧ Below w.heap.size w w' := by
  have hP := Lib.hid (turnPut_ok ⟨#[98, 97, 110, 97, 110, 97]⟩ (by decide))
  have hB : IsOrd (⟨#[98, 97, 110, 97, 110, 97]⟩ : ByteArray).data.toList [5, 3, 1, 0, 4, 2] := ⟨by decide, by unfold ltR; decide⟩
  have c1 : ∀ w A c, Reads w w.heap.size A 1 3 [.int .i64 0, .int .i64 1, .string ⟨#[74]⟩] → Calls Tryd.prog 8 #[.string ⟨#[104, 101, 108, 108, 111]⟩, .slice A 1 c] w fun e w' => e = .returned (.tuple #[.string ⟨#[74, 101, 108, 108, 111]⟩, .int .i64 0]) ∧ Below w.heap.size w w' := fun w A c h => by
    have := apply_ok ⟨#[104, 101, 108, 108, 111]⟩ A 1 c w.heap.size [(0, 1, ⟨#[74]⟩)] rfl works_hello.1 w h (Nat.le_refl _)
    have e := works_hello.2
    have e1 : (ByteArray.mk #[104, 101, 108, 108, 111]).data.toList = [104, 101, 108, 108, 111] := rfl
    rw [e1, e] at this
    exact this
  have C1 := Lib.hid c1
  clear c1
  have hbd := buildEdit
  go_enter Tryd.func5, Tryd.ntmps5
  go_wp2_with fail
  refine (hP.out _).mono ?_
  rintro e w1 ⟨o, ho, rfl, hb1⟩
  obtain rfl := ho.unique hB
  have e1 : (⟨(lastB (⟨#[98, 97, 110, 97, 110, 97]⟩ : ByteArray).data.toList [5, 3, 1, 0, 4, 2]).toArray⟩ : ByteArray) = ⟨#[110, 110, 98, 97, 97, 97]⟩ := by decide
  have e2 : zeroAt [5, 3, 1, 0, 4, 2] = 3 := by decide
  rw [e1, e2]
  clear e1 e2 ho hB hP
  go_wp2_with fail
  refine (C1.out _ _ _ (Reads.made w1 #[.int .i64 0, .int .i64 1, .string ⟨#[74]⟩] _ 1 3 rfl)).mono ?_
  rintro e w2 ⟨rfl, hb2⟩
  have hb3 : Below w.heap.size w w2 := (hb1.alloc hb1.size _).trans (hb2.mono (by have := hb1.size; simp; omega))
  go_wp2
  all_goals (go_ret; exact ⟨by first | rfl | simp, hb3⟩)
end Go.Proofs.YtmephgemokngnaaDoor

/- TopScripts' walk: scripts written, read, done, undone and joined. -/
namespace Go.Proofs.YtmephgemokngnaaDoor
open Go.RowKit
set_option linter.unusedVariables false

/-- Make's answer: the script, or an error and nothing. -/
theorem make_told (a b : ByteArray) (w : World) : Calls Tryd.prog 4 #[.string a, .string b] w fun e w' => Below w.heap.size w w' ∧ ∃ (A : Option Addr) (c : Nat) (l : List Ed) (E : Int), e = .returned (.tuple #[.slice A l.length c, .int .i64 E]) ∧ Reads w' w'.heap.size A l.length 3 (l.flatMap cEdit) ∧ ((E = 0 ∧ l = makeE a b ∧ a.size ≤ 200 ∧ b.size ≤ 200 ∧ cv a b ≤ 20) ∨ (E != 0) = true) := by
  have key : Calls Tryd.prog 4 #[.string a, .string b] w (ToldMake a b w) := by
    by_cases h : ce a b = 0
    · by_cases h20 : cv a b ≤ 20
      · obtain ⟨sa, sb⟩ := ce_zero h
        exact make_ok a b sa sb h20 w
      · exact make_no a b w (fun _ => by omega)
    · exact make_no a b w (fun h' => absurd h' h)
  refine key.mono fun e w' ⟨hb, h⟩ => ⟨hb, ?_⟩
  rcases h with ⟨h1, h2, A, c, rfl, h4⟩ | ⟨_, _, rfl⟩ | ⟨_, rfl⟩
  · obtain ⟨sa, sb⟩ := ce_zero h1
    exact ⟨A, c, _, 0, rfl, h4, .inl ⟨rfl, rfl, sa, sb, h2⟩⟩
  · exact ⟨none, 0, [], 11, rfl, Reads.nil, .inr rfl⟩
  · exact ⟨none, 0, [], 2, rfl, Reads.nil, .inr rfl⟩
/-- Two's answer to two such scripts. -/
theorem two_told (s t u : ByteArray) (a b : List Ed) (n m : Nat) (hn : a.length = n) (hm : b.length = m) (hs : s.size ≤ 200) (hu : u.size ≤ 200) (ha : checkE s.size a = 0) (hat : apT s a = t) (hb : checkE t.size b = 0) (hbu : apT t b = u) (oa : OkL a) (ob : OkL b) (la : a.length ≤ 20) (lb : b.length ≤ 20)
    (A A' : Option Addr) (c c' B : Nat) (w : World) (ra : Reads w B A n 3 (a.flatMap cEdit)) (rb : Reads w B A' m 3 (b.flatMap cEdit)) (hB : B ≤ w.heap.size) :
    Calls Tryd.prog 12 #[.int .i64 (s.size : Int), .slice A n c, .slice A' m c'] w fun e w' => Below w.heap.size w w' ∧ (e = .returned (.tuple #[.slice none 0 0, .int .i64 2]) ∨ ∃ (A : Option Addr) (c k : Nat) (l : List Ed), l.length = k ∧ e = .returned (.tuple #[.slice A k c, .int .i64 0]) ∧ Reads w' w'.heap.size A k 3 (l.flatMap cEdit) ∧ checkE s.size l = 0 ∧ apT s l = u) := by
  subst hn hm
  obtain ⟨h0, hall⟩ := two_law s t u a b hs hu ha hat hb hbu
  refine (two_any s.size (by omega) A A' a.length b.length c c' B a b w ⟨rfl, ra, oa, show a.length ≤ 4398046511104 by omega⟩ ⟨rfl, rb, ob, show b.length ≤ 4398046511104 by omega⟩ hB).mono fun e w' h => ?_
  rcases h0 with h0 | h0
  · obtain ⟨hb1, A5, c5, he, hr⟩ := many_good h0 h
    obtain ⟨t', h1, h2, h3⟩ := same_law s [a, b] h0
    rw [hall] at h1
    injection h1 with h1
    subst h1
    exact ⟨hb1, .inr ⟨A5, c5, _, _, rfl, he, hr, h2, h3⟩⟩
  · obtain ⟨hb1, he⟩ := many_wrong (by rw [h0]; decide) h
    rw [h0] at he
    exact ⟨hb1, .inl he⟩

set_option maxRecDepth 100000 in
set_option maxHeartbeats 4000000 in
theorem topScripts_walk (s t u : ByteArray) (hs : s.size ≤ 140737488351232) (ht : t.size ≤ 140737488351232) (hu : u.size ≤ 140737488351232) {w : World} (htab : Tab w) :
    Calls Tryd.prog 3 #[.string s, .string t, .string u] w fun e w' => e = .returned (.bool true) ∧ Below w.heap.size w w' := by
  have hbd0 := buildEdit
  go_enter Tryd.func3, Tryd.ntmps3
  go_wp2_with fail
  refine (make_told s t _).mono ?_
  rintro e w1 ⟨hb1, A1, c1, l1, E1, rfl, r1, h1⟩
  go_wp2_with fail
  refine (make_told t u _).mono ?_
  rintro e w2 ⟨hb2, A2, c2, l2, E2, rfl, r2, h2⟩
  have b2 := chain hb2 hb1
  have r1 := r1.after hb2
  go_wp2_with fail
  refine (works_any _).mono ?_
  rintro e w3 ⟨rfl, hb3⟩
  have b3 := chain hb3 b2
  have r1 := r1.after hb3
  have r2 := r2.after hb3
  clear hb1 hb2 hb3 b2
  rcases h1 with ⟨rfl, el1, ss, st, cst⟩ | h1
  rotate_left
  · clear h2
    go_wp2_with fail
    refine (works_any _).mono ?_
    rintro e w4 ⟨rfl, hb4⟩
    go_wp2
    go_ret
    exact ⟨rfl, chain hb4 b3⟩
  rcases h2 with ⟨rfl, el2, _, su, ctu⟩ | h2
  rotate_left
  · go_wp2_with fail
    refine (works_any _).mono ?_
    rintro e w4 ⟨rfl, hb4⟩
    go_wp2
    go_ret
    exact ⟨rfl, chain hb4 b3⟩
  obtain ⟨p1, p2, p3, p4, p5, p6, p7, p8⟩ := made_law s t ss st cst
  obtain ⟨q1, q2, q3, q4, q5, q6, q7, q8⟩ := made_law t u st su ctu
  rw [← el1] at p1 p2 p3 p4 p5 p6 p7 p8
  rw [← el2] at q1 q2 q3 q4 q5 q6 q7 q8
  clear el1 el2 cst ctu q4 q6 q7 q8
  have hul : (undoE s.data.toList 0 l1).length = l1.length := undo_length _ _ _
  have hto := fun (A A' : Option Addr) (c c' B : Nat) (w : World) ra rb hB => two_told s t u l1 l2 _ _ rfl rfl ss su p1 p2 q1 q2 p5 q5 p3 q3 A A' c c' B w ra rb hB
  obtain ⟨tx, htx⟩ : ∃ tx : ByteArray, tx.data.toList = writeL l1 := ⟨⟨(writeL l1).toArray⟩, rfl⟩
  have hwl := writes_len (l := l1) ⟨p3, p4⟩
  have hsz : tx.size ≤ 140737488351232 := by
    have : tx.data.toList.length = tx.size := rfl
    rw [htx] at this
    omega
  have hwr : ∀ (A : Option Addr) (c : Nat) (w : World), Tab w → Reads w w.heap.size A l1.length 3 (l1.flatMap cEdit) → Calls Tryd.prog 6 #[.slice A l1.length c] w fun e w' => e = .returned (.tuple #[.string tx, .int .i64 0]) ∧ Below w.heap.size w w' := fun A c w h r =>
    (write_one w h ⟨rfl, by omega, p5, r⟩).mono fun e w' h => by
      obtain ⟨x, E, rfl, hx, hb⟩ := h
      rcases hx with ⟨rfl, _, hx⟩ | ⟨_, hx, _⟩
      · obtain rfl : x = tx := ba_extS (hx.trans htx.symm)
        exact ⟨rfl, hb⟩
      · exact absurd ⟨p3, p4⟩ hx
  have hrd : ∀ (w : World), Calls Tryd.prog 7 #[.string tx] w fun e w' => ∃ A c, e = .returned (.tuple #[.slice A l1.length c, .int .i64 0]) ∧ Reads w' w'.heap.size A l1.length 3 (l1.flatMap cEdit) ∧ Below w.heap.size w w' := fun w =>
    (read_one tx hsz w).mono fun e w' h => by
      obtain ⟨A, c, l, E, rfl, hx, hr, hb⟩ := h
      rcases hx with ⟨rfl, hx⟩ | ⟨_, hx, _⟩
      · obtain rfl := read_uniq hx ⟨htx, p3, p4⟩
        exact ⟨A, c, rfl, hr.at_, hb⟩
      · exact absurd ⟨htx, p3, p4⟩ (hx l1)
  have hap : ∀ (A : Option Addr) (c : Nat) (w : World), Reads w w.heap.size A l1.length 3 (l1.flatMap cEdit) → Calls Tryd.prog 8 #[.string s, .slice A l1.length c] w fun e w' => e = .returned (.tuple #[.string t, .int .i64 0]) ∧ Below w.heap.size w w' := fun A c w r => by
    have := apply_ok s A l1.length c w.heap.size l1 rfl p1 w r (Nat.le_refl _)
    rw [show (⟨(app s.data.toList 0 l1).toArray⟩ : ByteArray) = t from p2] at this
    exact this
  have hun : ∀ (A : Option Addr) (c : Nat) (w : World), Reads w w.heap.size A l1.length 3 (l1.flatMap cEdit) → Calls Tryd.prog 9 #[.string s, .slice A l1.length c] w fun e w' => ∃ A c, e = .returned (.tuple #[.slice A l1.length c, .int .i64 0]) ∧ Reads w' w'.heap.size A l1.length 3 ((undoE s.data.toList 0 l1).flatMap cEdit) ∧ Below w.heap.size w w' := fun A c w r =>
    (undo_ok s A l1.length c w.heap.size l1 rfl p1 w r (Nat.le_refl _)).mono fun e w' ⟨hb, h⟩ => by
      rcases h with ⟨_, A, c, rfl, hr, _⟩ | ⟨h, _⟩
      · exact ⟨A, c, rfl, hr, hb⟩
      · exact absurd p8 h
  have hbk : ∀ (A : Option Addr) (c : Nat) (w : World), Reads w w.heap.size A l1.length 3 ((undoE s.data.toList 0 l1).flatMap cEdit) → Calls Tryd.prog 8 #[.string t, .slice A l1.length c] w fun e w' => e = .returned (.tuple #[.string s, .int .i64 0]) ∧ Below w.heap.size w w' := fun A c w r => by
    have := apply_ok t A l1.length c w.heap.size (undoE s.data.toList 0 l1) hul p6 w r (Nat.le_refl _)
    rw [show (⟨(app t.data.toList 0 (undoE s.data.toList 0 l1)).toArray⟩ : ByteArray) = s from p7] at this
    exact this
  have hco := fun w => cost_any s u w
  rw [ce_ok ⟨ss, su⟩] at hco
  have hap2 : ∀ (l : List Ed) (k : Nat) (A : Option Addr) (c : Nat) (w : World), l.length = k → checkE s.size l = 0 → apT s l = u → Reads w w.heap.size A k 3 (l.flatMap cEdit) → Calls Tryd.prog 8 #[.string s, .slice A k c] w fun e w' => e = .returned (.tuple #[.string u, .int .i64 0]) ∧ Below w.heap.size w w' := fun l k A c w hk h1 h2 r => by
    have := apply_ok s A k c w.heap.size l hk h1 w r (Nat.le_refl _)
    rw [show (⟨(app s.data.toList 0 l).toArray⟩ : ByteArray) = u from h2] at this
    exact this
  have hle : ∀ l : List Ed, checkE s.size l = 0 → apT s l = u → l.length ≤ 20 ∧ cv s u ≤ costE l ∧ ∀ k, 0 ≤ costE (l.take k) ∧ costE (l.take k) ≤ 240 * (l.take k).length := fun l h1 h2 => by
    obtain ⟨g0, g1, g2, g3, g4⟩ := checkE_ok h1
    have := (least_law s l h1).2
    rw [show (⟨(app s.data.toList 0 l).toArray⟩ : ByteArray) = u from h2] at this
    exact ⟨g2, this, costE_bd g1 g3⟩
  obtain ⟨x0, x1⟩ := cv_bd s u
  clear htx hwl hsz hul p1 p2 p3 p4 p5 p6 p7 p8 q1 q2 q3 q5
  generalize undoE s.data.toList 0 l1 = U at *
  generalize cv s u = x at *
  generalize l1.length = n1 at *
  generalize l2.length = n2 at *
  have HW := Lib.hid hwr
  have HR := Lib.hid hrd
  have HA := Lib.hid hap
  have HU := Lib.hid hun
  have HB := Lib.hid hbk
  have HC := Lib.hid hco
  have HT := Lib.hid hto
  have HA2 := Lib.hid hap2
  have HL := Lib.hid hle
  have qt : (t.toList != t.toList) = false := by simp
  have qs : (s.toList != s.toList) = false := by simp
  have qu : (u.toList == u.toList) = true := by simp
  clear hwr hrd hap hun hbk hco hto hap2 hle
  go_wp2_with fail
  refine (HW.out A1 c1 w3 (htab.after b3) r1).mono ?_
  rintro e w4 ⟨rfl, hb4⟩
  have b4 := chain hb4 b3
  have r1 := r1.after hb4
  have r2 := r2.after hb4
  go_wp2_with fail
  refine (HR.out w4).mono ?_
  rintro e w5 ⟨A5, c5, rfl, r5, hb5⟩
  have b5 := chain hb5 b4
  have r1 := r1.after hb5
  have r2 := r2.after hb5
  go_wp2_with fail
  refine (HA.out A5 c5 w5 r5).mono ?_
  rintro e w6 ⟨rfl, hb6⟩
  have b6 := chain hb6 b5
  have r1 := r1.after hb6
  have r2 := r2.after hb6
  have r5 := r5.after hb6
  go_wp2_with fail
  refine (HU.out A5 c5 w6 r5).mono ?_
  rintro e w7 ⟨A7, c7, rfl, r7, hb7⟩
  have b7 := chain hb7 b6
  have r1 := r1.after hb7
  have r2 := r2.after hb7
  go_wp2_with fail
  refine (HB.out A7 c7 w7 r7).mono ?_
  rintro e w8 ⟨rfl, hb8⟩
  have b8 := chain hb8 b7
  have r1 := r1.after hb8
  have r2 := r2.after hb8
  go_wp2_with fail
  refine (HC.out w8).mono ?_
  rintro e w9 ⟨rfl, hb9⟩
  have b9 := chain hb9 b8
  have r1 := r1.after hb9
  have r2 := r2.after hb9
  clear hb4 hb5 hb6 hb7 hb8 hb9 b3 b4 b5 b6 b7 b8 r5 r7 HW HR HA HU HB HC
  go_wp2_with fail
  refine (goodT_fresh [0, 0, 0, 0, 0, 0] 6 6 rfl (by decide) _ _).mono ?_
  rintro e w10 ⟨rfl, hb10⟩
  have q0 : ([0, 0, 0, 0, 0, 0] : List Int).all (· == 0) = true := by decide
  have b10 := chain hb10 b9
  have r1 := r1.after hb10
  have r2 := r2.after hb10
  clear hb10 b9
  go_wp2_with fail
  refine (HT.out A1 A2 c1 c2 _ w10 r1 r2 (Nat.le_refl _)).mono ?_
  rintro e w11 ⟨hb11, he | ⟨A, c, n, l, hn, he, hrd, hck, happ⟩⟩
  · subst he
    go_wp2
    go_ret
    exact ⟨rfl, chain hb11 b10⟩
  subst he
  have b11 := chain hb11 b10
  have hA2 := HA2.out l n A c w11 hn hck happ hrd
  obtain ⟨hln, hcl, hbd⟩ := HL.out l hck happ
  have HA2' := Lib.hid hA2
  have Hbd := Lib.hid hbd
  have Hcl := Lib.hid hcl
  have Hn := Lib.hid hn
  rw [hn] at hln
  clear hA2 hbd hcl hn hck happ HA2 HL HT hb11 b10 r1 r2
  go_wp2_with fail
  refine HA2'.out.mono ?_
  rintro e w12 ⟨rfl, hb12⟩
  have hbw := chain hb12 b11
  have hrd := hrd.after hb12
  obtain ⟨B, hB⟩ : ∃ B, B = w12.heap.size := ⟨_, rfl⟩
  rw [← hB] at hrd
  have hBw : B ≤ w12.heap.size := by omega
  have hwB : w.heap.size ≤ B := by rw [hB]; exact hbw.size
  clear hb12 b11 HA2' hB
  go_wp2
  go_loopw [21, 28, 125] (fun av _ iv wr => ∃ k : Nat, k ≤ n ∧ iv = .int .i64 (k : Int) ∧ av = .int .i64 (x - costE (l.take k)) ∧ Below B w12 wr) (fun _ _ iv _ => n - (intOf iv).toNat)
  case atStart => exact ⟨0, Nat.zero_le _, rfl, by simp [costE], Below.refl _ _⟩
  case round =>
    obtain ⟨k, hk, rfl, rfl, hbr⟩ := hrel
    have hBr : B ≤ wr.heap.size := Nat.le_trans hBw hbr.size
    obtain ⟨b1, b2⟩ := Hbd.out k
    rw [List.length_take, Hn.out] at b2
    by_cases hlt : k < n
    · have h := hrd.below hbr
      obtain ⟨b, o, rfl, hbB, hc⟩ := h.2 (by omega)
      have c0 := hc (k * 3 + 0) (by rw [flat_length cEdit 3 cEdit_len, Hn.out]; omega)
      have c1 := hc (k * 3 + 1) (by rw [flat_length cEdit 3 cEdit_len, Hn.out]; omega)
      have c2 := hc (k * 3 + 2) (by rw [flat_length cEdit 3 cEdit_len, Hn.out]; omega)
      have dE : Ed := (0, 0, ByteArray.empty)
      rw [flat_getD cEdit 3 cEdit_len dE l k _ (by rw [Hn.out]; omega) (by omega)] at c0 c1 c2
      simp only [cEdit, List.getD_cons_zero, List.getD_cons_succ, Nat.add_zero, ← Nat.add_assoc] at c0 c1 c2
      have hct := costE_take l k (by rw [Hn.out]; omega) dE
      obtain ⟨b3, b4⟩ := Hbd.out (k + 1)
      rw [List.length_take, Hn.out] at b4
      generalize l.getD k dE = y at *
      obtain ⟨at_, del, ins⟩ := y
      simp only at c0 c1 c2 hct
      rw [hct] at b3 b4
      have Hct := Lib.hid hct
      generalize costE (l.take k) = C at *
      have hb' : b < wr.heap.size := by omega
      clear hct hc
      rcases Nat.eq_zero_or_pos k with k0 | k0
      · subst k0
        simp only [Nat.zero_mul, Nat.add_zero] at c0 c1 c2
        go_wp2
        go_roundw
        case rel => exact ⟨0 + 1, by omega, by go_num, by rw [Hct.out]; congr 1; omega, hbr.alloc hBr _⟩
        case measure => simp only [intOf]; omega
      · go_wp2
        go_roundw
        case rel => exact ⟨k + 1, by omega, by go_num, by rw [Hct.out]; congr 1; omega, hbr.alloc hBr _⟩
        case measure => simp only [intOf]; omega
    · obtain rfl : k = n := by omega
      have e : l.take k = l := List.take_of_length_le (by rw [Hn.out]; exact Nat.le_refl _)
      rw [e] at *
      have qc : decide (x - costE l ≤ 0) = true := decide_eq_true (by have := Hcl.out; omega)
      go_wp2
      go_ret
      exact ⟨by simp, hbw.trans (hbr.mono hwB)⟩
end Go.Proofs.YtmephgemokngnaaDoor

/- TopScripts: for every input the law returns true, and each argument reads afterwards as it read before. -/
namespace Go.Proofs.YtmephgemokngnaaDoor.topScripts
open Go.ChangeShapes Go.WideShapes Go.ChangeAt Go.RowKit
open Go.ChangeMaps (open_string shut_string)
set_option linter.unusedVariables false

theorem own : ownKnob Tryd.prog.godebug = none := by kernel_rfl
theorem laidOut : laidOutB Tryd.prog = true := by kernel_rfl

set_option maxRecDepth 100000 in
theorem lifted (os : Os) (started : os.Started) (H : Type) (enc : TypeId × Value → H) :
    ReturnsInHanded {} Tryd.checked os 3 .any (fun w args => (Rows.topScriptsSpec.pre enc Tryd.prog Tryd.f3 Rows.topScriptsRow.domain false w args ∧ laidMetH Tryd.prog Rows.topScriptsRow.laid w) ∧ sizedMet enc Tryd.prog Tryd.f3 (OpenSpec.ofChange Rows.topScriptsSpec) false w args)
      (Rows.topScriptsSpec.post enc Tryd.prog Tryd.f3 false true false false) := by
  refine returnsInHanded_of_change_and (C := Tryd.checked) (X := fun w _ => laidMetH Tryd.prog Rows.topScriptsRow.laid w) (fun _ _ _ hh h => h.of_heap hh) own started (by kernel_rfl) Tryd.func3
    (ChangeSpec.witness_shaped (enc := enc) (C := Tryd.checked) (os := os) (X := fun w _ => laidMetH Tryd.prog Rows.topScriptsRow.laid w) false (World.laidAll Tryd.prog os Rows.topScriptsRow.laid) #[.string ByteArray.empty, .string ByteArray.empty, .string ByteArray.empty] 8 (World.laidAll_os _ _ _)
      (World.shaped_of_ZipB (by kernel_rfl) (by kernel_rfl)) (by kernel_rfl) (by kernel_rfl) (by kernel_rfl)
      (by rw [MakeChecks.laidMetH_plain _ _ _ (by kernel_rfl)]; exact laidMet_laidAll _ (by kernel_rfl) (by kernel_rfl))) ?_
  intro W base args ds gs before hval0 hW hcnd hsz0 hL _
  have hval : ∀ (j : Nat) t v, Tryd.f3.params[j]? = some t → args[j]? = some v → Value.okWide Tryd.prog W .any base t v := hval0
  have hsz : (DataW.weightsEach Tryd.prog (Tryd.f3.params.toList ++ Rows.topScriptsSpec.plain.varTypes Tryd.prog) (ds ++ gs)).all (· ≤ reachBytes) = true := hsz0
  have hW' := hW
  obtain ⟨p, q, hA0, hV, rfl, hfz, hnd⟩ := hW
  have hA : DataW.TrodAll enc Tryd.prog W 0 (fun _ => true) true Tryd.f3.params.toList args.toList ds p := hA0
  rw [Tryd.params3] at hA hval hsz
  obtain ⟨v0, vs0, d0, ds0, p0, q0, hargs, rfl, rfl, h0, r0⟩ := trodAll_cons hA
  obtain ⟨v1, vs1, d1, ds1, p1, q1, rfl, rfl, rfl, h1, r1⟩ := trodAll_cons r0
  obtain ⟨v2, vs2, d2, ds2, p2, q2, rfl, rfl, rfl, h2, r2⟩ := trodAll_cons r1
  obtain ⟨rfl, rfl, rfl⟩ := trodAll_nil r2
  obtain rfl : args = #[v0, v1, v2] := by cases args; simp_all
  obtain ⟨rfl, rfl⟩ := trodVars_none hV
  obtain ⟨a0, rfl, rfl, rfl, w0⟩ := open_string Tryd.underlying9 (hval 0 9 v0 rfl rfl) h0
  obtain ⟨a1, rfl, rfl, rfl, w1⟩ := open_string Tryd.underlying9 (hval 1 9 v1 rfl rfl) h1
  obtain ⟨a2, rfl, rfl, rfl, w2⟩ := open_string Tryd.underlying9 (hval 2 9 v2 rfl rfl) h2
  clear hA0 hval0
  have b0 : a0.size ≤ 140737488351232 := sized_string hsz (j := 0) rfl rfl
  have b1 : a1.size ≤ 140737488351232 := sized_string hsz (j := 1) rfl rfl
  have b2 : a2.size ≤ 140737488351232 := sized_string hsz (j := 2) rfl rfl
  have htab : Tab W := tab_of_laid hL (by kernel_rfl) (by kernel_rfl)
  refine (topScripts_walk a0 a1 a2 b0 b1 b2 (w := W) htab).mono fun e W' ⟨he, bel⟩ => ?_
  subst he
  exact ⟨_, rfl, _, _, _, [], _, [], hW', trodAll_mk1 (shut_bool Tryd.underlying4 _), (trodAll_cons_mk (shut_string Tryd.underlying9 w0) (trodAll_cons_mk (shut_string Tryd.underlying9 w1) (trodAll_cons_mk (shut_string Tryd.underlying9 w2) trodAll_mk0))), rfl, bel.frame _, fun h => by cases h⟩

theorem holds : Rows.TopScriptsSaid :=
  OpenClaim.holds_of_wide 3 Tryd.f3 rfl rfl rfl rfl rfl rfl rfl ⟨rfl, rfl, rfl, rfl, rfl⟩ rfl rfl rfl rfl rfl (by kernel_rfl) Tryd.func3 (by kernel_rfl)
    (of_decide_eq_true (by kernel_rfl)) (by unfold Func.isWrapper; first | (rw [if_pos (by decide +kernel)]; kernel_rfl) | (rw [if_neg (by decide +kernel)]; exact ⟨rfl, rfl⟩))
    (fun os started H enc _ => lifted os started H enc)
set_option maxRecDepth 100000 in
theorem card_holds : Rows.TopScriptsCardSaid :=
  Claim7.holds_tied_plain_at .later [] Rows.topScriptsCard.laidKinds true Rows.topScriptsCard.stood.harness false
    holds (fun _ h => by cases h) (by kernel_rfl) (fun _ h => by cases h) topScripts_row_tie rfl ⟨rfl, rfl⟩ (by kernel_rfl) rfl
    (fun f fn hf hfn => by
      obtain rfl : f = 3 := Option.some.inj ((show Tryd.prog.funcNamed "quillward/quilltop.TopScripts" = some 3 by kernel_rfl).symm.trans hf) |>.symm
      obtain rfl : fn = Tryd.f3 := (Option.some.inj (Tryd.func3.symm.trans hfn)).symm
      exact ⟨by kernel_rfl, fun j t ht => by
        have hall : (Tryd.f3.params.toList.all fun u => !Tryd.prog.wantsStandIn u) = true := by kernel_rfl
        exact (show Tryd.prog.wantsStandIn t = false by simpa using List.all_eq_true.1 hall t (by simpa using Array.mem_of_getElem? ht))⟩)
    (by kernel_rfl)
#print axioms card_holds
end Go.Proofs.YtmephgemokngnaaDoor.topScripts

