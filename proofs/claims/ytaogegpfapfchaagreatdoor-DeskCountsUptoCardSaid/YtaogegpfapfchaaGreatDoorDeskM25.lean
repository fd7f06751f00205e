import Derived.Test.YtaogegpfapfchaaGreatDoorDeskM24
import Derived.Test.YtaogegpfapfchaaGreatDoorDeskM06
import Derived.Test.YtaogegpfapfchaaGreatDoorDeskM11
import Derived.Test.YtaogegpfapfchaaGreatDoorDeskM14
import Derived.Test.YtaogegpfapfchaaGreatDoorDeskM19
import Derived.Sort.OwnSorted
import Derived.Shelf.SlSortCmp.InsertionK
import Derived.Shelf.SlSortCmp.Whole1
import Derived.Test.YtaogegpfapfchaaGreatDoorProg
import Derived.Shelf.Small.Strs
import Derived.Lib.Bytealg
/- Several texts in one: XLyndonLaws XSortK XLaidIntSort XLaidCompare XTurnP XIntSort. -/
/- lyndon.Split at long texts, lyndon.Is, and the laws' helper lyndons. -/
namespace Go.Proofs.YtaogegpfapfchaaGreatDoor
open Go.RowKit
set_option linter.unusedVariables false

theorem bless_eq : ∀ a b : List UInt8, Op.bytesLess a b = llt a b
  | _, [] => by unfold Op.bytesLess llt; cases ‹List UInt8› <;> rfl
  | [], _ :: _ => rfl
  | x :: a, y :: b => by rw [Op.bytesLess, llt, bless_eq a b]
/-- '<', as the model asks it. -/
theorem less_is {x y : ByteArray} {b : Bool} (h : llt x.data.toList y.data.toList = b) : Op.bytesLess x.toList y.toList = b := by
  rw [bless_eq, ByteArray.toList_eq, ByteArray.toList_eq]; exact h
theorem leq_is {x y : ByteArray} (h : lle x.data.toList y.data.toList) : (Op.bytesLess x.toList y.toList || x.toList == y.toList) = true := by
  rw [Bool.or_eq_true]
  rcases lle_iff.1 h with h | h
  · exact .inl (less_is h)
  · exact .inr (by rw [ByteArray.toList_eq, ByteArray.toList_eq, h]; simp)
theorem leq_not {x y : ByteArray} (h : llt y.data.toList x.data.toList = true) : (Op.bytesLess x.toList y.toList || x.toList == y.toList) = false := by
  rw [Bool.or_eq_false_iff]
  constructor
  · refine less_is ?_
    exact lle_of_lt h
  · rw [beq_eq_false_iff_ne]
    intro e
    rw [ByteArray.toList_eq, ByteArray.toList_eq] at e
    rw [e, llt_irrefl] at h; cases h

set_option maxHeartbeats 400000 in
theorem split_no (s : ByteArray) (hs : 200 < s.size) (w : World) :
    Calls Tryz.prog 36 #[.string s] w fun e w' => e = .returned (.tuple #[.slice none 0 0, .int .i64 2]) ∧ w = w' := by
  go_enter Tryz.func36, Tryz.ntmps36
  go_wp2_with fail
  refine (wordCheck_no s hs _).mono ?_
  rintro e w1 ⟨rfl, rfl⟩
  go_wp2
  go_ret2
  exact ⟨rfl, rfl⟩

/-- It is told whether the text is one Lyndon word. -/
def ToldIs (t : List UInt8) (w : World) (e : Ending) (w' : World) : Prop := ∃ b : Bool, (b = true ↔ Lyn t) ∧ e = .returned (.tuple #[.bool b, .int .i64 0]) ∧ Below w.heap.size w w'

theorem lyndon_known : Cfl [97, 98, 97, 97, 98] [[97, 98], [97, 97, 98]] := by
  have h1 : Lyn [97, 98] := lyn_join (lyn_one 97) (lyn_one 98) (by decide)
  refine ⟨rfl, ?_, ?_⟩
  · intro f hf
    rw [List.mem_cons, List.mem_singleton] at hf
    rcases hf with rfl | rfl
    · exact h1
    · exact lyn_join (lyn_one 97) h1 (by decide)
  · rw [List.pairwise_cons]
    refine ⟨fun f hf => ?_, by simp⟩
    rw [List.mem_singleton] at hf
    subst hf
    show llt [97, 98] [97, 97, 98] = false
    decide


end Go.Proofs.YtaogegpfapfchaaGreatDoor

/- A row of one's own that the library sorts. -/
namespace Go.Proofs.YtaogegpfapfchaaGreatDoor
open Go.RowKit Go.Sort
set_option linter.unusedVariables false

theorem flatK_list {α : Type} [Inhabited α] (enc : α → List Value) (k : Nat) (hk : ∀ x, (enc x).length = k) (d : Array α) : (flatK enc k d).toList = d.toList.flatMap enc := by
  have h0 := flat_length enc k hk d.toList
  refine List.ext_getElem? fun t => ?_
  by_cases ht : t < d.size * k
  · have kp : 0 < k := by rcases Nat.eq_zero_or_pos k with h | h; · subst h; simp at ht
                          · exact h
    have hq : t / k < d.size := Nat.div_lt_of_lt_mul (by rw [Nat.mul_comm]; exact ht)
    have hm : t % k < k := Nat.mod_lt _ kp
    have e1 : (flatK enc k d).toList[t]? = some ((enc d[t / k]!)[t % k]!) := by
      rw [Array.getElem?_toList, Array.getElem?_eq_getElem (by simpa using ht)]
      have := get_flatK enc k d t ht
      rw [getElem!_pos _ t (by simpa using ht)] at this
      rw [this]
    rw [e1]
    have e2 : (d.toList.flatMap enc).getD t undef = (enc d[t / k]!)[t % k]! := by
      have h3 := flat_getD enc k hk (default : α) d.toList (t / k) (t % k) (by simpa using hq) hm
      have e : t / k * k + t % k = t := by rw [Nat.mul_comm]; exact Nat.div_add_mod t k
      rw [e] at h3
      rw [h3]
      have e4 : d.toList.getD (t / k) default = d[t / k]! := by
        rw [List.getD_eq_getElem?_getD, List.getElem?_eq_getElem (by simpa using hq), getElem!_pos d (t / k) hq]
        rfl
      rw [e4, List.getD_eq_getElem?_getD, List.getElem?_eq_getElem (by rw [hk]; exact hm), getElem!_pos (enc _) (t % k) (by rw [hk]; exact hm)]
      rfl
    have hl : t < (d.toList.flatMap enc).length := by rw [h0]; simpa using ht
    rw [List.getElem?_eq_getElem hl]
    rw [List.getD_eq_getElem?_getD, List.getElem?_eq_getElem hl] at e2
    rw [← e2]; rfl
  · rw [List.getElem?_eq_none (by simp; omega), List.getElem?_eq_none (by rw [h0]; simp; omega)]

section
variable {T : TypeId} {s : Nat} {w w' : World} {K : Nat → Prop} {A : Option Addr} {n c g o : Nat} {xs : List Value}
theorem OwnK.holds (h : OwnK T s w K (some ⟨g, o, none⟩) n c xs) : Holds id w g o xs.toArray := fun j hj => by
  have hj' : j < n * s := by rw [← h.1]; simpa using hj
  obtain ⟨h1, h2⟩ := h.cell j hj'
  refine ⟨?_, h2⟩
  rw [h1, getElem!_pos _ j hj]
  simp at hj ⊢
/-- A row of one's own, laid anew. -/
theorem OwnK.sorted {F : Array Value} (h : OwnK T s w K (some ⟨g, o, none⟩) n c xs) (hF : F.size = n * s) (m : Nat) (os : Array Obj) : OwnK T s (grow (putRow id (Sort.ahead w m) g o F) os) K (some ⟨g, o, none⟩) n c F.toList := by
  refine ⟨by simpa using hF, ?_⟩
  rcases h.2 with ⟨h0, _⟩ | ⟨g', o', cur, hv, hb, hg, h1, h2, h3, h4⟩
  · cases h0
  · injection hv with hv
    injection hv with hv hv2
    subst hv hv2
    have hle : n * s ≤ c * s := Nat.mul_le_mul_right _ h1
    refine .inr ⟨g, o, putCells id o F cur, rfl, hb, ?_, h1, h2, by simpa [putCells] using h3, ?_⟩
    · unfold Blk at hg ⊢
      have hg' : g < w.heap.size := (Array.getElem?_eq_some_iff.1 hg).1
      rw [heap_grow_old _ _ (by simpa using hg')]
      simp [putRow, mapBlock, Sort.ahead, Array.getElem?_modify, hg, onCells]
    · refine List.ext_getElem? fun j => ?_
      by_cases hj : j < n * s
      · rw [List.getElem?_take_of_lt hj, List.getElem?_drop, Array.getElem?_toList, Array.getElem?_toList, Array.getElem?_eq_getElem (by simp [putCells]; omega), Array.getElem?_eq_getElem (by omega)]
        simp only [putCells, Array.getElem_mapIdx, id]
        rw [if_pos (by omega), Nat.add_sub_cancel_left, getElem!_pos _ _ (by omega)]
      · rw [List.getElem?_eq_none (by rw [List.length_take]; omega), List.getElem?_eq_none (by simp; omega)]
end
theorem grownBy_put {w : World} {g o n : Nat} {os : Array Obj} (F : Array Value) : w.grownBy (grow (putRow id (Sort.ahead w n) g o F) os) (some g) := by
  refine ⟨rfl, rfl, rfl, by simp, fun k hk hne => ?_⟩
  rw [heap_grow_old _ _ (by simpa using hk)]
  have : g ≠ k := fun e => hne (by rw [e])
  simp [putRow, mapBlock, Sort.ahead, Array.getElem?_modify, this]
end Go.Proofs.YtaogegpfapfchaaGreatDoor

/- IntSort: contracts of the library laid at this program: the tables of numbers and the facts that they ask. -/
namespace Go.Proofs.YtaogegpfapfchaaGreatDoor
open Go.RowKit
set_option linter.unusedVariables false

def layIntSort_ren : Go.Shelf.Ren := ⟨fun | 6 => 68 | 15 => 50 | 14 => 104 | 28 => 90 | 29 => 91 | 20 => 125 | 21 => 126 | 22 => 127 | 23 => 128 | 24 => 129 | 25 => 130 | 26 => 131 | 27 => 132 | 46 => 142 | 47 => 111 | 48 => 112 | 49 => 143 | 50 => 144 | 57 => 147 | n => n, fun | 22 => 76 | 24 => 3 | 25 => 109 | 3 => 3 | 39 => 89 | 0 => 0 | 53 => 110 | 55 => 114 | 4 => 4 | 46 => 124 | 45 => 123 | 50 => 128 | 5 => 5 | 9 => 9 | 66 => 150 | 70 => 154 | 76 => 171 | 77 => 172 | n => n, fun | n => n⟩
theorem layIntSort : Go.Proofs.SlLaysF.n6 Tryz.prog layIntSort_ren := {
  mixed := by kernel_rfl,
  f6 := ⟨Tryz.f68.name, by decide, Tryz.func68.trans (congrArg some (by kernel_rfl))⟩,
  f14 := ⟨Tryz.f104.name, by decide, Tryz.func104.trans (congrArg some (by kernel_rfl))⟩,
  f15 := Tryz.func50.trans (congrArg some (by kernel_rfl)),
  f20 := ⟨Tryz.f125.name, by decide, Tryz.func125.trans (congrArg some (by kernel_rfl))⟩,
  f21 := ⟨Tryz.f126.name, by decide, Tryz.func126.trans (congrArg some (by kernel_rfl))⟩,
  f22 := ⟨Tryz.f127.name, by decide, Tryz.func127.trans (congrArg some (by kernel_rfl))⟩,
  f23 := ⟨Tryz.f128.name, by decide, Tryz.func128.trans (congrArg some (by kernel_rfl))⟩,
  f24 := ⟨Tryz.f129.name, by decide, Tryz.func129.trans (congrArg some (by kernel_rfl))⟩,
  f25 := ⟨Tryz.f130.name, by decide, Tryz.func130.trans (congrArg some (by kernel_rfl))⟩,
  f26 := ⟨Tryz.f131.name, by decide, Tryz.func131.trans (congrArg some (by kernel_rfl))⟩,
  f27 := ⟨Tryz.f132.name, by decide, Tryz.func132.trans (congrArg some (by kernel_rfl))⟩,
  f28 := Tryz.func90.trans (congrArg some (by kernel_rfl)),
  f29 := Tryz.func91.trans (congrArg some (by kernel_rfl)),
  f46 := ⟨Tryz.f142.name, by decide, Tryz.func142.trans (congrArg some (by kernel_rfl))⟩,
  f47 := Tryz.func111.trans (congrArg some (by kernel_rfl)),
  f48 := Tryz.func112.trans (congrArg some (by kernel_rfl)),
  f49 := ⟨Tryz.f143.name, by decide, Tryz.func143.trans (congrArg some (by kernel_rfl))⟩,
  f50 := ⟨Tryz.f144.name, by decide, Tryz.func144.trans (congrArg some (by kernel_rfl))⟩,
  f57 := ⟨Tryz.f147.name, by decide, Tryz.func147.trans (congrArg some (by kernel_rfl))⟩,
  t0 := Tryz.underlying0,
  a0 := Tryz.isAgg0,
  z0 := Tryz.sizeOf0,
  v0 := Tryz.zeroValue0,
  t3 := Tryz.underlying3,
  a3 := Tryz.isAgg3,
  z3 := Tryz.sizeOf3,
  v3 := Tryz.zeroValue3,
  t4 := Tryz.underlying4,
  a4 := Tryz.isAgg4,
  z4 := Tryz.sizeOf4,
  v4 := Tryz.zeroValue4,
  t5 := Tryz.underlying5,
  a5 := Tryz.isAgg5,
  z5 := Tryz.sizeOf5,
  v5 := Tryz.zeroValue5,
  t9 := Tryz.underlying9,
  a9 := Tryz.isAgg9,
  z9 := Tryz.sizeOf9,
  v9 := Tryz.zeroValue9,
  t22 := Tryz.underlying76,
  a22 := Tryz.isAgg76,
  z22 := Tryz.sizeOf76,
  v22 := Tryz.zeroValue76,
  a24 := Tryz.isAgg3,
  z24 := Tryz.sizeOf3,
  t25 := Tryz.underlying109,
  a25 := Tryz.isAgg109,
  z25 := Tryz.sizeOf109,
  v25 := Tryz.zeroValue109,
  t39 := Tryz.underlying89,
  a39 := Tryz.isAgg89,
  z39 := Tryz.sizeOf89,
  v39 := Tryz.zeroValue89,
  t45 := Tryz.underlying123,
  a45 := Tryz.isAgg123,
  z45 := Tryz.sizeOf123,
  v45 := Tryz.zeroValue123,
  t46 := Tryz.underlying124,
  a46 := Tryz.isAgg124,
  z46 := Tryz.sizeOf124,
  v46 := Tryz.zeroValue124,
  t50 := Tryz.underlying128,
  a50 := Tryz.isAgg128,
  z50 := Tryz.sizeOf128,
  v50 := Tryz.zeroValue128,
  t53 := Tryz.underlying110,
  a53 := Tryz.isAgg110,
  z53 := Tryz.sizeOf110,
  v53 := Tryz.zeroValue110,
  t55 := Tryz.underlying114,
  a55 := Tryz.isAgg114,
  z55 := Tryz.sizeOf114,
  v55 := Tryz.zeroValue114,
  t66 := Tryz.underlying150,
  a66 := Tryz.isAgg150,
  z66 := Tryz.sizeOf150,
  v66 := Tryz.zeroValue150,
  t70 := Tryz.underlying154,
  a70 := Tryz.isAgg154,
  z70 := Tryz.sizeOf154,
  v70 := Tryz.zeroValue154,
  t76 := Tryz.underlying171,
  a76 := Tryz.isAgg171,
  z76 := Tryz.sizeOf171,
  v76 := Tryz.zeroValue171,
  t77 := Tryz.underlying172,
  a77 := Tryz.isAgg172,
  z77 := Tryz.sizeOf172,
  v77 := Tryz.zeroValue172 }

end Go.Proofs.YtaogegpfapfchaaGreatDoor

/- Compare: contracts of the library laid at this program: the tables of numbers and the facts that they ask. -/
namespace Go.Proofs.YtaogegpfapfchaaGreatDoor
open Go.RowKit
set_option linter.unusedVariables false

def layCompare_ren : Go.Shelf.Ren := ⟨fun | 106 => 70 | 213 => 105 | 265 => 133 | n => n, fun | 9 => 9 | 3 => 3 | n => n, fun | n => n⟩
theorem layCompare : Go.Proofs.Lays.n106 Tryz.prog layCompare_ren := {
  mixed := by kernel_rfl,
  f106 := Tryz.func70.trans (congrArg some (by kernel_rfl)),
  f213 := Tryz.func105.trans (congrArg some (by kernel_rfl)),
  f265 := Tryz.func133.trans (congrArg some (by kernel_rfl)),
  t3 := Tryz.underlying3,
  a3 := Tryz.isAgg3,
  z3 := Tryz.sizeOf3,
  v3 := Tryz.zeroValue3,
  t9 := Tryz.underlying9,
  a9 := Tryz.isAgg9,
  z9 := Tryz.sizeOf9,
  v9 := Tryz.zeroValue9 }

end Go.Proofs.YtaogegpfapfchaaGreatDoor

/- Plain: the turns of a word in order, and their last bytes (Burrows, Wheeler). -/
namespace Go.Proofs.YtaogegpfapfchaaGreatDoor
set_option linter.unusedVariables false

theorem compare_llt : ∀ a b : List UInt8, Lib.compareBytes a b = if llt a b = true then -1 else if a = b then 0 else 1
  | [], [] => by simp [Lib.compareBytes, llt]
  | [], _ :: _ => by simp [Lib.compareBytes, llt]
  | _ :: _, [] => by simp [Lib.compareBytes, llt]
  | x :: a, y :: b => by
    rw [Lib.compareBytes, compare_llt a b]
    by_cases h1 : x < y
    · rw [if_pos h1, if_pos ((llt_cons x y a b).2 (.inl h1))]
    · rw [if_neg h1]
      by_cases h2 : y < x
      · have hne : x ≠ y := fun e => by subst e; exact u8_irrefl x h2
        rw [if_pos h2, if_neg, if_neg]
        · intro e; injection e with e _; exact hne e
        · rw [llt_cons]
          rintro (h | ⟨h, _⟩)
          · exact h1 h
          · exact hne h
      · have e : x = y := by
          rcases u8_tri x y with h | h | h
          · exact absurd h h1
          · exact h
          · exact absurd h h2
        subst e
        rw [if_neg h2]
        have : llt (x :: a) (x :: b) = llt a b := by
          rw [Bool.eq_iff_iff, llt_cons]
          exact ⟨fun h => h.elim (fun h => absurd h h1) (·.2), fun h => .inr ⟨rfl, h⟩⟩
        rw [this]
        by_cases h3 : a = b
        · subst h3; simp
        · rw [if_neg h3, if_neg (c := x :: a = x :: b) (by simpa using h3)]

/-- Two rows of one order, of the same elements, are one. -/
theorem sorted_eq {α : Type} {R : α → α → Prop} (hR : ∀ a b, R a b → R b a → a = b) : ∀ {l m : List α}, l.Perm m → l.Pairwise R → m.Pairwise R → l = m
  | [], m, h, _, _ => h.nil_eq
  | a :: l, [], h, _, _ => absurd h.length_eq (by simp)
  | a :: l, b :: m, h, h1, h2 => by
    obtain ⟨a1, l1⟩ := List.pairwise_cons.1 h1
    obtain ⟨b1, m1⟩ := List.pairwise_cons.1 h2
    have e : a = b := by
      rcases List.mem_cons.1 (h.mem_iff.1 (show a ∈ a :: l by simp)) with e | ha
      · exact e
      · rcases List.mem_cons.1 (h.mem_iff.2 (show b ∈ b :: m by simp)) with e | hb
        · exact e.symm
        · exact hR a b (a1 b hb) (b1 a ha)
    subst e
    rw [sorted_eq hR (List.perm_cons a |>.1 h) l1 m1]

def rotL (s : List UInt8) (i : Nat) : List UInt8 := s.drop i ++ s.take i
theorem rotL_len (s : List UInt8) (i : Nat) : (rotL s i).length = s.length := by
  unfold rotL
  rw [List.length_append, List.length_drop, List.length_take]; omega
/-- How turns i and k stand to each other. -/
def ltR (s : List UInt8) (i k : Nat) : Prop := llt (rotL s i) (rotL s k) = true ∨ rotL s i = rotL s k ∧ i < k
def cmpR (s : List UInt8) (i k : Nat) : Int := if Lib.compareBytes (rotL s i) (rotL s k) ≠ 0 then Lib.compareBytes (rotL s i) (rotL s k) else (i : Int) - (k : Int)
theorem cmpR_lt (s : List UInt8) (i k : Nat) : cmpR s i k < 0 ↔ ltR s i k := by
  unfold cmpR ltR
  rw [compare_llt]
  by_cases h1 : llt (rotL s i) (rotL s k) = true
  · simp [h1]
  · by_cases h2 : rotL s i = rotL s k
    · rw [if_neg h1, if_pos h2]
      simp only [ne_eq, not_true_eq_false, if_false]
      constructor
      · intro h; exact .inr ⟨h2, by omega⟩
      · rintro (h | ⟨_, h⟩)
        · exact absurd h h1
        · omega
    · rw [if_neg h1, if_neg h2]
      simp [h1, h2]
theorem ltR_irrefl (s : List UInt8) (i : Nat) : ¬ ltR s i i := by
  rintro (h | ⟨_, h⟩)
  · rw [llt_irrefl] at h; cases h
  · omega
theorem ltR_trans {s : List UInt8} {i j k : Nat} (h1 : ltR s i j) (h2 : ltR s j k) : ltR s i k := by
  rcases h1 with h1 | ⟨h1, h1'⟩ <;> rcases h2 with h2 | ⟨h2, h2'⟩
  · exact .inl (llt_trans h1 h2)
  · exact .inl (h2 ▸ h1)
  · exact .inl (h1 ▸ h2)
  · exact .inr ⟨h1.trans h2, by omega⟩
theorem ltR_tri (s : List UInt8) (i k : Nat) : ltR s i k ∨ i = k ∨ ltR s k i := by
  rcases llt_tri (rotL s i) (rotL s k) with h | h | h
  · exact .inl (.inl h)
  · rcases Nat.lt_trichotomy i k with h' | h' | h'
    · exact .inl (.inr ⟨h, h'⟩)
    · exact .inr (.inl h')
    · exact .inr (.inr (.inr ⟨h.symm, h'⟩))
  · exact .inr (.inr (.inl h))
/-- The places of a word in the order of its turns. -/
structure IsOrd (s : List UInt8) (o : List Nat) : Prop where
  perm : o.Perm (List.range s.length)
  sorted : o.Pairwise (ltR s)
theorem IsOrd.unique {s : List UInt8} {o o' : List Nat} (h : IsOrd s o) (h' : IsOrd s o') : o = o' :=
  sorted_eq (R := ltR s) (fun a b h1 h2 => absurd (ltR_trans h1 h2) (ltR_irrefl s a)) (h.perm.trans h'.perm.symm) h.sorted h'.sorted
theorem IsOrd.len {s : List UInt8} {o : List Nat} (h : IsOrd s o) : o.length = s.length := by rw [h.perm.length_eq, List.length_range]
theorem IsOrd.lt {s : List UInt8} {o : List Nat} (h : IsOrd s o) {i : Nat} (hi : i ∈ o) : i < s.length := List.mem_range.1 (h.perm.mem_iff.1 hi)
/-- The byte ahead of a place, in the ring. -/
def prevB (s : List UInt8) (i : Nat) : UInt8 := (s ++ s).getD (i + s.length - 1) 0
/-- The last bytes. -/
def lastB (s : List UInt8) (o : List Nat) : List UInt8 := o.map (prevB s)
/-- The rows. -/
def rowsR (s : List UInt8) (o : List Nat) : List (List UInt8) := o.map (rotL s)
theorem IsOrd.rows_sorted {s : List UInt8} {o : List Nat} (h : IsOrd s o) : (rowsR s o).Pairwise lle := by
  unfold rowsR
  refine List.Pairwise.map _ (fun a b hab => ?_) h.sorted
  rcases hab with h | ⟨h, _⟩
  · exact lle_of_lt h
  · rw [h]; exact lle_refl _
/-- All turns. -/
def turnsL (s : List UInt8) : List (List UInt8) := (List.range s.length).map (rotL s)
theorem IsOrd.rows_perm {s : List UInt8} {o : List Nat} (h : IsOrd s o) : (rowsR s o).Perm (turnsL s) := h.perm.map _
theorem getD_app_r (a b : List UInt8) (k : Nat) : (a ++ b).getD (a.length + k) 0 = b.getD k 0 := by
  rw [List.getD_eq_getElem?_getD, List.getElem?_append_right (by omega), Nat.add_sub_cancel_left, List.getD_eq_getElem?_getD]
theorem getD_app_l (a b : List UInt8) {k : Nat} (h : k < a.length) : (a ++ b).getD k 0 = a.getD k 0 := by
  rw [List.getD_eq_getElem?_getD, List.getElem?_append_left h, List.getD_eq_getElem?_getD]
/-- A turn's last byte. -/
theorem prevB_last {s : List UInt8} {i : Nat} (hi : i < s.length) : prevB s i = (rotL s i).getD (s.length - 1) 0 := by
  unfold prevB rotL
  rcases Nat.eq_zero_or_pos i with h0 | h0
  · subst h0
    rw [List.drop_zero, List.take_zero, List.append_nil, Nat.zero_add, getD_app_l _ _ (by omega)]
  · have e1 : i + s.length - 1 = s.length + (i - 1) := by omega
    have e2 : s.length - 1 = (s.drop i).length + (i - 1) := by rw [List.length_drop]; omega
    rw [e1, getD_app_r, e2, getD_app_r, List.getD_eq_getElem?_getD, List.getD_eq_getElem?_getD, List.getElem?_take, if_pos (by omega)]
theorem lastB_rows {s : List UInt8} {o : List Nat} (h : ∀ i ∈ o, i < s.length) : lastB s o = (rowsR s o).map (·.getD (s.length - 1) 0) := by
  unfold lastB rowsR
  rw [List.map_map]
  exact List.map_congr_left fun i hi => prevB_last (h i hi)
theorem rotL_rotL {s : List UInt8} {k j : Nat} (hk : k ≤ s.length) (hj : j < s.length) : rotL (rotL s k) j = rotL s ((j + k) % s.length) := by
  unfold rotL
  have l1 : (s.drop k).length = s.length - k := List.length_drop
  have l2 : (s.take k).length = k := by rw [List.length_take]; omega
  rcases Nat.lt_or_ge (j + k) s.length with h | h
  · rw [Nat.mod_eq_of_lt h, List.drop_append_of_le_length (by omega), List.take_append_of_le_length (by omega), List.drop_drop, List.append_assoc]
    rw [Nat.add_comm k j]
    congr 1
    rw [← List.take_append_drop k (s.take (j + k)), List.take_take, Nat.min_eq_left (by omega), List.drop_take, show j + k - k = j from by omega]
  · have e : (j + k) % s.length = j + k - s.length := by
      rw [Nat.mod_eq_sub_mod h, Nat.mod_eq_of_lt (by omega)]
    rw [e]
    obtain ⟨d, hd⟩ : ∃ d, d = j + k - s.length := ⟨_, rfl⟩
    rw [← hd]
    have e1 : (s.drop k ++ s.take k).drop j = (s.drop d).take (k - d) := by
      rw [List.drop_append, List.drop_eq_nil_of_le (by omega), List.nil_append, l1, show j - (s.length - k) = d from by omega, List.drop_take]
    have e2 : (s.drop k ++ s.take k).take j = s.drop k ++ s.take d := by
      rw [List.take_append, List.take_of_length_le (by omega), l1, show j - (s.length - k) = d from by omega, List.take_take, Nat.min_eq_left (by omega)]
    have e3 : s.drop k = (s.drop d).drop (k - d) := by rw [List.drop_drop]; congr 1; omega
    rw [e1, e2, e3, ← List.append_assoc, List.take_append_drop]
theorem turns_perm (s : List UInt8) {k : Nat} (hk : k ≤ s.length) : (turnsL (rotL s k)).Perm (turnsL s) := by
  unfold turnsL
  rw [rotL_len]
  obtain ⟨m, hm⟩ := Nat.exists_eq_add_of_le hk
  have e1 : (List.range s.length).map (rotL (rotL s k)) = (List.range m).map (fun j => rotL s (k + j)) ++ (List.range k).map (rotL s) := by
    rw [hm, Nat.add_comm k m, List.range_add, List.map_append, List.map_map]
    congr 1
    · refine List.map_congr_left fun j hj => ?_
      have := List.mem_range.1 hj
      rw [rotL_rotL hk (by omega), Nat.mod_eq_of_lt (by omega), Nat.add_comm]
    · refine List.map_congr_left fun j hj => ?_
      have := List.mem_range.1 hj
      show rotL (rotL s k) (m + j) = _
      rw [rotL_rotL hk (by omega), show m + j + k = j + s.length from by omega, Nat.add_mod_right, Nat.mod_eq_of_lt (by omega)]
  have e2 : (List.range s.length).map (rotL s) = (List.range k).map (rotL s) ++ (List.range m).map (fun j => rotL s (k + j)) := by
    rw [hm, List.range_add, List.map_append, List.map_map]
    rfl
  rw [e1, e2]
  exact List.perm_append_comm
/-- All turns of a word have the same rows, and the same last bytes. -/
theorem turn_rows {s : List UInt8} {o o' : List Nat} {k : Nat} (hk : k ≤ s.length) (h : IsOrd s o) (h' : IsOrd (rotL s k) o') : rowsR (rotL s k) o' = rowsR s o :=
  sorted_eq (R := lle) (fun a b h1 h2 => lle_antisymm h1 h2) (h'.rows_perm.trans ((turns_perm s hk).trans h.rows_perm.symm)) h'.rows_sorted h.rows_sorted
theorem turn_same {s : List UInt8} {o o' : List Nat} {k : Nat} (hk : k ≤ s.length) (h : IsOrd s o) (h' : IsOrd (rotL s k) o') : lastB (rotL s k) o' = lastB s o := by
  rw [lastB_rows fun i hi => h'.lt hi, lastB_rows fun i hi => h.lt hi, turn_rows hk h h', rotL_len]
/-- Where the word itself stands. -/
def zeroAt (o : List Nat) : Nat := o.idxOf 0

/-- The order of places by their bytes, and of the same by place. -/
def ltB (t : List UInt8) (i k : Nat) : Prop := t.getD i 0 < t.getD k 0 ∨ t.getD i 0 = t.getD k 0 ∧ i < k
def cmpB (t : List UInt8) (i k : Nat) : Int := if t.getD i 0 ≠ t.getD k 0 then ((t.getD i 0).toNat : Int) - ((t.getD k 0).toNat : Int) else (i : Int) - (k : Int)
theorem cmpB_lt (t : List UInt8) (i k : Nat) : cmpB t i k < 0 ↔ ltB t i k := by
  unfold cmpB ltB
  by_cases h : t.getD i 0 = t.getD k 0
  · rw [if_neg (by simpa using h), h]
    constructor
    · intro h; exact .inr ⟨rfl, by omega⟩
    · rintro (h | ⟨_, h⟩)
      · exact absurd h (u8_irrefl _)
      · omega
  · rw [if_pos (by simpa using h)]
    constructor
    · intro h'; exact .inl (UInt8.lt_iff_toNat_lt.2 (by omega))
    · rintro (h' | ⟨h', _⟩)
      · have := UInt8.lt_iff_toNat_lt.1 h'; omega
      · exact absurd h' h
theorem ltB_irrefl (t : List UInt8) (i : Nat) : ¬ ltB t i i := by
  rintro (h | ⟨_, h⟩)
  · exact u8_irrefl _ h
  · omega
theorem ltB_trans {t : List UInt8} {i j k : Nat} (h1 : ltB t i j) (h2 : ltB t j k) : ltB t i k := by
  rcases h1 with h1 | ⟨h1, h1'⟩ <;> rcases h2 with h2 | ⟨h2, h2'⟩
  · exact .inl (u8_trans h1 h2)
  · exact .inl (h2 ▸ h1)
  · exact .inl (h1 ▸ h2)
  · exact .inr ⟨h1.trans h2, by omega⟩
theorem ltB_tri (t : List UInt8) (i k : Nat) : ltB t i k ∨ i = k ∨ ltB t k i := by
  rcases u8_tri (t.getD i 0) (t.getD k 0) with h | h | h
  · exact .inl (.inl h)
  · rcases Nat.lt_trichotomy i k with h' | h' | h'
    · exact .inl (.inr ⟨h, h'⟩)
    · exact .inr (.inl h')
    · exact .inr (.inr (.inr ⟨h.symm, h'⟩))
  · exact .inr (.inr (.inl h))
structure IsOrdB (t : List UInt8) (o : List Nat) : Prop where
  perm : o.Perm (List.range t.length)
  sorted : o.Pairwise (ltB t)
theorem IsOrdB.unique {t : List UInt8} {o o' : List Nat} (h : IsOrdB t o) (h' : IsOrdB t o') : o = o' :=
  sorted_eq (R := ltB t) (fun a b h1 h2 => absurd (ltB_trans h1 h2) (ltB_irrefl t a)) (h.perm.trans h'.perm.symm) h.sorted h'.sorted
theorem IsOrdB.len {t : List UInt8} {o : List Nat} (h : IsOrdB t o) : o.length = t.length := by rw [h.perm.length_eq, List.length_range]
theorem IsOrdB.lt {t : List UInt8} {o : List Nat} (h : IsOrdB t o) {i : Nat} (hi : i ∈ o) : i < t.length := List.mem_range.1 (h.perm.mem_iff.1 hi)
/-- Step by step, from a place: the bytes that come up. -/
def stepsG (t : List UInt8) (l : List Nat) : Nat → Nat → List UInt8
  | _, 0 => []
  | k, n + 1 => t.getD (l.getD k 0) 0 :: stepsG t l (l.getD k 0) n
def placeG (l : List Nat) (k : Nat) : Nat → Nat
  | 0 => k
  | n + 1 => l.getD (placeG l k n) 0
theorem stepsG_snoc (t : List UInt8) (l : List Nat) : ∀ (n k : Nat), stepsG t l k (n + 1) = stepsG t l k n ++ [t.getD (placeG l k (n + 1)) 0]
  | 0, k => rfl
  | n + 1, k => by
    have e : ∀ m k, placeG l (l.getD k 0) m = placeG l k (m + 1) := fun m => by
      induction m with
      | zero => intro k; rfl
      | succ m ih => intro k; show l.getD (placeG l (l.getD k 0) m) 0 = l.getD (placeG l k (m + 1)) 0; rw [ih]
    rw [stepsG, stepsG_snoc t l n, stepsG, List.cons_append, e]
theorem stepsG_len (t : List UInt8) (l : List Nat) : ∀ (n k : Nat), (stepsG t l k n).length = n
  | 0, _ => rfl
  | n + 1, k => by rw [stepsG, List.length_cons, stepsG_len]
end Go.Proofs.YtaogegpfapfchaaGreatDoor

/- A block of cells that the library sorts whole; strings.Compare. -/
namespace Go.Proofs.YtaogegpfapfchaaGreatDoor
open Go.RowKit Go.Sort Go.Shelf Go.Lib
set_option linter.unusedVariables false

theorem Blk.sortedW {α : Type} [Inhabited α] (enc : α → Value) {w : World} {g : Nat} {T : TypeId} {cs : Array Value} (d : Array α) (h : Blk w g T cs) (hs : cs.size = d.size) (m : Nat) (os : Array Obj) :
    Blk (sortWorld enc w g 0 m d os) g T (d.map enc) ∧ w.grownBy (sortWorld enc w g 0 m d os) (some g) := by
  refine ⟨?_, ⟨rfl, rfl, rfl, by simp [sortWorld], fun k hk hne => ?_⟩⟩
  · unfold Blk at h ⊢
    have hg' : g < w.heap.size := (Array.getElem?_eq_some_iff.1 h).1
    unfold sortWorld
    rw [heap_grow_old _ _ (by simpa using hg')]
    have e : putCells enc 0 d cs = d.map enc := by
      refine Array.ext (by simp [putCells, hs]) fun j h1 h2 => ?_
      have hj : j < d.size := by simpa using h2
      simp only [putCells, Array.getElem_mapIdx, Array.getElem_map]
      rw [if_pos (by omega), Nat.sub_zero, getElem!_pos d j hj]
    simp [putRow, mapBlock, Sort.ahead, Array.getElem?_modify, h, onCells, e]
  · unfold sortWorld
    rw [heap_grow_old _ _ (by simpa using hk)]
    have : g ≠ k := fun e => hne (by rw [e])
    simp [putRow, mapBlock, Sort.ahead, Array.getElem?_modify, this]
theorem Blk.holds1 {α : Type} [Inhabited α] (enc : α → Value) {w : World} {g : Nat} {T : TypeId} (d : Array α) (h : Blk w g T (d.map enc)) : Holds enc w g 0 d := fun j hj => by
  refine ⟨?_, h.frozen _⟩
  rw [h.cell, Nat.zero_add, Array.getElem?_eq_getElem (by simpa using hj), Array.getElem_map, getElem!_pos d j hj]

theorem compare_any (a b : ByteArray) (w : World) : Calls Tryz.prog 70 #[.string a, .string b] w fun e w' => e = .returned (.int .i64 (Lib.compareBytes a.data.toList b.data.toList)) ∧ w = w' := by
  have h := Any.strings_Compare layCompare a b w
  change Calls Tryz.prog 70 _ _ _ at h
  exact h.mono fun _ _ ⟨h1, h2⟩ => ⟨h1, h2.symm⟩
/-- slices.SortFunc of ints: what comes out of it. -/
theorem intSort_any {α : Type} [Inhabited α] (enc : α → Int) (cf : α → α → Int) (hO : SWO (ltOf cf)) (g : Nat) (cb : Array Value) (blk : Nat) (d : Array α) (w : World) (hB : Blk w blk 3 (d.map fun x => Value.int .i64 (enc x)))
    (eg : ∀ args w, (callFunc g args).run Tryz.prog w = .ok (.enter g args) w)
    (hcmp : ∀ W, (∀ b t cs, b ≠ blk → Blk w b t cs → Blk W b t cs) → ∀ x y : α, Calls Tryz.prog g (#[.int .i64 (enc x), .int .i64 (enc y)] ++ cb) W fun e w' => e = .returned (.int .i64 (cf x y)) ∧ ∃ q os', w' = grow (W.drewN q) os') (hsz : d.size < 4611686018427387904) :
    Calls Tryz.prog 68 #[.slice (some ⟨blk, 0, none⟩) d.size d.size, .func (.func g) #[] cb] w fun e w' => e = .returned (.tuple #[]) ∧
      ∃ d' : Array α, d'.toList.Perm d.toList ∧ d'.toList.Pairwise (fun x y => ltOf cf y x = false) ∧ Blk w' blk 3 (d'.map fun x => Value.int .i64 (enc x)) ∧ w.grownBy w' (some blk) := by
  have hL : CmpLays1 Tryz.prog g cb (fun x => Value.int .i64 (enc x)) cf blk 0 d.size w := fun m os dk hdk x y => by
    refine hcmp _ (fun b t cs hb hblk => ?_) x y
    have hgr := (Blk.sortedW (fun x => Value.int .i64 (enc x)) dk hB (by simp [hdk]) m os).2
    exact hblk.grown hgr (fun e => hb (by injection e with e; exact e.symm))
  have h := Any.slices_SortFunc layIntSort (fun x => Value.int .i64 (enc x)) (fun _ => rfl) cf hO g cb blk 0 d.size d w eg hL (Blk.holds1 _ d hB) hB.lt hsz
  change Calls Tryz.prog 68 _ _ _ at h
  refine h.mono fun e w' ⟨he, d', n, os, ⟨hs, _, hp⟩, hsort, hw⟩ => ⟨he, d', ?_, ?_, ?_⟩
  · have e1 : ∀ x : Array α, x.size = d.size → (x.extract 0 d.size).toList = x.toList := fun x hx => by rw [← hx, Array.extract_size]
    rwa [e1 _ hs, e1 _ rfl] at hp
  · refine List.pairwise_iff_getElem.2 fun i j hi hj hij => ?_
    have := hsort i j (Nat.zero_le _) hij (by rw [← hs]; simpa using hj)
    rwa [getElem!_pos d' j (by simpa using hj), getElem!_pos d' i (by simpa using hi)] at this
  · rw [hw]
    exact Blk.sortedW _ d' hB (by simp [hs]) n os
end Go.Proofs.YtaogegpfapfchaaGreatDoor

