import Derived.Test.YtaogegpfapfchaaGreatDoorDeskM36
import Derived.Test.YtaogegpfapfchaaGreatDoorDeskM44
import Derived.Shelf.Strings.Split
import Derived.Test.YtaogegpfapfchaaGreatDoorProg
import Derived.Test.YtaogegpfapfchaaGreatDoorDeskM01
import Derived.Shelf.Vars
import Derived.Below
/- Several texts in one: XDeskRunP XDeskMem XDeskDoor XLaidSplit XMaxLen XSplit XDeskLine. -/
/- Plain: what the desk answers, line by line. -/
namespace Go.Proofs.YtaogegpfapfchaaGreatDoor
open Go.RowKit
set_option linter.unusedVariables false

/-- The words of a line. -/
def wordsD (line : ByteArray) : List ByteArray := ((cutL 32 line.data.toList).map tx).filter fun s => decide (s ≠ ⟨#[]⟩)
abbrev kNames : ByteArray := ⟨#[110, 97, 109, 101, 115]⟩
/-- What the words come to. -/
noncomputable def toldD (P : List Pg) (l : List ByteArray) : Except Nat ByteArray × List Pg :=
  if l = [] then (.error 12, P) else if l = [kNames] then (.ok (⟨#[58]⟩ ++ joinB (namesB P)), P)
  else match deedD P l with
    | (.error E, P') => (.error E, P')
    | (.ok (some s), P') => (.ok s, P')
    | (.ok none, P') => (askD l, P')
theorem toldD_err {P P' : List Pg} {l : List ByteArray} {E : Nat} (h0 : l ≠ []) (h1 : l ≠ [kNames]) (h : deedD P l = (.error E, P')) : toldD P l = (.error E, P') := by unfold toldD; rw [if_neg h0, if_neg h1, h]
theorem toldD_some {P P' : List Pg} {l : List ByteArray} {s : ByteArray} (h0 : l ≠ []) (h1 : l ≠ [kNames]) (h : deedD P l = (.ok (some s), P')) : toldD P l = (.ok s, P') := by unfold toldD; rw [if_neg h0, if_neg h1, h]
theorem toldD_none {P P' : List Pg} {l : List ByteArray} (h0 : l ≠ []) (h1 : l ≠ [kNames]) (h : deedD P l = (.ok none, P')) : toldD P l = (askD l, P') := by unfold toldD; rw [if_neg h0, if_neg h1, h]
def saidD : Except Nat ByteArray → ByteArray
  | .error E => errB E
  | .ok s => s
noncomputable def ansD (P : List Pg) (line : ByteArray) : ByteArray × List Pg := (saidD (toldD P (wordsD line)).1, (toldD P (wordsD line)).2)
/-- One line more. -/
noncomputable def lineD (x : List ByteArray × List Pg) (line : ByteArray) : List ByteArray × List Pg :=
  if line = ⟨#[]⟩ then x else (x.1 ++ [(ansD x.2 line).1], (ansD x.2 line).2)
noncomputable def linesD (l : List ByteArray) : List ByteArray × List Pg := l.foldl lineD ([], [])
theorem linesD_snoc (l : List ByteArray) (k : Nat) (x : ByteArray) (h : l[k]? = some x) : linesD (l.take (k + 1)) = lineD (linesD (l.take k)) x := by
  obtain ⟨hk, hx⟩ := List.getElem?_eq_some_iff.1 h
  unfold linesD
  rw [List.take_succ_eq_append_getElem hk, List.foldl_append, hx]
  rfl
theorem lineD_grows (x : List ByteArray × List Pg) (line : ByteArray) : ∃ r, (lineD x line).1 = x.1 ++ r := by
  unfold lineD
  split
  · exact ⟨[], (List.append_nil _).symm⟩
  · exact ⟨_, rfl⟩
theorem fold_grows : ∀ (l : List ByteArray) (x : List ByteArray × List Pg), ∃ r, (l.foldl lineD x).1 = x.1 ++ r
  | [], x => ⟨[], (List.append_nil _).symm⟩
  | y :: l, x => by
    obtain ⟨r, h⟩ := fold_grows l (lineD x y)
    obtain ⟨r', h'⟩ := lineD_grows x y
    exact ⟨r' ++ r, by rw [List.foldl_cons, h, h', List.append_assoc]⟩
/-- The lines of a text. -/
def rowsD (t : ByteArray) : List ByteArray := (cutL 10 t.data.toList).map tx
/-- What Run tells. -/
noncomputable def runE (t : ByteArray) : Int := if 4096 < t.size ∨ 60 < (rowsD t).length then 2 else 0
noncomputable def runR (t : ByteArray) : List ByteArray := if 4096 < t.size ∨ 60 < (rowsD t).length then [] else (linesD (rowsD t)).1
theorem rowsD_app (a b : ByteArray) : rowsD (a ++ ⟨#[10]⟩ ++ b) = rowsD a ++ rowsD b := by
  unfold rowsD
  have e : (a ++ ⟨#[10]⟩ ++ b).data.toList = a.data.toList ++ 10 :: b.data.toList := by simp
  rw [e, cutL_app, List.map_append]
/-- Later lines change no answer ahead of them. -/
theorem run_front (a b : ByteArray) : (runE (a ++ ⟨#[10]⟩ ++ b) ≠ 0 → runR (a ++ ⟨#[10]⟩ ++ b) = []) ∧ (runE (a ++ ⟨#[10]⟩ ++ b) = 0 → runE a = 0 ∧ ∃ r, runR (a ++ ⟨#[10]⟩ ++ b) = runR a ++ r) := by
  have hs : (a ++ ⟨#[10]⟩ ++ b).size = a.size + 1 + b.size := by rw [ByteArray.size_append, ByteArray.size_append]; rfl
  unfold runE runR
  rw [rowsD_app, hs, List.length_append]
  by_cases h : 4096 < a.size + 1 + b.size ∨ 60 < (rowsD a).length + (rowsD b).length
  · rw [if_pos h, if_pos h]
    exact ⟨fun _ => rfl, fun h => absurd h (by decide)⟩
  · rw [if_neg h, if_neg h]
    refine ⟨fun h => absurd rfl h, fun _ => ?_⟩
    rw [if_neg (by omega), if_neg (by omega)]
    refine ⟨rfl, ?_⟩
    unfold linesD
    rw [List.foldl_append]
    exact fold_grows _ _
end Go.Proofs.YtaogegpfapfchaaGreatDoor

/- A house in a law stays while a row of others grows or is written. -/
namespace Go.Proofs.YtaogegpfapfchaaGreatDoor
open Go.RowKit
set_option linter.unusedVariables false

theorem InLaw.grown {w0 : World} {own : Nat → Nat} {w w' : World} {gh : Nat} {Q : List (Pl × Pg)} {P : List Pg} {row : Option Nat} (h : InLaw w0 own w gh Q P) (hg : w.grownBy w' row) (hr : ∀ g, row = some g → own g ∉ idsH gh Q ∧ w0.heap.size ≤ g) : InLaw w0 (newO own w.heap.size) w' gh Q P := by
  have hG : Goes own (newO own w.heap.size) (fun k => k ∉ idsH gh Q) w w' := ⟨hg.os, hg.tape, hg.output, hg.size, fun k hk hn => hg.block k hk fun e => (hr k e.symm).1 (Classical.not_not.1 hn), fun k hk => if_pos hk⟩
  refine ⟨h.below.grown hg h.below.size fun g hq => (hr g hq).2, h.house.apart hG fun k hk hn => hn hk, h.pages, h.ok, fun k hk => ?_, fun k hk => ?_, h.ids⟩
  · unfold newO
    by_cases e : k < w.heap.size
    · rw [if_pos e]; exact Nat.lt_of_lt_of_le (h.based k e) hg.size
    · rw [if_neg e]; exact hk
  · unfold newO
    rw [if_pos (Nat.lt_of_lt_of_le hk h.below.size)]
    exact h.low k hk
/-- A row of others grows: the house stays, and so do the others. -/
theorem LoneK.grown {w0 w w' : World} {gh : Nat} {P : List Pg} {K : Nat → Prop} {row : Option Nat} (h : LoneK w0 gh P K w) (hg : w.grownBy w' row) (hr : ∀ g, row = some g → K g ∧ w0.heap.size ≤ g) : LoneK w0 gh P (fun b => K b ∨ (w.heap.size ≤ b ∧ b < w'.heap.size)) w' := by
  obtain ⟨o, Q, h, h2⟩ := h
  have hlt := h.house.lt
  refine ⟨_, Q, h.grown hg fun g e => ⟨(h2 g (hr g e).1).2, (hr g e).2⟩, fun b hk => ?_⟩
  rcases hk with hk | ⟨h3, h4⟩
  · obtain ⟨h5, h6⟩ := h2 b hk
    refine ⟨Nat.lt_of_lt_of_le h5 hg.size, ?_⟩
    unfold newO
    rw [if_pos h5]
    exact h6
  · refine ⟨h4, ?_⟩
    unfold newO
    rw [if_neg (by omega)]
    intro hi
    have := hlt b hi
    omega
theorem grown_set (w : World) (g i : Nat) (u : Value) : w.grownBy (w.setCell ⟨g, i, none⟩ u) (some g) :=
  ⟨rfl, rfl, rfl, by rw [size_setCell]; exact Nat.le_refl _, fun k _ hn => Below.heap_setCell w ⟨g, i, none⟩ u k fun e => hn (by rw [e])⟩
theorem LoneK.below {w0 w : World} {gh : Nat} {P : List Pg} {K : Nat → Prop} (h : LoneK w0 gh P K w) : Below w0.heap.size w0 w := h.lone.below
end Go.Proofs.YtaogegpfapfchaaGreatDoor

/- The door of the desk's answer: the closure that recovers, and what is told behind it. -/
namespace Go.Proofs.YtaogegpfapfchaaGreatDoor
open Go.RowKit
set_option linter.unusedVariables false

/-- What stands at the desk's door. -/
structure Door (w0 w : World) (gh : Nat) (K : Nat → Prop) (P : List Pg) (w' : World) : Prop where
  lone : LoneK w0 gh P (fun b => K b ∨ b = w.heap.size) w'
  kept : Kept K w w'
  cell : Blk w' w.heap.size 9 #[.string ⟨#[]⟩]
  tab : Tab w'
  low : w0.heap.size ≤ w.heap.size
  sub : ∀ b, K b → b < w.heap.size
section
variable {w0 w w' w1 : World} {gh : Nat} {K : Nat → Prop} {P : List Pg}
theorem Door.set (h : Door w0 w gh K P w') (hb : Below w'.heap.size w' w1) (v : Value) : DeskTo w0 gh K w P (w1.setCell ⟨w.heap.size, 0, none⟩ v) := by
  have l1 := h.lone.stay hb
  refine ⟨(l1.grown (grown_set w1 w.heap.size 0 v) fun g e => ?_).weak fun b hk => .inl (.inl hk), ?_⟩
  · injection e with e
    exact ⟨.inr e.symm, by rw [← e]; exact h.low⟩
  · refine ⟨hb.os.trans h.kept.os, hb.tape.trans h.kept.tape, hb.output.trans h.kept.output, ?_, fun b hk => ?_⟩
    · rw [size_setCell]; exact Nat.le_trans h.kept.size hb.size
    · have := h.sub b hk
      have h2 := h.kept.size
      rw [Below.heap_setCell w1 ⟨w.heap.size, 0, none⟩ v b (by show b ≠ w.heap.size; omega), hb.block b (by omega)]
      exact h.kept.block b hk
theorem Door.after (h : Door w0 w gh K P w') (hb : Below w'.heap.size w' w1) : Door w0 w gh K P w1 :=
  ⟨h.lone.stay hb, h.kept.trans (kept_below (fun b hk => by have := h.sub b hk; have := h.kept.size; omega) hb), h.cell.after hb, h.tab.after hb, h.low, h.sub⟩
theorem Door.of {w2 : World} {K2 : Nat → Prop} {P' : List Pg} (h : Door w0 w gh K P w') (ht : Tab w0) (hd : DeskTo w0 gh K2 w' P' w2) (hk : ∀ b, K b ∨ b = w.heap.size → K2 b) : Door w0 w gh K P' w2 :=
  ⟨hd.1.weak hk, h.kept.trans (hd.2.weak fun b hb => hk b (.inl hb)), (hd.2.block _ (hk _ (.inr rfl))).trans h.cell, ht.after hd.1.below, h.low, h.sub⟩
abbrev doorD (w : World) : List Deferred := [{ target := .fn (Fn.func 16) #[.pointer (some ⟨w.heap.size, 0, none⟩)], args := #[] }]
theorem door_yes (h : Door w0 w gh K P w') (s : ByteArray) (tmps : Array Value) (ht4 : tmps[4]?.getD undef = .pointer (some ⟨w.heap.size, 0, none⟩)) :
    Leaves Tryz.prog Tryz.f12 tmps (fun e w'' => e = .returned (.string s) ∧ DeskTo w0 gh K w P w'') (doorD w) .returning (w'.setCell ⟨w.heap.size, 0, none⟩ (.string s)) := by
  have hc := (h.cell.set_ 0 (.string s)).cell 0
  have hD := h.set (Below.refl _ _) (.string s)
  refine leaves_cons (f := 16) (args := #[.pointer (some ⟨w.heap.size, 0, none⟩)]) (by simp) (by simp [go_sem]) ?_
  refine (catch_idle _ _).mono ?_
  rintro e u' w'' ⟨rfl, rfl, rfl⟩
  have hc' : (w'.setCell ⟨w.heap.size, 0, none⟩ (.string s)).cell? ⟨w.heap.size, 0, none⟩ = some (.string s) := hc
  simp only [Leaves, settle]
  refine ⟨.string s, ?_, rfl, hD⟩
  simp [results, Tryz.results12, go_sem, ht4, hc']
theorem door_no (h : Door w0 w gh K P w') (E : Nat) (hE : E ≤ 1000000) (tmps : Array Value) (ht4 : tmps[4]?.getD undef = .pointer (some ⟨w.heap.size, 0, none⟩)) :
    Leaves Tryz.prog Tryz.f12 tmps (fun e w'' => e = .returned (.string (errB E)) ∧ DeskTo w0 gh K w P w'') (doorD w) (.panicking (thrown E)) w' := by
  refine leaves_cons (f := 16) (args := #[.pointer (some ⟨w.heap.size, 0, none⟩)]) (by simp) (by simp [go_sem]) ?_
  refine (catch_thrown ⟨w.heap.size, 0, none⟩ E hE _ w' h.tab h.cell.lt (h.cell.cell 0) (h.cell.frozen 0)).mono ?_
  rintro e u' w'' ⟨rfl, rfl, w1, hb, rfl⟩
  have hD := h.set hb (.string (errB E))
  have hc := ((h.cell.after hb).set_ 0 (.string (errB E))).cell 0
  have hc' : (w1.setCell ⟨w.heap.size, 0, none⟩ (.string (errB E))).cell? ⟨w.heap.size, 0, none⟩ = some (.string (errB E)) := hc
  simp only [settle, List.dropWhile_nil]
  simp only [Leaves]
  refine ⟨.string (errB E), ?_, rfl, hD⟩
  simp [results, Tryz.results12, go_sem, ht4, hc']
end
end Go.Proofs.YtaogegpfapfchaaGreatDoor

/- Split: contracts of the library laid at this program: the tables of numbers and the facts that they ask. -/
namespace Go.Proofs.YtaogegpfapfchaaGreatDoor
open Go.RowKit
set_option linter.unusedVariables false

def laysSp_ren : Go.Shelf.Ren := ⟨fun | 146 => 7 | 221 => 13 | 268 => 23 | 138 => 24 | 143 => 15 | 195 => 39 | 197 => 40 | 218 => 41 | 219 => 25 | 260 => 72 | 217 => 42 | 225 => 43 | 224 => 44 | 267 => 45 | 266 => 73 | 314 => 74 | n => n, fun | 9 => 9 | 31 => 22 | 3 => 3 | 4 => 4 | 0 => 0 | 105 => 85 | 21 => 21 | 5 => 5 | 46 => 89 | 119 => 142 | 139 => 145 | 138 => 144 | 146 => 111 | 51 => 110 | 20 => 20 | n => n, fun | 1 => 0 | 3 => 1 | 4 => 2 | n => n⟩
theorem laysSp : Go.Proofs.Lays.n146 Tryz.prog laysSp_ren := {
  mixed := by kernel_rfl,
  f138 := Tryz.func24.trans (congrArg some (by kernel_rfl)),
  f143 := Tryz.func15.trans (congrArg some (by kernel_rfl)),
  f146 := Tryz.func7.trans (congrArg some (by kernel_rfl)),
  f195 := Tryz.func39.trans (congrArg some (by kernel_rfl)),
  f197 := Tryz.func40.trans (congrArg some (by kernel_rfl)),
  f217 := Tryz.func42.trans (congrArg some (by kernel_rfl)),
  f218 := Tryz.func41.trans (congrArg some (by kernel_rfl)),
  f219 := Tryz.func25.trans (congrArg some (by kernel_rfl)),
  f221 := Tryz.func13.trans (congrArg some (by kernel_rfl)),
  f224 := Tryz.func44.trans (congrArg some (by kernel_rfl)),
  f225 := Tryz.func43.trans (congrArg some (by kernel_rfl)),
  f260 := Tryz.func72.trans (congrArg some (by kernel_rfl)),
  f266 := Tryz.func73.trans (congrArg some (by kernel_rfl)),
  f267 := Tryz.func45.trans (congrArg some (by kernel_rfl)),
  f268 := Tryz.func23.trans (congrArg some (by kernel_rfl)),
  f314 := Tryz.func74.trans (congrArg some (by kernel_rfl)),
  t0 := Tryz.underlying0,
  a0 := Tryz.isAgg0,
  z0 := Tryz.sizeOf0,
  v0 := Tryz.zeroValue0,
  t3 := Tryz.underlying3,
  a3 := Tryz.isAgg3,
  z3 := Tryz.sizeOf3,
  v3 := Tryz.zeroValue3,
  t4 := Tryz.underlying4,
  a4 := Tryz.isAgg4,
  z4 := Tryz.sizeOf4,
  v4 := Tryz.zeroValue4,
  t5 := Tryz.underlying5,
  a5 := Tryz.isAgg5,
  z5 := Tryz.sizeOf5,
  v5 := Tryz.zeroValue5,
  t9 := Tryz.underlying9,
  a9 := Tryz.isAgg9,
  z9 := Tryz.sizeOf9,
  v9 := Tryz.zeroValue9,
  t21 := Tryz.underlying21,
  a21 := Tryz.isAgg21,
  z21 := Tryz.sizeOf21,
  v21 := Tryz.zeroValue21,
  t31 := Tryz.underlying22,
  a31 := Tryz.isAgg22,
  z31 := Tryz.sizeOf22,
  v31 := Tryz.zeroValue22,
  t46 := Tryz.underlying89,
  a46 := Tryz.isAgg89,
  z46 := Tryz.sizeOf89,
  v46 := Tryz.zeroValue89,
  t51 := Tryz.underlying110,
  a51 := Tryz.isAgg110,
  z51 := Tryz.sizeOf110,
  v51 := Tryz.zeroValue110,
  t105 := Tryz.underlying85,
  a105 := Tryz.isAgg85,
  z105 := Tryz.sizeOf85,
  v105 := Tryz.zeroValue85,
  t119 := Tryz.underlying142,
  a119 := Tryz.isAgg142,
  z119 := Tryz.sizeOf142,
  t138 := Tryz.underlying144,
  a138 := Tryz.isAgg144,
  z138 := Tryz.sizeOf144,
  v138 := Tryz.zeroValue144,
  t139 := Tryz.underlying145,
  a139 := Tryz.isAgg145,
  z139 := Tryz.sizeOf145,
  v139 := Tryz.zeroValue145,
  t146 := Tryz.underlying111,
  a146 := Tryz.isAgg111,
  z146 := Tryz.sizeOf111,
  v146 := Tryz.zeroValue111,
  g1 := by kernel_rfl,
  g3 := by kernel_rfl,
  g4 := by kernel_rfl }

end Go.Proofs.YtaogegpfapfchaaGreatDoor

/- The library's variable MaxLen: that its cell holds some number, and stays. -/
namespace Go.Proofs.YtaogegpfapfchaaGreatDoor
open Go.RowKit
set_option linter.unusedVariables false

def MaxL (w : World) : Prop := ∃ m, w.cell? ⟨0, 0, none⟩ = some (.int .i64 m)
theorem maxL_of {w : World} (h : w.ShapedOpen Tryz.prog) : MaxL w :=
  Go.Proofs.cell_of_shapedOpen_int (zero := #[.int .i64 0]) (t := 3) h (of_decide_eq_true (by kernel_rfl)) (by kernel_rfl) rfl (by kernel_rfl) (by kernel_rfl) Tryz.underlying3
theorem MaxL.lt {w : World} (h : MaxL w) : 0 < w.heap.size := by
  obtain ⟨m, hm⟩ := h
  rcases Nat.lt_or_ge 0 w.heap.size with h' | h'
  · exact h'
  · unfold World.cell? at hm
    rw [Array.getElem?_eq_none h'] at hm; cases hm
theorem MaxL.below {B : Nat} {w w' : World} (h : MaxL w) (hb : Below B w w') (hB : w.heap.size ≤ B) : MaxL w' := by
  have hl := h.lt
  obtain ⟨m, hm⟩ := h
  exact ⟨m, by rw [hb.cell (by show 0 < B; omega)]; exact hm⟩
theorem MaxL.after {w w' : World} (h : MaxL w) (hb : Below w.heap.size w w') : MaxL w' := h.below hb (Nat.le_refl _)
end Go.Proofs.YtaogegpfapfchaaGreatDoor

/- strings.Split at one byte, of a text of less than four thousand million bytes. -/
namespace Go.Proofs.YtaogegpfapfchaaGreatDoor
open Go.RowKit
set_option linter.unusedVariables false
theorem str_cells (l : List ByteArray) : l.map Value.string = l.flatMap cStr := by
  induction l with
  | nil => rfl
  | cons x l ih => rw [List.map_cons, List.flatMap_cons, ih]; rfl
/-- strings.Split: the pieces lie in a block of their own. -/
theorem split_any (s : ByteArray) (c : UInt8) (hs : s.size ≤ 4294967280) (w : World) (h : MaxL w) :
    Calls Tryz.prog 7 #[.string s, .string ⟨#[c]⟩] w fun e w' => e = .returned (.slice (some ⟨w.heap.size, 0, none⟩) (cutL c s.data.toList).length (cutL c s.data.toList).length) ∧ w' = w.alloc (.cells (((cutL c s.data.toList).map tx).flatMap cStr).toArray 9) := by
  obtain ⟨m, hm⟩ := h
  have hc1 : 1 ≤ (⟨#[c]⟩ : ByteArray).size := Nat.le_refl 1
  have hl : Lib.countB s ⟨#[c]⟩ + 1 = (cutL c s.data.toList).length := by
    have h1 := Lib.splitB_all ⟨#[c]⟩ hc1 0 _ s rfl
    rw [splitB_cut, List.length_map] at h1
    exact h1.symm
  refine (Any.strings_Split laysSp (by kernel_rfl) s ⟨#[c]⟩ m w (by omega) hm hc1).mono ?_
  rintro e w' ⟨rfl, rfl⟩
  rw [hl, splitB_cut, str_cells]
  exact ⟨rfl, rfl⟩
end Go.Proofs.YtaogegpfapfchaaGreatDoor

/- The walk of the desk's answer to a line. -/
namespace Go.Proofs.YtaogegpfapfchaaGreatDoor
open Go.RowKit
set_option linter.unusedVariables false

theorem deedD_bd {P : List Pg} (h : ∀ p ∈ P, p.Ok) (l : List ByteArray) {E : Nat} {P' : List Pg} (hd : deedD P l = (.error E, P')) : E ≤ 1000000 := by
  unfold deedD at hd
  split at hd
  · injection hd with h1; cases h1
  split at hd
  · injection hd with h1; injection h1 with h1; omega
  split at hd
  · injection hd with h1; injection h1 with h1; omega
  · rename_i d _
    injection hd with h1
    unfold doneD at h1
    split at h1
    · cases h1
    · injection h1 with h1
      have := (houseD_bd P d h).1
      obtain ⟨h2, h3⟩ := this
      omega
theorem eN_bd {E F : Nat} {s : ByteArray} (h : eN E s = .error F) (hE : E ≤ 1000) : F ≤ 1000000 := by
  unfold eN at h
  split at h
  · cases h
  · injection h with h; omega
theorem askD_bd (l : List ByteArray) {E : Nat} (h : askD l = .error E) : E ≤ 1000000 := by
  have w1 : ∀ s, wE s ≤ 1000 := fun s => by unfold wE; split <;> decide
  have w2 : ∀ s p, seekN s p ≤ 1000 := fun s p => by
    unfold seekN seekE
    split
    · decide
    · split <;> decide
  have w3 : ∀ s p, (de s p).toNat ≤ 1000 := fun s p => by unfold de; split <;> decide
  unfold askD at h
  split at h
  · injection h with h; omega
  split at h
  · exact eN_bd h (w1 _)
  split at h
  · exact eN_bd h (w2 _ _)
  split at h
  · exact eN_bd h (w1 _)
  split at h
  · exact eN_bd h (w1 _)
  split at h
  · exact eN_bd h (w3 _ _)
  · injection h with h; omega
theorem names_small {P : List Pg} (h : ∀ p ∈ P, nameE p.name = 0) : ∀ x ∈ namesB P, x.size ≤ 8 := fun x hx => by
  unfold namesB at hx
  obtain ⟨z, hz, rfl⟩ := List.mem_map.1 hx
  unfold namesP at hz
  obtain ⟨p, hp, rfl⟩ := List.mem_map.1 (List.mem_mergeSort.1 hz)
  have hn := h p hp
  unfold nameE at hn
  split at hn
  · cases hn
  · show p.name.size ≤ 8
    omega
theorem words_snoc (l : List ByteArray) (k : Nat) (x : ByteArray) (h : l[k]? = some x) : (l.take (k + 1)).filter (fun s => decide (s ≠ ⟨#[]⟩)) = (l.take k).filter (fun s => decide (s ≠ ⟨#[]⟩)) ++ if x = ⟨#[]⟩ then [] else [x] := by
  obtain ⟨hk, hx⟩ := List.getElem?_eq_some_iff.1 h
  rw [List.take_succ_eq_append_getElem hk, List.filter_append, hx]
  congr 1
  by_cases e : x = ⟨#[]⟩
  · rw [if_pos e, List.filter_cons_of_neg (by simpa using e)]; rfl
  · rw [if_neg e, List.filter_cons_of_pos (by simpa using e)]; rfl

set_option maxRecDepth 100000 in
set_option maxHeartbeats 2000000 in
theorem answer_any (w0 w : World) (gh gd : Nat) (K : Nat → Prop) (P : List Pg) (line : ByteArray) (h : LoneK w0 gh P K w) (ht0 : Tab w0) (hm0 : MaxL w0) (hd : Blk w gd 35 #[.pointer (some ⟨gh, 0, none⟩)]) (hK : K gd) (hl : line.size ≤ 4096) :
    Calls Tryz.prog 12 #[.pointer (some ⟨gd, 0, none⟩), .string line] w fun e w' => e = .returned (.string (ansD P line).1) ∧ DeskTo w0 gh K w (ansD P line).2 w' := by
  have ht := ht0.after h.below
  have hm := hm0.after h.below
  have hbO : Below w.heap.size w (w.alloc (Obj.cells #[.string ⟨#[]⟩] 9)) := (Below.refl _ _).alloc (Nat.le_refl _) _
  have SP := Lib.hid (split_any line 32 (by omega) (w.alloc (Obj.cells #[.string ⟨#[]⟩] 9)) (hm.after hbO))
  have hmf : ∀ (fn : Fn) (first cap : Array Value) (w : World), (Instr.makeFunc fn first cap).run Tryz.prog w = .ok (.func fn first cap) w := fun _ _ _ _ => rfl
  have hcl := cutL_len 32 line.data.toList
  have hlen : line.data.toList.length = line.size := rfl
  have hcnt : line.data.toList.count 32 ≤ line.size := by rw [← hlen]; exact List.count_le_length
  have hml : (cutL 32 line.data.toList).length ≤ 4097 := by omega
  have hpl : ∀ x ∈ (cutL 32 line.data.toList).map tx, x.size ≤ 4096 := fun x hx => by
    obtain ⟨p, hp, rfl⟩ := List.mem_map.1 hx
    have := hcl.2 p hp
    show p.length ≤ 4096
    omega
  have hW : wordsD line = ((cutL 32 line.data.toList).map tx).filter fun s => decide (s ≠ ⟨#[]⟩) := rfl
  have hml2 : ((cutL 32 line.data.toList).map tx).length = (cutL 32 line.data.toList).length := List.length_map _
  unfold ansD
  generalize hp : (cutL 32 line.data.toList).map tx = pc at *
  generalize hn : (cutL 32 line.data.toList).length = m at *
  generalize wordsD line = wd at *
  generalize hr : toldD P wd = r at *
  have HR := Lib.hid hr
  clear hr
  clear hcl hlen hcnt hp hn
  have HW := Lib.hid hW
  clear hW
  go_enter_defers Tryz.func12, Tryz.ntmps12
  go_wp2_with fail
  refine SP.out.mono ?_
  rintro e w1 ⟨rfl, hw1⟩
  have hs0 : (w.alloc (Obj.cells #[.string ⟨#[]⟩] 9)).heap.size = w.heap.size + 1 := by simp
  have hb1 : Below w.heap.size w w1 := by rw [hw1]; exact hbO.alloc (by omega) _
  have hO1 : Blk w1 w.heap.size 9 #[.string ⟨#[]⟩] := by rw [hw1]; exact (Blk.new w _ _).alloc _
  have hP1 : Blk w1 (w.heap.size + 1) 9 (pc.flatMap cStr).toArray := by rw [hw1, ← hs0]; exact Blk.new _ _ _
  have hs1 : w1.heap.size = w.heap.size + 2 := by rw [hw1]; simp
  rw [hs0]
  clear hw1 hs0
  have hpk : ∀ (k : Nat) (x : ByteArray), pc[k]? = some x → (pc.flatMap cStr).toArray[k]? = some (Value.string x) := fun k x hx => by
    rw [← str_cells, List.getElem?_toArray, List.getElem?_map, hx]; rfl
  have HP := Lib.hid hpk
  clear hpk
  go_wp2
  go_loopw [5, 7, 14] (fun ov _ i wr => ∃ (k : Nat) (A' : Option Addr) (n' c' : Nat), k ≤ m ∧ n' ≤ k ∧ i = .int .i64 k ∧ ov = .slice A' n' c' ∧ Hid (((pc.take k).filter fun s => decide (s ≠ ⟨#[]⟩)).length = n') ∧
    OwnK 9 1 wr (· < w1.heap.size) A' n' c' (((pc.take k).filter fun s => decide (s ≠ ⟨#[]⟩)).flatMap cStr) ∧ Below w1.heap.size w1 wr) (fun _ _ i _ => m - (intOf i).toNat)
  case atStart => exact ⟨0, none, 0, 0, Nat.zero_le _, Nat.le_refl _, rfl, rfl, Lib.hid rfl, OwnK.nil _ _ _ _, Below.refl _ _⟩
  case round =>
    obtain ⟨k, A', n', c', hk, hnk, rfl, rfl, Hn, hown, hbr⟩ := hrel
    by_cases hlt : k < m
    · obtain ⟨x, hx⟩ : ∃ x, pc[k]? = some x := ⟨_, List.getElem?_eq_getElem (by omega)⟩
      have c0 : wr.cell? ⟨w.heap.size + 1, k, none⟩ = some (.string x) := by
        rw [(hP1.below hbr (by omega)).cell k]
        exact HP.out k x hx
      have Hs := Lib.hid (words_snoc pc k x hx)
      clear hx
      by_cases hs : x = ⟨#[]⟩
      · have q1 : x.toList = [] := by rw [hs]; decide +kernel
        have q2 : x.toList.isEmpty = true := by rw [q1]; rfl
        have e := Hs.out
        rw [if_pos hs, List.append_nil] at e
        have E := Lib.hid e
        clear hs e
        go_wp2
        go_roundw
        case rel => exact ⟨k + 1, A', n', c', by omega, by omega, by go_num, rfl, by rw [E.out]; exact Hn, by rw [E.out]; exact hown, hbr⟩
        case measure => simp only [intOf]; omega
      · have q1 : ¬ x.toList = [] := fun h => hs (by rw [ByteArray.toList_eq] at h; exact str_ext h)
        have q2 : x.toList.isEmpty = false := by simpa using q1
        have e := Hs.out
        rw [if_neg hs] at e
        have E := Lib.hid e
        clear hs e
        have hbs := hbr.size
        obtain ⟨W, hW⟩ : ∃ W, W = wr.alloc (Obj.cells #[.string x] 9) := ⟨_, rfl⟩
        have hoa := hown.alloc (Obj.cells #[.string x] 9)
        have hba : Below w1.heap.size w1 (wr.alloc (Obj.cells #[.string x] 9)) := hbr.alloc hbs _
        have hWs : W.heap.size = wr.heap.size + 1 := by rw [hW]; simp
        have hcl : ∀ j, j < 1 → W.cell? ((⟨wr.heap.size, 0, none⟩ : Addr).add j) = ([.string x] : List Value)[j]? := fun j hj => by
          obtain rfl : j = 0 := by omega
          have := (Blk.new wr 9 #[.string x]).cell 0
          rw [← hW] at this
          rw [add_at]; exact this
        rw [← hW] at hoa hba
        have hk8 : n' ≤ 8000000000000 := by omega
        have hk9 : (n' + 1) * 16 ≤ 140737488355328 := by omega
        have hKl : ∀ j, j < w1.heap.size → j < W.heap.size := fun j hj => by omega
        have HW2 := Lib.hid hW
        have HWs := Lib.hid hWs
        clear hW hWs hown
        go_wp2_with (first | (at_builtin; go_must (rw [← HW2.out]; refine wpList_append_K rfl (.tmp 20) (.tmp 22) 22 rfl (· < w1.heap.size) (.string ByteArray.empty) 16 infoStrE Tryz.underlying22 rfl (by decide) (by decide) A' n' c' _ rfl hoa ⟨wr.heap.size, 0, none⟩ 1 [.string x] rfl rfl (by simp [Value.oneCell']) hcl hk9 hk8 hKl ?_); intro A3 c3 w3 hown3 hg3 hp3))
        have hb3 : Below w1.heap.size w1 w3 := hba.grown hg3 (by have := HWs.out; omega) (fun g hg => by have := (hoa.lt g hg).1; omega)
        clear hoa hcl hba
        go_wp2
        go_roundw
        case rel => exact ⟨k + 1, A3, n' + 1, c3, by omega, by omega, by go_num, rfl, Lib.hid (by rw [E.out, List.length_append, Hn.out]; rfl), by rw [E.out, List.flatMap_append]; exact hown3, hb3⟩
        case measure => simp only [intOf]; omega
    · obtain rfl : k = m := by omega
      have hall : (pc.take k).filter (fun s => decide (s ≠ ⟨#[]⟩)) = wd := by rw [List.take_of_length_le (by omega), ← HW.out]
      have hn := Hn.out
      rw [hall] at hn hown
      have hws : ∀ x ∈ wd, x.size ≤ 4096 := fun x hx => by
        rw [HW.out] at hx
        exact hpl x (List.mem_filter.1 hx).1
      have hb2 : Below w.heap.size w wr := chain hbr hb1
      have hlow := h.below.size
      have hgw : w.heap.size < wr.heap.size := (hO1.below hbr (by omega)).lt
      have DL := h.after hb2
      have DR : Door w0 w gh K P wr := ⟨DL.weak (fun b hb => hb.elim .inl fun e => .inr (by omega)), kept_below h.lt hb2, hO1.below hbr (by omega), ht.after hb2, hlow, h.lt⟩
      have hdr := hd.after hb2
      have hdc := hdr.cell 0
      have hnc := hown.cap
      clear hall Hn HP hP1 hO1 hpl hml2 SP hbO
      by_cases h0 : wd = []
      · have e : toldD P wd = (.error 12, P) := by unfold toldD; rw [if_pos h0]
        obtain rfl : r = (.error 12, P) := HR.out.symm.trans e
        obtain rfl : n' = 0 := by rw [← hn, h0]; rfl
        have M := Lib.hid (must_no 12 (by decide))
        clear e
        go_wp2_with fail
        refine (M.out _).mono ?_
        rintro e w3 ⟨rfl, rfl⟩
        exact door_no DR 12 (by decide) _ rfl
      · have hn1 : 0 < n' := by
          rcases Nat.eq_zero_or_pos n' with e | e
          · exact absurd (List.length_eq_zero_iff.1 (hn.trans e)) h0
          · exact e
        have q0 : ((n' : Int) == 0) = false := by rw [beq_eq_false_iff_ne]; omega
        by_cases h1 : wd = [kNames]
        · have e : toldD P wd = (.ok (⟨#[58]⟩ ++ joinB (namesB P)), P) := by unfold toldD; rw [if_neg h0, if_pos h1]
          obtain rfl : r = (.ok (⟨#[58]⟩ ++ joinB (namesB P)), P) := HR.out.symm.trans e
          obtain rfl : n' = 1 := by rw [← hn, h1]; rfl
          obtain ⟨g, o, rfl, hgl, hgn⟩ := hown.shape (by decide)
          have cn := (hown.cell 0 (by decide)).1
          rw [h1] at cn
          obtain ⟨x, hx⟩ : ∃ x, x = kNames := ⟨_, rfl⟩
          have cn : wr.cell? ⟨g, o, none⟩ = some (.string x) := by rw [hx]; exact cn
          have qx : x.toList = [110, 97, 109, 101, 115] := by rw [hx]; decide +kernel
          have hok := h.lone.ok
          have hPf := hok.few
          have hsm := names_small hok.nm
          have hnl := namesB_len P
          have hjl : (joinB (namesB P)).size ≤ P.length * (8 + 1) := by rw [← hnl]; exact join_le _ 8 hsm
          have N := Lib.hid (names_lone DL.lone)
          have J := Lib.hid (fun A n c (hn : (namesB P).length = n) (hc : n ≤ c) (w1 : World) r => joinSp_any A n c w1.heap.size (namesB P) hn hc (by omega) (fun x hx => by have := hsm x hx; omega) w1 r (Nat.le_refl _))
          have a1 : ∀ w, (Op.stringOp .add ⟨#[58]⟩ (joinB (namesB P))).run Tryz.prog w = .ok (.string (⟨#[58]⟩ ++ joinB (namesB P))) w := fun w => run_string_add_sum w _ _ (by show 1 + _ ≤ _; omega)
          clear e hx hsm hjl hok hown hws h1 h0
          generalize hjn : joinB (namesB P) = jn at *
          have HJ := Lib.hid hjn
          clear hjn
          go_wp2_with fail
          refine N.out.mono ?_
          rintro e w3 ⟨An, cn3, rfl, hon, hb3⟩
          have J2 := Lib.hid (J.out An P.length cn3 hnl hon.cap.1 w3 hon.toReads)
          go_wp2_with fail
          refine J2.out.mono ?_
          rintro e w4 ⟨rfl, hb4⟩
          have D4 := DR.after (chain hb4 hb3)
          have o0 := D4.cell.cell 0
          have z0 := D4.cell.frozen 0
          clear J2 J N hon
          go_wp2
          rw [HJ.out]
          exact door_yes D4 _ _ (by rfl)
        · have hreg : (n' = 1 ∧ ∃ g o x, A' = some ⟨g, o, none⟩ ∧ wr.cell? ⟨g, o, none⟩ = some (.string x) ∧ (x.toList == ([110, 97, 109, 101, 115] : List UInt8)) = false) ∨ ((n' : Int) == 1) = false := by
            by_cases hq : n' = 1
            · left
              obtain ⟨g, o, rfl, hgl, hgn⟩ := hown.shape (by omega)
              obtain ⟨x, hx⟩ : ∃ x, wd = [x] := List.length_eq_one_iff.1 (hn.trans hq)
              have cn := (hown.cell 0 (by omega)).1
              rw [hx] at cn
              refine ⟨hq, g, o, x, rfl, cn, ?_⟩
              rw [beq_eq_false_iff_ne]
              intro hh
              apply h1
              rw [hx]
              rw [ByteArray.toList_eq] at hh
              have hxk : x = kNames := str_ext hh
              rw [hxk]
            · right
              rw [beq_eq_false_iff_ne]; omega
          have hpg := h.lone.pg
          have DD := deed_any w0 wr gh gd n' c' wr.heap.size A' _ P wd DL (ht0.after DL.below) hdr (.inl hK) hn hn1 (by omega) (fun x hx => by have := hws x hx; omega) hown.toReads (Nat.le_refl _)
          have hkk : ∀ b, K b ∨ b = w.heap.size → K b ∨ (w.heap.size ≤ b ∧ b < wr.heap.size) := fun b hb => hb.elim .inl fun e => .inr (by omega)
          obtain ⟨v, P', hv⟩ : ∃ v P', deedD P wd = (v, P') := ⟨_, _, rfl⟩
          rw [hv] at DD
          have OW := Lib.hid (fun w3 (hT : DeskTo w0 gh (fun b => K b ∨ (w.heap.size ≤ b ∧ b < wr.heap.size)) wr P' w3) => hown.ofKept hT.2 (fun b hb hl => .inr ⟨by omega, hl⟩))
          have DF := Lib.hid (fun w3 (hT : DeskTo w0 gh (fun b => K b ∨ (w.heap.size ≤ b ∧ b < wr.heap.size)) wr P' w3) => DR.of ht0 hT hkk)
          have DD := Lib.hid DD
          clear hws hown hkk hdr DR
          cases v with
          | error E =>
            obtain rfl : r = (.error E, P') := HR.out.symm.trans (toldD_err h0 h1 hv)
            have hE := deedD_bd hpg wd hv
            clear hv h0 h1 hpg
            rcases hreg with ⟨rfl, g, o, x, rfl, cx, qx⟩ | qn
            all_goals
              go_wp2_with fail
              refine DD.out.mono ?_
              rintro e w3 ⟨rfl, hT⟩
              exact door_no (DF.out w3 hT) E hE _ rfl
          | ok so =>
            cases so with
            | some s =>
              obtain rfl : r = (.ok s, P') := HR.out.symm.trans (toldD_some h0 h1 hv)
              clear hv h0 h1 hpg
              have DD := Lib.hid (show Calls Tryz.prog 21 #[.pointer (some ⟨gd, 0, none⟩), .slice A' n' c'] wr fun e w' => e = .returned (.tuple #[.string s, .bool true]) ∧ DeskTo w0 gh (fun b => K b ∨ (w.heap.size ≤ b ∧ b < wr.heap.size)) wr P' w' from DD.out)
              rcases hreg with ⟨rfl, g, o, x, rfl, cx, qx⟩ | qn
              all_goals
                go_wp2_with fail
                refine DD.out.mono ?_
                rintro e w3 ⟨rfl, hT⟩
                have D3 := DF.out w3 hT
                have o0 := D3.cell.cell 0
                have z0 := D3.cell.frozen 0
                go_wp2
                exact door_yes D3 _ _ (by rfl)
            | none =>
              obtain ⟨ak, hak⟩ : ∃ ak, askD wd = ak := ⟨_, rfl⟩
              obtain rfl : r = (ak, P') := by rw [← hak]; exact HR.out.symm.trans (toldD_none h0 h1 hv)
              clear hv h0 h1 hpg
              have DD := Lib.hid (show Calls Tryz.prog 21 #[.pointer (some ⟨gd, 0, none⟩), .slice A' n' c'] wr fun e w' => e = .returned (.tuple #[.string ⟨#[]⟩, .bool false]) ∧ DeskTo w0 gh (fun b => K b ∨ (w.heap.size ≤ b ∧ b < wr.heap.size)) wr P' w' from DD.out)
              have AK := fun w3 hT => asked_any A' n' c' w3.heap.size wd hn (by omega) w3 (OW.out w3 hT).toReads (Nat.le_refl _) (DF.out w3 hT).tab
              simp only [hak] at AK
              have AK := Lib.hid AK
              have hbd2 := fun E (e : ak = .error E) => askD_bd wd (E := E) (hak.trans e)
              clear hak
              rcases hreg with ⟨rfl, g, o, x, rfl, cx, qx⟩ | qn
              all_goals
                go_wp2_with fail
                refine DD.out.mono ?_
                rintro e w3 ⟨rfl, hT⟩
                have D3 := DF.out w3 hT
                have AK2 := Lib.hid (AK.out w3 hT)
                clear AK
                cases ak with
                | error E =>
                  have hE := hbd2 E rfl
                  clear hbd2
                  have AK2 := Lib.hid (show Calls Tryz.prog 22 _ w3 fun e w' => e = .panicked (thrown E) ∧ Below w3.heap.size w3 w' from AK2.out)
                  go_wp2_with fail
                  refine AK2.out.mono ?_
                  rintro e w4 ⟨rfl, hb4⟩
                  exact door_no (D3.after hb4) E hE _ rfl
                | ok s =>
                  have AK2 := Lib.hid (show Calls Tryz.prog 22 _ w3 fun e w' => e = .returned (.string s) ∧ Below w3.heap.size w3 w' from AK2.out)
                  go_wp2_with fail
                  refine AK2.out.mono ?_
                  rintro e w4 ⟨rfl, hb4⟩
                  have D4 := D3.after hb4
                  have o0 := D4.cell.cell 0
                  have z0 := D4.cell.frozen 0
                  go_wp2
                  exact door_yes D4 _ _ (by rfl)
end Go.Proofs.YtaogegpfapfchaaGreatDoor

