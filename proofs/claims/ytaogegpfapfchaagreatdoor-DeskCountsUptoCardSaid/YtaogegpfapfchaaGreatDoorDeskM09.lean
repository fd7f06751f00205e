import Derived.Test.YtaogegpfapfchaaGreatDoorRows
import Derived.Test.YtaogegpfapfchaaGreatDoorDeskM04
import Derived.ProofKit
import Derived.Deep.Slices
import Derived.Deep.Strs
import Derived.SizedLaws
import Derived.OpenShut
import Derived.ChangeOld
/- Several texts in one: XArgs. -/
/- Slices among the arguments, read as lists: for each element type the list, its length, that its cells lie there, and that it fits the form's own reach. -/
namespace Go.Proofs.YtaogegpfapfchaaGreatDoor
open Go.RowKit Go.Deep Go.ChangeShapes Go.WideShapes
set_option linter.unusedVariables false

section
variable {H : Type} {enc : TypeId × Value → H} {P : Program} {w : World} {sp : Nat → Bool} {held : Bool}

theorem mem_weightsAll {e : TypeId} {n : Nat} : ∀ {l : List (DataW H)} {d : DataW H}, d ∈ l → n ∈ d.weights P e → n ∈ DataW.weightsAll P e l
  | [], _, h, _ => by cases h
  | x :: l, d, h, hn => by
    rw [DataW.weightsAll, List.mem_append]
    rcases List.mem_cons.1 h with rfl | h
    · exact .inl hn
    · exact .inr (mem_weightsAll h hn)

theorem list_of_2 {α : Type} : ∀ {l : List α}, l.length = 2 → ∃ a b, l = [a, b]
  | [a, b], _ => ⟨a, b, rfl⟩
  | [], h => by simp at h
  | [_], h => by simp at h
  | _ :: _ :: _ :: _, h => by simp at h
theorem list_of_3 {α : Type} : ∀ {l : List α}, l.length = 3 → ∃ a b c, l = [a, b, c]
  | [a, b, c], _ => ⟨a, b, c, rfl⟩
  | [], h => by simp at h
  | [_], h => by simp at h
  | [_, _], h => by simp at h
  | _ :: _ :: _ :: _ :: _, h => by simp at h
theorem weights_third {t : TypeId} {fs : Array Field} (ht : P.underlying t = some (.struct fs)) (hn : fs.toList.length = 3) (a b : DataW H × List MemPlace) (s : List UInt8) :
    s.length ∈ DataW.weights P t (.agg (([a, b, (.lit (.string s), [])] : List (DataW H × List MemPlace)).map (·.1))) := by
  obtain ⟨f0, f1, f2, h⟩ := list_of_3 hn
  simp [DataW.weights, ht, h, DataW.weightsEach]

/-- A slice that came in reads as a list. -/
theorem slice_in {α : Type} [Inhabited α] (f : α → List Value) (Q : α → Prop) (size bytes : Nat) {t e : TypeId} (ht : P.underlying t = some (.slice e)) (ce : P.cellsOf e = size) (be : P.bytesOf e = bytes) (hs : 0 < size) (hf : ∀ x, (f x).length = size)
    (hel : ∀ n cs' (y : DataW H × List MemPlace), DataW.trod enc P w 0 sp held n e cs' = some y → (∀ m ∈ y.1.weights P e, m ≤ reachBytes) → ∃ x : α, cs' = f x ∧ Q x)
    {A : Option Addr} {len cap : Nat} {d : DataW H} {p : List MemPlace} (h : DataW.Trod enc P w 0 sp held t (.slice A len cap) d p) (lt : ∀ x ∈ p, x.block < w.heap.size) (hw : ∀ m ∈ d.weights P t, m ≤ reachBytes) :
    ∃ l : List α, l.length = len ∧ Reads w w.heap.size A len size (l.flatMap f) ∧ len * bytes ≤ 140737488351232 ∧ (∀ x ∈ l, Q x) ∧ len ≤ cap ∧ cap ≤ maxLen ∧ (A = none → cap = 0) := by
  obtain ⟨fuel, hf'⟩ := h
  rcases open_slice ht hf' with ⟨hcs, hx⟩ | ⟨a, len', cap', m, n, D, Pl, hcs, _, hl, hm, hmm, hx, hall⟩
  · simp [Value.cells] at hcs
    obtain ⟨rfl, rfl, rfl⟩ := hcs
    exact ⟨[], rfl, ⟨by simp, fun h => absurd h (by omega)⟩, by omega, (fun x hx => by cases hx), Nat.le_refl _, Nat.zero_le _, fun _ => rfl⟩
  · simp [Value.cells] at hcs
    obtain ⟨rfl, rfl, rfl⟩ := hcs
    simp only [Prod.mk.injEq] at hx
    obtain ⟨rfl, rfl⟩ := hx
    have hlm : len ≤ m := by rw [hmm]; split <;> omega
    have hwl : len * bytes ≤ 140737488351232 := by
      have h1 := hw ((((List.range len).map D).length + ((List.range (m - len)).map fun j => D (len + j)).length) * P.bytesOf e) (by simp only [DataW.weights, ht, List.mem_cons]; exact .inl trivial)
      rw [List.length_map, List.length_range, List.length_map, List.length_range, be] at h1
      have h2 : len * bytes ≤ (len + (m - len)) * bytes := Nat.mul_le_mul_right _ (by omega)
      unfold reachBytes at h1
      omega
    have each : ∀ i, i < len → ∃ x : α, w.cells? 0 (a.add (i * size)) size = some (f x) ∧ Q x := by
      intro i hi
      obtain ⟨cs', h1, h2⟩ := hall i (by omega)
      obtain ⟨x, hx, hq⟩ := hel n cs' _ h2 (fun q hq => hw q (by
        simp only [DataW.weights, ht, List.mem_cons, List.mem_append]
        exact .inr (.inl (mem_weightsAll (List.mem_map.2 ⟨i, List.mem_range.2 hi, rfl⟩) hq))))
      subst hx
      rw [ce] at h1
      exact ⟨x, h1, hq⟩
    obtain ⟨g, hg⟩ := choose_lt each
    refine ⟨(List.range len).map g, by simp, ⟨?_, fun hn => ?_⟩, hwl, (fun x hx => ?_), hl, hm, fun h => by cases h⟩
    · rw [flat_length f size hf, List.length_map, List.length_range]
    · obtain ⟨b, off, spot⟩ := a
      have hc0 := (World.cells?_some (hg 0 hn).1).2.2 0 hs
      have hspot : spot = none := by
        have h3 : (f (g 0))[0]? = some ((f (g 0))[0]'(by rw [hf]; exact hs)) := List.getElem?_eq_getElem _
        rw [h3] at hc0
        simpa [Addr.add] using World.cell?_spot hc0
      subst hspot
      refine ⟨b, off, rfl, ?_, fun j hj => ?_⟩
      · exact lt (.cell b off) (List.mem_append_left _ (MemPlace.mem_row.2 ⟨0, by rw [ce]; exact Nat.mul_pos (by omega) hs, by simp⟩))
      · rw [flat_length f size hf, List.length_map, List.length_range] at hj
        have hjs : j / size < len := Nat.div_lt_of_lt_mul (by rw [Nat.mul_comm]; exact hj)
        have hjm : j % size < size := Nat.mod_lt _ hs
        have hc := (World.cells?_some (hg (j / size) hjs).1).2.2 (j % size) hjm
        have e1 : j = j / size * size + j % size := by rw [Nat.mul_comm]; exact (Nat.div_add_mod j size).symm
        have h4 : (((List.range len).map g).flatMap f).getD j undef = (f (g (j / size))).getD (j % size) undef := by
          conv => lhs; rw [e1]
          rw [flat_getD f size hf default _ _ _ (by rw [List.length_map, List.length_range]; exact hjs) hjm, List.getD_eq_getElem?_getD (l := (List.range len).map g)]
          simp [hjs]
        rw [h4, List.getD_eq_getElem?_getD, List.getElem?_eq_getElem (by rw [hf]; exact hjm)]
        rw [List.getElem?_eq_getElem (by rw [hf]; exact hjm)] at hc
        rw [add_add] at hc
        rw [← e1] at hc
        rw [← add_at]
        exact hc
    · obtain ⟨i, hi, rfl⟩ := List.mem_map.1 hx
      exact (hg i (List.mem_range.1 hi)).2
end

/-- What is known of each Run that came in. -/
def OkRun (x : UInt8 × Int) : Prop := (-9223372036854775808 ≤ x.2 ∧ x.2 ≤ 9223372036854775807)
def RunsIn (w : World) (A : Option Addr) (len cap : Nat) (l : List (UInt8 × Int)) : Prop := l.length = len ∧ Reads w w.heap.size A len 2 (l.flatMap cRun) ∧ len * 16 ≤ 140737488351232 ∧ (∀ x ∈ l, OkRun x) ∧ len ≤ cap ∧ cap ≤ maxLen ∧ (A = none → cap = 0)



/-- What is known of each Phrase that came in. -/
def OkPhrase (x : Int × UInt8) : Prop := (-9223372036854775808 ≤ x.1 ∧ x.1 ≤ 9223372036854775807)
def PhrasesIn (w : World) (A : Option Addr) (len cap : Nat) (l : List (Int × UInt8)) : Prop := l.length = len ∧ Reads w w.heap.size A len 2 (l.flatMap cPhrase) ∧ len * 16 ≤ 140737488351232 ∧ (∀ x ∈ l, OkPhrase x) ∧ len ≤ cap ∧ cap ≤ maxLen ∧ (A = none → cap = 0)



/-- What is known of each Edit that came in. -/
def OkEdit (x : Int × Int × ByteArray) : Prop := (-9223372036854775808 ≤ x.1 ∧ x.1 ≤ 9223372036854775807) ∧ (-9223372036854775808 ≤ x.2.1 ∧ x.2.1 ≤ 9223372036854775807) ∧ (x.2.2).size ≤ 140737488351232
def EditsIn (w : World) (A : Option Addr) (len cap : Nat) (l : List (Int × Int × ByteArray)) : Prop := l.length = len ∧ Reads w w.heap.size A len 3 (l.flatMap cEdit) ∧ len * 32 ≤ 140737488351232 ∧ (∀ x ∈ l, OkEdit x) ∧ len ≤ cap ∧ cap ≤ maxLen ∧ (A = none → cap = 0)
theorem edit_one {H : Type} {enc : TypeId × Value → H} {w : World} {sp : Nat → Bool} {n : Nat} {cs' : List Value} {y : DataW H × List MemPlace} (hy : DataW.trod enc Tryz.prog w 0 sp true n 73 cs' = some y)
    (hwy : ∀ m ∈ y.1.weights Tryz.prog 73, m ≤ reachBytes) : ∃ x : Int × Int × ByteArray, cs' = cEdit x ∧ OkEdit x := by
  have hu : ∃ fs : Array Field, Tryz.prog.underlying 73 = some (.struct fs) ∧ fs = Tryz.prog.fieldsOf 73 := ⟨_, by kernel_rfl, rfl⟩
  obtain ⟨xs, k, _, rfl, hl, hlen, hall⟩ := DataW.trod_struct (fs := Tryz.prog.fieldsOf 73) (by kernel_rfl) hy
  have hl' : cs'.length = 3 := hl.trans (by kernel_rfl)
  have hlen' : xs.length = 3 := hlen.trans (by kernel_rfl)
  obtain ⟨y0, y1, y2, rfl⟩ : ∃ y0 y1 y2, xs = [y0, y1, y2] := list_of_3 hlen'
  obtain ⟨v0, v1, v2, rfl⟩ : ∃ v0 v1 v2, cs' = [v0, v1, v2] := list_of_3 hl'
  have g0 : DataW.trod enc Tryz.prog w 0 sp true k 3 [v0] = some y0 := by
    have hm : ((Tryz.prog.fieldsOf 73)[0]?).map (fun fl => (fl.type, fl.offset, Tryz.prog.cellsOf fl.type)) = some (3, 0, 1) := by kernel_rfl
    obtain ⟨fl, hfl, he⟩ := Option.map_eq_some_iff.1 hm
    simp only [Prod.mk.injEq] at he
    obtain ⟨ht, ho, hc⟩ := he
    have := hall 0 fl hfl
    rw [hc, ho, ht] at this
    exact this
  have g1 : DataW.trod enc Tryz.prog w 0 sp true k 3 [v1] = some y1 := by
    have hm : ((Tryz.prog.fieldsOf 73)[1]?).map (fun fl => (fl.type, fl.offset, Tryz.prog.cellsOf fl.type)) = some (3, 1, 1) := by kernel_rfl
    obtain ⟨fl, hfl, he⟩ := Option.map_eq_some_iff.1 hm
    simp only [Prod.mk.injEq] at he
    obtain ⟨ht, ho, hc⟩ := he
    have := hall 1 fl hfl
    rw [hc, ho, ht] at this
    exact this
  have g2 : DataW.trod enc Tryz.prog w 0 sp true k 9 [v2] = some y2 := by
    have hm : ((Tryz.prog.fieldsOf 73)[2]?).map (fun fl => (fl.type, fl.offset, Tryz.prog.cellsOf fl.type)) = some (9, 2, 1) := by kernel_rfl
    obtain ⟨fl, hfl, he⟩ := Option.map_eq_some_iff.1 hm
    simp only [Prod.mk.injEq] at he
    obtain ⟨ht, ho, hc⟩ := he
    have := hall 2 fl hfl
    rw [hc, ho, ht] at this
    exact this
  obtain ⟨s0, e0, rfl, q0⟩ := DataW.trod_int Tryz.underlying3 g0
  injection e0 with e0 _
  subst e0
  have b0 := bounds_i64 q0
  obtain ⟨s1, e1, rfl, q1⟩ := DataW.trod_int Tryz.underlying3 g1
  injection e1 with e1 _
  subst e1
  have b1 := bounds_i64 q1
  obtain ⟨s2, e2, rfl, q2⟩ := DataW.trod_string Tryz.underlying9 g2
  injection e2 with e2 _
  subst e2
  have b2 : s2.data.toList.length ≤ reachBytes := hwy _ (weights_third (by kernel_rfl : Tryz.prog.underlying 73 = some (.struct (Tryz.prog.fieldsOf 73))) (by kernel_rfl) _ _ _)
  exact ⟨(s0, s1, s2), rfl, ⟨b0, b1, b2⟩⟩

theorem edits_in {H : Type} {enc : TypeId × Value → H} {w : World} {sp : Nat → Bool} {A : Option Addr} {len cap : Nat} {d : DataW H} {p : List MemPlace} (h : DataW.Trod enc Tryz.prog w 0 sp true 68 (.slice A len cap) d p) (lt : ∀ x ∈ p, x.block < w.heap.size)
    (hw : ∀ m ∈ d.weights Tryz.prog 68, m ≤ reachBytes) : ∃ l : List (Int × Int × ByteArray), EditsIn w A len cap l := by
  refine slice_in cEdit OkEdit 3 32 Tryz.underlying68 (by kernel_rfl) (by kernel_rfl) (by decide) cEdit_len ?_ h lt hw
  exact fun n cs' y hy hwy => edit_one hy hwy

set_option maxRecDepth 100000 in
theorem edit_val {H : Type} {enc : TypeId × Value → H} {w : World} {sp : Nat → Bool} {r : Reach} {b0 : Nat} {v : Value} {d : DataW H} {p : List MemPlace} (hval : Value.okWide Tryz.prog w r b0 73 v) (h : DataW.Trod enc Tryz.prog w 0 sp true 73 v d p)
    (hw : ∀ m ∈ d.weights Tryz.prog 73, m ≤ reachBytes) : ∃ x : Int × Int × ByteArray, v = .agg (cEdit x).toArray ∧ OkEdit x := by
  have hu : Tryz.prog.underlying 73 = some (.struct (Tryz.prog.fieldsOf 73)) := by kernel_rfl
  obtain ⟨cs, rfl, _⟩ := okWide_struct hu hval
  obtain ⟨fuel, hf⟩ := h
  obtain ⟨x, hx, hq⟩ := edit_one hf hw
  have hx : cs.toList = cEdit x := hx
  exact ⟨x, by rw [← hx], hq⟩

/-- What is known of each Op that came in. -/
def OkOp (x : Int × Int × UInt8) : Prop := (-9223372036854775808 ≤ x.1 ∧ x.1 ≤ 9223372036854775807) ∧ (-9223372036854775808 ≤ x.2.1 ∧ x.2.1 ≤ 9223372036854775807)
def OpsIn (w : World) (A : Option Addr) (len cap : Nat) (l : List (Int × Int × UInt8)) : Prop := l.length = len ∧ Reads w w.heap.size A len 3 (l.flatMap cOp) ∧ len * 24 ≤ 140737488351232 ∧ (∀ x ∈ l, OkOp x) ∧ len ≤ cap ∧ cap ≤ maxLen ∧ (A = none → cap = 0)



/-- What is known of each Hit that came in. -/
def OkHit (x : Int × Int) : Prop := (-9223372036854775808 ≤ x.1 ∧ x.1 ≤ 9223372036854775807) ∧ (-9223372036854775808 ≤ x.2 ∧ x.2 ≤ 9223372036854775807)
def HitsIn (w : World) (A : Option Addr) (len cap : Nat) (l : List (Int × Int)) : Prop := l.length = len ∧ Reads w w.heap.size A len 2 (l.flatMap cHit) ∧ len * 16 ≤ 140737488351232 ∧ (∀ x ∈ l, OkHit x) ∧ len ≤ cap ∧ cap ≤ maxLen ∧ (A = none → cap = 0)



/-- What is known of each Int that came in. -/
def OkInt (x : Int) : Prop := (-9223372036854775808 ≤ x ∧ x ≤ 9223372036854775807)
def IntsIn (w : World) (A : Option Addr) (len cap : Nat) (l : List (Int)) : Prop := l.length = len ∧ Reads w w.heap.size A len 1 (l.flatMap cInt) ∧ len * 8 ≤ 140737488351232 ∧ (∀ x ∈ l, OkInt x) ∧ len ≤ cap ∧ cap ≤ maxLen ∧ (A = none → cap = 0)
theorem int_one {H : Type} {enc : TypeId × Value → H} {w : World} {sp : Nat → Bool} {n : Nat} {cs' : List Value} {y : DataW H × List MemPlace} (hy : DataW.trod enc Tryz.prog w 0 sp true n 3 cs' = some y)
    (hwy : ∀ m ∈ y.1.weights Tryz.prog 3, m ≤ reachBytes) : ∃ x : Int, cs' = cInt x ∧ OkInt x := by
  obtain ⟨x, rfl, rfl, hx⟩ := DataW.trod_int Tryz.underlying3 hy
  have := bounds_i64 hx
  exact ⟨x, rfl, by unfold OkInt; omega⟩

theorem ints_in {H : Type} {enc : TypeId × Value → H} {w : World} {sp : Nat → Bool} {A : Option Addr} {len cap : Nat} {d : DataW H} {p : List MemPlace} (h : DataW.Trod enc Tryz.prog w 0 sp true 76 (.slice A len cap) d p) (lt : ∀ x ∈ p, x.block < w.heap.size)
    (hw : ∀ m ∈ d.weights Tryz.prog 76, m ≤ reachBytes) : ∃ l : List (Int), IntsIn w A len cap l := by
  refine slice_in cInt OkInt 1 8 Tryz.underlying76 (by kernel_rfl) (by kernel_rfl) (by decide) cInt_len ?_ h lt hw
  exact fun n cs' y hy hwy => int_one hy hwy

/-- What is known of each Str that came in. -/
def OkStr (x : ByteArray) : Prop := (x).size ≤ 140737488351232
def StrsIn (w : World) (A : Option Addr) (len cap : Nat) (l : List (ByteArray)) : Prop := l.length = len ∧ Reads w w.heap.size A len 1 (l.flatMap cStr) ∧ len * 16 ≤ 140737488351232 ∧ (∀ x ∈ l, OkStr x) ∧ len ≤ cap ∧ cap ≤ maxLen ∧ (A = none → cap = 0)
theorem str_one {H : Type} {enc : TypeId × Value → H} {w : World} {sp : Nat → Bool} {n : Nat} {cs' : List Value} {y : DataW H × List MemPlace} (hy : DataW.trod enc Tryz.prog w 0 sp true n 9 cs' = some y)
    (hwy : ∀ m ∈ y.1.weights Tryz.prog 9, m ≤ reachBytes) : ∃ x : ByteArray, cs' = cStr x ∧ OkStr x := by
  obtain ⟨s, rfl, rfl, hs⟩ := DataW.trod_string Tryz.underlying9 hy
  exact ⟨s, rfl, by have := hwy s.data.toList.length (by simp [DataW.weights]); unfold reachBytes at this; exact this⟩

theorem strs_in {H : Type} {enc : TypeId × Value → H} {w : World} {sp : Nat → Bool} {A : Option Addr} {len cap : Nat} {d : DataW H} {p : List MemPlace} (h : DataW.Trod enc Tryz.prog w 0 sp true 22 (.slice A len cap) d p) (lt : ∀ x ∈ p, x.block < w.heap.size)
    (hw : ∀ m ∈ d.weights Tryz.prog 22, m ≤ reachBytes) : ∃ l : List (ByteArray), StrsIn w A len cap l := by
  refine slice_in cStr OkStr 1 16 Tryz.underlying22 (by kernel_rfl) (by kernel_rfl) (by decide) cStr_len ?_ h lt hw
  exact fun n cs' y hy hwy => str_one hy hwy

/-- What is known of each Byte that came in. -/
def OkByte (x : UInt8) : Prop := True
def BytesIn (w : World) (A : Option Addr) (len cap : Nat) (l : List (UInt8)) : Prop := l.length = len ∧ Reads w w.heap.size A len 1 (l.flatMap cByte) ∧ len * 1 ≤ 140737488351232 ∧ (∀ x ∈ l, OkByte x) ∧ len ≤ cap ∧ cap ≤ maxLen ∧ (A = none → cap = 0)
theorem byte_one {H : Type} {enc : TypeId × Value → H} {w : World} {sp : Nat → Bool} {n : Nat} {cs' : List Value} {y : DataW H × List MemPlace} (hy : DataW.trod enc Tryz.prog w 0 sp true n 5 cs' = some y)
    (hwy : ∀ m ∈ y.1.weights Tryz.prog 5, m ≤ reachBytes) : ∃ x : UInt8, cs' = cByte x ∧ OkByte x := by
  obtain ⟨x, rfl, rfl, hx⟩ := DataW.trod_int Tryz.underlying5 hy
  have := bounds_u8 hx
  exact ⟨UInt8.ofNat x.toNat, by simp [cByte]; omega, trivial⟩

theorem bytes_in {H : Type} {enc : TypeId × Value → H} {w : World} {sp : Nat → Bool} {A : Option Addr} {len cap : Nat} {d : DataW H} {p : List MemPlace} (h : DataW.Trod enc Tryz.prog w 0 sp true 54 (.slice A len cap) d p) (lt : ∀ x ∈ p, x.block < w.heap.size)
    (hw : ∀ m ∈ d.weights Tryz.prog 54, m ≤ reachBytes) : ∃ l : List (UInt8), BytesIn w A len cap l := by
  refine slice_in cByte OkByte 1 1 Tryz.underlying54 (by kernel_rfl) (by kernel_rfl) (by decide) cByte_len ?_ h lt hw
  exact fun n cs' y hy hwy => byte_one hy hwy

/-- What is known of each Errno that came in. -/
def OkErrno (x : Int) : Prop := (-9223372036854775808 ≤ x ∧ x ≤ 9223372036854775807)
def ErrnosIn (w : World) (A : Option Addr) (len cap : Nat) (l : List (Int)) : Prop := l.length = len ∧ Reads w w.heap.size A len 1 (l.flatMap cErrno) ∧ len * 8 ≤ 140737488351232 ∧ (∀ x ∈ l, OkErrno x) ∧ len ≤ cap ∧ cap ≤ maxLen ∧ (A = none → cap = 0)
theorem errno_one {H : Type} {enc : TypeId × Value → H} {w : World} {sp : Nat → Bool} {n : Nat} {cs' : List Value} {y : DataW H × List MemPlace} (hy : DataW.trod enc Tryz.prog w 0 sp true n 23 cs' = some y)
    (hwy : ∀ m ∈ y.1.weights Tryz.prog 23, m ≤ reachBytes) : ∃ x : Int, cs' = cErrno x ∧ OkErrno x := by
  obtain ⟨x, rfl, rfl, hx⟩ := DataW.trod_int Tryz.underlying23 hy
  have := bounds_i64 hx
  exact ⟨x, rfl, by unfold OkErrno; omega⟩




end Go.Proofs.YtaogegpfapfchaaGreatDoor

