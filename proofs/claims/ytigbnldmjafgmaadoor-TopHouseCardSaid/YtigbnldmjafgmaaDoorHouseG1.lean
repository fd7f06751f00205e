import Derived.Test.YtigbnldmjafgmaaDoorLib
import Derived.Test.YtigbnldmjafgmaaDoorSameTable
import Derived.Test.YtigbnldmjafgmaaDoorStruct
import Derived.Deep.DeepMust
import Derived.Test.YtigbnldmjafgmaaDoorRows
import Derived.Test.YtigbnldmjafgmaaDoorApply
import Derived.Test.YtigbnldmjafgmaaDoorArgs
import Derived.Test.YtigbnldmjafgmaaDoorSlice
import Derived.Test.YtigbnldmjafgmaaDoorDiffP
import Derived.Test.YtigbnldmjafgmaaDoorEqual
import Derived.Test.YtigbnldmjafgmaaDoorGood
import Derived.Test.YtigbnldmjafgmaaDoorLeafPack
import Derived.Laws.IdiomStrings
import Derived.Lib.FrozenHead
import Derived.Deep.RegionHeldLaw
import Derived.Deep.RegionLaw
import Derived.BigRegion
import Derived.Deep.RegionHeld3
import Derived.BigQuiet
/- Several texts in one: XApart XSameWalk XDiffCost XPlacesWalk XKeep XEditLaws XDiffWalk XDiffLaws XDiffLeast XDiffMakes XHouseP XTail XOwnS XEditor XOwnK XHouseMem XHouseLeaf XHouseEdit XHouseStep XHousePack XHouseName XHouseFind XHouseBegin XClearK. -/
/- append(out, x..) beside another row of the same kind: where the new row lies. -/
namespace Go.Proofs.YtigbnldmjafgmaaDoor
open Go.RowKit
set_option linter.unusedVariables false

/-- The row behind an append lies where it lay, or in a new block. -/
theorem append_place {P : Program} {w : World} (base : Nat) (t ty e : TypeId) (i : TypeInfo) (z : Value) (ht : P.underlying t = some (.slice e)) (hi : P.info? e = some i) (hz : i.zero = some z)
    (hzs : z.cells.size = i.size) (hsz : 0 < i.size)
    (v : Value) (n : Nat) (xs : List Value) (hown : w.ownsRow base e i.size v n xs)
    (a : Addr) (m c : Nat) (news : List Value) (hl : news.length = m * i.size) (hnews : ∀ j u, news[j]? = some u → w.cell? (a.add j) = some u) (h1 : ∀ u ∈ news, u.oneCell' = true)
    (h63 : n + m ≤ maxLen) (hbytes : (n + m) * i.bytes ≤ 140737488355328) {v' : Value} {w' : World} (hrun : (Builtin.append_ #[t, t] ty #[v, .slice (some a) m c]).run P w = .ok v' w') :
    ∀ k, v'.ownBlock = some k → v.ownBlock = some k ∨ k = w.heap.size := by
  have hsmall : n + m ≤ 9223372036854775807 := by simp only [maxLen] at h63; omega
  rcases hown.2 with ⟨rfl, rfl⟩ | ⟨g, cap, cur, rfl, hbg, hg, hnc, hcm, hcs, htake⟩
  · by_cases hm : m = 0
    · subst hm
      have hn : news = [] := List.eq_nil_of_length_eq_zero (by simpa using hl)
      subst hn
      have h2 : (Builtin.append_ #[t, t] ty #[.slice none 0 0, .slice (some a) 0 c]).run P w = .ok (.slice none 0 0) w := by
        simp [Builtin.append_, run_underlying ht, sizeOf, typeInfo, hi, Builtin.lenOf, Builtin.firstCells, loadCells, loadCellsFrom]
      rw [h2] at hrun
      injection hrun with e1 _
      subst e1
      intro k hk
      exact .inl hk
    · have h2 := run_append_nil (P := P) w t ty e i z ht hi hz a m c news hl hnews (by omega) (by omega) (by have hb := hbytes; simp only [Nat.zero_add] at hb; omega)
      rw [h2] at hrun
      injection hrun with e1 _
      subst e1
      intro k hk
      right
      simp [Value.ownBlock] at hk
      exact hk.symm
  · by_cases hroom : n + m ≤ cap
    · have hfit : n * i.size + news.length ≤ cur.size := by rw [hl, hcs, ← Nat.add_mul]; exact Nat.mul_le_mul_right _ hroom
      have h2 := run_append_room (P := P) w t ty e i ht hi g n cap cur hg a m c news hl hnews h1 hroom hfit
      rw [h2] at hrun
      injection hrun with e1 _
      subst e1
      intro k hk
      exact .inl hk
    · have holds : ∀ j u, xs[j]? = some u → w.cell? ((⟨g, 0, none⟩ : Addr).add j) = some u := hown.cells (g := g) rfl
      have h2 := run_append_grow (P := P) w t ty e i z ht hi hz ⟨g, 0, none⟩ n cap xs hown.1 holds a m c news hl hnews (by omega) (by omega) (growslice_fits (by omega) hbytes)
      rw [h2] at hrun
      injection hrun with e1 _
      subst e1
      intro k hk
      right
      simp [Value.ownBlock] at hk
      exact hk.symm

/-- wpList_append_new, and where the new row lies. -/
theorem wpList_append_apart {P : Program} (wr : World) {ops : Array Oper} {rest : List Oper} {o : Oper} {a : Act} {Q : Exit → Act → World → Prop} (t : TypeId) (s x : Operand) (hgd : o.guard = none)
    (ho : o.op = .call { callee := .builtin .append, args := #[s, x], argTypes := #[t, t] }) (base : Nat) (e : TypeId) {z : Value} {size bytes : Nat}
    (hinfo : (P.info? e).map (fun i => (i.zero, i.size, i.bytes)) = some (some z, size, bytes)) (ht : P.underlying t = some (.slice e)) (hzs : z.cells.size = size) (hsz : 0 < size)
    (A : Option Addr) (n c : Nat) (xs : List Value) (hs : a.eval s = .slice A n c) (hown : wr.ownsRow base e size (.slice A n c) n xs)
    (news : Array Value) (m : Nat) (hx : a.eval x = .slice (some ⟨wr.heap.size, 0, none⟩) m m) (hm : news.size = m * size) (h1 : ∀ u ∈ news.toList, u.oneCell' = true)
    (h63 : n + m ≤ maxLen) (hbytes : (n + m) * bytes ≤ 140737488355328) (hbase : base ≤ wr.heap.size)
    (h : ∀ A' c' w1, w1.ownsRow base e size (.slice A' (n + m) c') (n + m) (xs ++ news.toList) → Below base wr w1 → wr.grownBy w1 (Value.slice A n c).ownBlock →
      (∀ k, (Value.slice A' (n + m) c').ownBlock = some k → (Value.slice A n c).ownBlock = some k ∨ wr.heap.size ≤ k) → wpList P ops Q rest (a.put o.dst (.slice A' (n + m) c')) w1) :
    wpList P ops Q (o :: rest) a (wr.alloc (.cells news e)) := by
  obtain ⟨i0, hi, hz0, hz1, hz2⟩ := info_parts hinfo
  subst hz1 hz2
  have hn : ∀ j u, news.toList[j]? = some u → (wr.alloc (.cells news e)).cell? ((⟨wr.heap.size, 0, none⟩ : Addr).add j) = some u := fun j u hj => by
    rw [add_zero, World.cell?_alloc_mark, ← Array.getElem?_toList]
    exact hj
  obtain ⟨v', w1, hr, hown', hgrow, _⟩ := run_append_own (P := P) (wr.alloc (.cells news e)) base t o.type e i0 z i0.size i0.bytes ht hi hz0 rfl rfl hzs hsz (.slice A n c) n xs (hown.alloc _) ⟨wr.heap.size, 0, none⟩ m m news.toList (by simpa using hm) hn h1 h63 hbytes (by simp; omega)
  have hpl := append_place (P := P) base t o.type e i0 z ht hi hz0 hzs hsz (.slice A n c) n xs (hown.alloc (.cells news e)) ⟨wr.heap.size, 0, none⟩ m m news.toList (by simpa using hm) hn h1 h63 hbytes hr
  refine wpList_plain hgd fun K hK => ?_
  unfold Oper.wp execOp
  simp only [ho, resolve, invoke, builtin, Sem.run_bind, Sem.run_pure, Result.andThen_ok, List.map_toArray, List.map_cons, List.map_nil, hs, hx, hr]
  refine hK _ _ ?_
  obtain ⟨A', c', rfl, _⟩ := own_shape hown'
  have hg : wr.grownBy w1 (Value.slice A n c).ownBlock := by
    refine ⟨hgrow.os, hgrow.tape, hgrow.output, ?_, fun k hk hne => ?_⟩
    · have := hgrow.size; simp at this; omega
    · rw [hgrow.block k (by simp; omega) hne]
      exact Below.heap_alloc wr _ k hk
  refine h A' c' w1 hown' ((Below.refl base wr).grown hg hbase (fun k hk => (hown.lt k hk).1)) hg fun k hk => (hpl k hk).imp id fun e => ?_
  rw [e]; simp

end Go.Proofs.YtigbnldmjafgmaaDoor

/- The walks of same.Long, same.Within and same.Places. -/
namespace Go.Proofs.YtigbnldmjafgmaaDoor
open Go.RowKit
set_option linter.unusedVariables false

set_option maxHeartbeats 1000000 in
theorem long_ok (a b : ByteArray) (ha : a.size ≤ 200) (hb : b.size ≤ 200) (w : World) :
    Calls Tryd.prog 79 #[.string a, .string b] w fun e w' => e = .returned (.tuple #[.int .i64 (lcs a.data.toList b.data.toList : Nat), .int .i64 0]) ∧ Below w.heap.size w w' := by
  go_enter Tryd.func79, Tryd.ntmps79
  go_wp2_with fail
  refine (sameCheck_ok a b ha hb _).mono ?_
  rintro e w1 ⟨rfl, rfl⟩
  go_wp2_with fail
  refine (table_ok a b ha hb _).mono ?_
  rintro e w1 ⟨rfl, hg, hb1⟩
  have r0 := hg.row 0 (Nat.zero_le _)
  have c0 := hg.cell 0 0 (Nat.zero_le _) (Nat.zero_le _)
  have e0 : pl a.data.toList b.data.toList 0 0 = lcs a.data.toList b.data.toList := rfl
  rw [e0] at c0
  clear hg e0
  go_wp2
  go_ret2
  exact ⟨rfl, hb1⟩

set_option maxHeartbeats 400000 in
theorem long_no (a b : ByteArray) (h : 200 < a.size ∨ 200 < b.size) (w : World) :
    Calls Tryd.prog 79 #[.string a, .string b] w fun e w' => e = .returned (.tuple #[.int .i64 0, .int .i64 2]) ∧ w = w' := by
  go_enter Tryd.func79, Tryd.ntmps79
  go_wp2_with fail
  refine (sameCheck_no a b h _).mono ?_
  rintro e w1 ⟨rfl, rfl⟩
  go_wp2
  go_ret2
  exact ⟨rfl, rfl⟩



end Go.Proofs.YtigbnldmjafgmaaDoor

/- The walk of diff.Cost. -/
namespace Go.Proofs.YtigbnldmjafgmaaDoor
open Go.RowKit
set_option linter.unusedVariables false

/-- What Cost answers: the number, the error. -/
def cv (a b : ByteArray) : Int := if a.size ≤ 200 ∧ b.size ≤ 200 then (a.size : Int) + b.size - 2 * (lcs a.data.toList b.data.toList : Nat) else 0
def ce (a b : ByteArray) : Int := if a.size ≤ 200 ∧ b.size ≤ 200 then 0 else 2
theorem cv_ok {a b : ByteArray} (h : a.size ≤ 200 ∧ b.size ≤ 200) : cv a b = (a.size : Int) + b.size - 2 * (lcs a.data.toList b.data.toList : Nat) := by unfold cv; rw [if_pos h]
theorem ce_ok {a b : ByteArray} (h : a.size ≤ 200 ∧ b.size ≤ 200) : ce a b = 0 := by unfold ce; rw [if_pos h]
theorem cv_bd (a b : ByteArray) : 0 ≤ cv a b ∧ cv a b ≤ 400 := by
  by_cases h : a.size ≤ 200 ∧ b.size ≤ 200
  · rw [cv_ok h]
    have h1 := lcs_le_left a.data.toList b.data.toList
    have h2 := lcs_le_right a.data.toList b.data.toList
    rw [show a.data.toList.length = a.size from rfl] at h1
    rw [show b.data.toList.length = b.size from rfl] at h2
    omega
  · unfold cv; rw [if_neg h]; omega

theorem cost_any (a b : ByteArray) (w : World) :
    Calls Tryd.prog 61 #[.string a, .string b] w fun e w' => e = .returned (.tuple #[.int .i64 (cv a b), .int .i64 (ce a b)]) ∧ Below w.heap.size w w' := by
  by_cases h : a.size ≤ 200 ∧ b.size ≤ 200
  · rw [cv_ok h, ce_ok h]
    have h1 := lcs_le_left a.data.toList b.data.toList
    rw [show a.data.toList.length = a.size from rfl] at h1
    have hlo := long_ok a b h.1 h.2
    have HL := Lib.hid hlo
    generalize lcs a.data.toList b.data.toList = L at *
    obtain ⟨ha, hb⟩ := h
    clear hlo
    go_enter Tryd.func61, Tryd.ntmps61
    go_wp2_with fail
    refine (HL.out w).mono ?_
    rintro e w1 ⟨rfl, hb1⟩
    go_wp2
    go_ret2
    exact ⟨by simp, hb1⟩
  · have hc : cv a b = 0 := by unfold cv; rw [if_neg h]
    have he : ce a b = 2 := by unfold ce; rw [if_neg h]
    rw [hc, he]
    have h' : 200 < a.size ∨ 200 < b.size := by omega
    have HL := Lib.hid (long_no a b h')
    clear hc he h h'
    go_enter Tryd.func61, Tryd.ntmps61
    go_wp2_with fail
    refine (HL.out w).mono ?_
    rintro e w1 ⟨rfl, rfl⟩
    go_wp2
    go_ret2
    exact ⟨rfl, Below.refl _ _⟩

end Go.Proofs.YtigbnldmjafgmaaDoor

/- The walk of same.Places. -/
namespace Go.Proofs.YtigbnldmjafgmaaDoor
open Go.RowKit
set_option linter.unusedVariables false

def px (R : List (Nat × Nat)) : List Int := R.map fun p => ((p.1 : Nat) : Int)
def py (R : List (Nat × Nat)) : List Int := R.map fun p => ((p.2 : Nat) : Int)
theorem px_snoc (R : List (Nat × Nat)) (i k : Nat) : px (R ++ [(i, k)]) = px R ++ [(i : Int)] := by simp [px]
theorem py_snoc (R : List (Nat × Nat)) (i k : Nat) : py (R ++ [(i, k)]) = py R ++ [(k : Int)] := by simp [py]
theorem px_length (R : List (Nat × Nat)) : (px R).length = R.length := by simp [px]
theorem py_length (R : List (Nat × Nat)) : (py R).length = R.length := by simp [py]
/-- Two rows of the call's own lie apart. -/
def ApartV (v v' : Value) : Prop := ∀ g, v.ownBlock = some g → v'.ownBlock ≠ some g
theorem ApartV.symm {v v' : Value} (h : ApartV v v') : ApartV v' v := fun g h1 h2 => h g h2 h1
theorem ApartV.or {v v' : Value} (h : ApartV v v') : v.ownBlock = none ∨ v.ownBlock ≠ v'.ownBlock := by
  cases hv : v.ownBlock with
  | none => exact .inl rfl
  | some g => exact .inr fun e => h g hv e.symm
theorem ownCap {w : World} {B size n c : Nat} {e : TypeId} {A : Option Addr} {xs : List Value} (h : w.ownsRow B e size (.slice A n c) n xs) : n ≤ c := by
  rcases h.2 with ⟨h1, h0⟩ | ⟨g, cap, cur, h1, _, _, h2, _⟩
  · omega
  · injection h1 with _ _ h3
    omega

set_option maxRecDepth 100000 in
set_option maxHeartbeats 4000000 in
theorem places_walk (a b : ByteArray) (ha : a.size ≤ 200) (hb : b.size ≤ 200) (w : World) :
    Calls Tryd.prog 62 #[.string a, .string b] w fun e w' => ∃ A c A' c', e = .returned (.tuple #[.slice A (placesOf a.data.toList b.data.toList).length c, .slice A' (placesOf a.data.toList b.data.toList).length c', .int .i64 0]) ∧
      Reads w' w'.heap.size A (placesOf a.data.toList b.data.toList).length 1 ((px (placesOf a.data.toList b.data.toList)).flatMap cInt) ∧
      Reads w' w'.heap.size A' (placesOf a.data.toList b.data.toList).length 1 ((py (placesOf a.data.toList b.data.toList)).flatMap cInt) ∧ Below w.heap.size w w' ∧
      (placesOf a.data.toList b.data.toList).length ≤ c ∧ (placesOf a.data.toList b.data.toList).length ≤ c' := by
  have hpl := places_length a.data.toList b.data.toList
  have hll := lcs_le_left a.data.toList b.data.toList
  rw [← hpl, show a.data.toList.length = a.size from rfl] at hll
  have Hll := Lib.hid hll
  clear hpl hll
  go_enter Tryd.func62, Tryd.ntmps62
  go_wp2_with fail
  refine (sameCheck_ok a b ha hb _).mono ?_
  rintro e w1 ⟨rfl, rfl⟩
  go_wp2_with fail
  refine (table_ok a b ha hb _).mono ?_
  rintro e w1 ⟨rfl, hg, hb1⟩
  obtain ⟨B, hB⟩ : ∃ B, B = w1.heap.size := ⟨_, rfl⟩
  have hgB : w.heap.size + 1 + a.size < B := by rw [hB]; exact hg.lt
  have hB1 : B ≤ w1.heap.size := by omega
  have HB := Lib.hid hB
  clear hB
  generalize hgg : w.heap.size = g at *
  have Hgg := Lib.hid hgg
  clear hgg
  go_wp2
  go_loopw [9, 10, 11, 12] (fun xv yv iv kv wr => ∃ (i k f n : Nat) (P : List (Nat × Nat)) (A A' : Option Addr) (c c' : Nat), i ≤ a.size ∧ k ≤ b.size ∧ iv = .int .i64 i ∧ kv = .int .i64 k ∧ xv = .slice A n c ∧ yv = .slice A' n c' ∧
      Hid (P.length = n) ∧ Hid (a.size + b.size ≤ f + i + k) ∧ Hid (P ++ pw a.data.toList b.data.toList f i k = placesOf a.data.toList b.data.toList) ∧ ApartV (.slice A n c) (.slice A' n c') ∧
      wr.ownsRow B 3 1 (.slice A n c) n ((px P).flatMap cInt) ∧ wr.ownsRow B 3 1 (.slice A' n c') n ((py P).flatMap cInt) ∧
      GridAt wr g a.size b.size (pl a.data.toList b.data.toList) ∧ Below g w wr ∧ B ≤ wr.heap.size) (fun _ _ iv kv _ => (a.size - (intOf iv).toNat) + (b.size - (intOf kv).toNat))
  case atStart => exact ⟨0, 0, a.size + b.size, 0, [], none, none, 0, 0, Nat.zero_le _, Nat.zero_le _, rfl, rfl, rfl, rfl, rfl, Lib.hid (by omega), rfl, fun g h => by simp [Value.ownBlock] at h, World.ownsRow_nil _ _ _ _, World.ownsRow_nil _ _ _ _, hg, hb1, hB1⟩
  case round =>
    clear hg hb1 hB1
    obtain ⟨i, k, f, n, P, A, A', c, c', hi, hk, rfl, rfl, rfl, rfl, Hn, Hf, HP, hap, hx, hy, hg, hbr, hBr⟩ := hrel
    have hn200 : n ≤ 200 := by
      have h1 := congrArg List.length HP.out
      have h2 := Hll.out
      rw [List.length_append, Hn.out] at h1
      omega
    have r0 := hg.row i hi
    have c00 := hg.cell i k hi hk
    have hi' : (i : Int) < a.size + 1 := by omega
    have hk' : (k : Int) < b.size + 1 := by omega
    have hi'' : i < a.size + 1 := by omega
    have hk'' : k < b.size + 1 := by omega
    by_cases h0 : pl a.data.toList b.data.toList i k = 0
    · have hpw : pw a.data.toList b.data.toList f i k = [] := by
        cases f with
        | zero => rfl
        | succ f => rw [pw, if_pos h0]
      have hfin : P = placesOf a.data.toList b.data.toList := by have := HP.out; rwa [hpw, List.append_nil] at this
      rw [h0] at c00
      have Hfin := Lib.hid hfin
      clear hpw hfin h0
      go_wp2
      go_ret3
      have hn := Hn.out
      subst hn
      rw [← Hfin.out]
      exact ⟨A, c, A', c', rfl, Reads.of_own hx, Reads.of_own hy, by rw [Hgg.out]; exact hbr, ownCap hx, ownCap hy⟩
    · have hpos : 0 < pl a.data.toList b.data.toList i k := by omega
      obtain ⟨hia, hkb⟩ := pl_pos hpos
      have hia : i < a.size := hia
      have hkb : k < b.size := hkb
      have hst := pl_step a.data.toList b.data.toList i k hia hkb
      obtain ⟨f', rfl⟩ : ∃ f', f = f' + 1 := ⟨f - 1, by have := Hf.out; omega⟩
      have hpw : pw a.data.toList b.data.toList (f' + 1) i k = if a[i] = b[k] then (i, k) :: pw a.data.toList b.data.toList f' (i + 1) (k + 1)
          else if pl a.data.toList b.data.toList i (k + 1) ≤ pl a.data.toList b.data.toList (i + 1) k then pw a.data.toList b.data.toList f' (i + 1) k else pw a.data.toList b.data.toList f' i (k + 1) := by
        rw [pw, if_neg h0, getD_bytes a i hia, getD_bytes b k hkb]
      have r1 := hg.row (i + 1) (by omega)
      have c01 := hg.cell i (k + 1) hi (by omega)
      have c10 := hg.cell (i + 1) k (by omega) hk
      have Hpw := Lib.hid hpw
      have q0 : decide ((0 : Int) < (pl a.data.toList b.data.toList i k : Nat)) = true := decide_eq_true (by omega)
      have q0' : decide (0 < pl a.data.toList b.data.toList i k) = true := decide_eq_true hpos
      obtain ⟨Q, hQ⟩ : ∃ Q, i + 1 = Q := ⟨_, rfl⟩
      obtain ⟨C, hC⟩ : ∃ C, k + 1 = C := ⟨_, rfl⟩
      rw [hQ] at r1 c10
      rw [hC] at c01
      have wq : IntKind.i64.wrap ((i : Int) + 1) = (Q : Int) := by rw [IntKind.wrap_i64]; omega
      have wc : IntKind.i64.wrap ((k : Int) + 1) = (C : Int) := by rw [IntKind.wrap_i64]; omega
      have bq : (Q : Int) < a.size + 1 := by omega
      have bc : (C : Int) < b.size + 1 := by omega
      have bq' : Q < a.size + 1 := by omega
      have bc' : C < b.size + 1 := by omega
      have hia' : (i : Int) < a.size := by omega
      have hkb' : (k : Int) < b.size := by omega
      rw [hQ, hC] at hpw
      have Hpw := Lib.hid hpw
      have HQ := Lib.hid hQ
      have HC := Lib.hid hC
      clear hst hpw h0 hQ hC
      generalize pl a.data.toList b.data.toList i k = V at *
      generalize pl a.data.toList b.data.toList i C = V1 at *
      generalize pl a.data.toList b.data.toList Q k = V2 at *
      by_cases heq : a[i] = b[k]
      · have q1 : ((a[i].toNat : Int) == (b[k].toNat : Int)) = true := by rw [heq]; simp
        have hP2 : (P ++ [(i, k)]) ++ pw a.data.toList b.data.toList f' Q C = placesOf a.data.toList b.data.toList := by
          have := HP.out
          rw [Hpw.out, if_pos heq] at this
          rw [List.append_assoc]; exact this
        have HP2 := Lib.hid hP2
        clear heq hP2
        go_wp2
        go_quiet (fail)
        generalize hW : World.drewN _ _ = W
        have hx2 : W.ownsRow B 3 1 (.slice A n c) n ((px P).flatMap cInt) := by rw [← hW]; exact ownsRow_drewN hx _
        have hy2 : W.ownsRow B 3 1 (.slice A' n c') n ((py P).flatMap cInt) := by rw [← hW]; exact ownsRow_drewN hy _
        have hg2 : GridAt W g a.size b.size (pl a.data.toList b.data.toList) := by rw [← hW]; exact hg.drewN _
        have hbr2 : Below g w W := by rw [← hW]; exact below_drewN hbr _
        have hBr2 : B ≤ W.heap.size := by rw [← hW]; exact hBr
        have hlt2 := hy2.lt
        clear hW hx hy hg hbr hBr r0 r1 c00 c01 c10
        go_wp2_with (first
          | (at_builtin; refine wpList_append_apart _ 100 (.tmp 40) (.tmp 42) rfl rfl B 3 infoIntT Tryd.underlying100 rfl (by decide) _ _ _ _ rfl hx2 #[.int .i64 (i : Int)] 1 rfl rfl (by simp [Value.oneCell']) (by unfold maxLen; omega) (by omega) hBr2 ?_; intro A1 c1 w1 hx3 hb3 hg3 hp3)
          | (at_builtin; refine wpList_append_apart _ 100 (.tmp 44) (.tmp 46) rfl rfl B 3 infoIntT Tryd.underlying100 rfl (by decide) _ _ _ _ rfl (hy2.kept hg3 hap.symm.or) #[.int .i64 (k : Int)] 1 rfl rfl (by simp [Value.oneCell']) (by unfold maxLen; omega) (by omega) (by have := hb3.size; omega) ?_; intro A2 c2 w2 hy4 hb4 hg4 hp4))
        have hap3 : ApartV (.slice A1 (n + 1) c1) (.slice A' n c') := fun q h1 h2 => by
          rcases hp3 q h1 with h | h
          · exact hap q h h2
          · have := (hlt2 q h2).2; omega
        have hx4 := hx3.kept hg4 hap3.or
        have hap4 : ApartV (.slice A1 (n + 1) c1) (.slice A2 (n + 1) c2) := fun q h1 h2 => by
          rcases hp4 q h2 with h | h
          · exact hap3 q h1 h
          · have := (hx3.lt q h1).2; omega
        go_roundw
        case rel =>
          refine ⟨Q, C, f', n + 1, P ++ [(i, k)], A1, A2, c1, c2, by omega, by omega, rfl, rfl, rfl, rfl, Lib.hid (by rw [List.length_append, Hn.out]; rfl), Lib.hid ?_, HP2, hap4, ?_, ?_, ?_, ?_, ?_⟩
          · have := Hf.out; have := HQ.out; have := HC.out; omega
          · rw [px_snoc, flat_snoc]; exact hx4
          · rw [py_snoc, flat_snoc]; exact hy4
          · exact (hg2.below (hb3.trans hb4) (by omega))
          · exact hbr2.trans ((hb3.trans hb4).mono (by omega))
          · exact Nat.le_trans hBr2 (Nat.le_trans hb3.size hb4.size)
        case measure => have := HQ.out; have := HC.out; simp [intOf]; omega
      · have q1 : ((a[i].toNat : Int) == (b[k].toNat : Int)) = false := by rw [beq_eq_false_iff_ne]; intro h; exact heq (UInt8.toNat_inj.1 (by omega))
        by_cases hle : V1 ≤ V2
        · have q2 : decide (V1 ≤ V2) = true := decide_eq_true hle
          have q2' : decide ((V1 : Int) ≤ (V2 : Int)) = true := decide_eq_true (by omega)
          have hP2 : P ++ pw a.data.toList b.data.toList f' Q k = placesOf a.data.toList b.data.toList := by
            have := HP.out
            rw [Hpw.out, if_neg heq, if_pos hle] at this
            exact this
          have HP2 := Lib.hid hP2
          clear heq hP2
          go_wp2
          go_quiet (fail)
          go_wp2
          go_quiet (fail)
          go_wp2
          go_roundw
          case rel =>
            refine ⟨Q, k, f', n, P, A, A', c, c', by omega, by omega, rfl, rfl, rfl, rfl, Hn, Lib.hid ?_, HP2, hap, ownsRow_drewN hx _, ownsRow_drewN hy _, hg.drewN _, below_drewN hbr _, hBr⟩
            have := Hf.out; have := HQ.out; omega
          case measure => have := HQ.out; simp [intOf]; omega
        · have q2 : decide (V1 ≤ V2) = false := decide_eq_false hle
          have q2' : decide ((V1 : Int) ≤ (V2 : Int)) = false := decide_eq_false (by omega)
          have hP2 : P ++ pw a.data.toList b.data.toList f' i C = placesOf a.data.toList b.data.toList := by
            have := HP.out
            rw [Hpw.out, if_neg heq, if_neg hle] at this
            exact this
          have HP2 := Lib.hid hP2
          clear heq hP2
          go_wp2
          go_quiet (fail)
          go_wp2
          go_quiet (fail)
          go_wp2
          go_roundw
          case rel =>
            refine ⟨i, C, f', n, P, A, A', c, c', by omega, by omega, rfl, rfl, rfl, rfl, Hn, Lib.hid ?_, HP2, hap, ownsRow_drewN hx _, ownsRow_drewN hy _, hg.drewN _, below_drewN hbr _, hBr⟩
            have := Hf.out; have := HC.out; omega
          case measure => have := HC.out; simp [intOf]; omega

set_option maxHeartbeats 400000 in
theorem places_no (a b : ByteArray) (h : 200 < a.size ∨ 200 < b.size) (w : World) :
    Calls Tryd.prog 62 #[.string a, .string b] w fun e w' => e = .returned (.tuple #[.slice none 0 0, .slice none 0 0, .int .i64 2]) ∧ w = w' := by
  go_enter Tryd.func62, Tryd.ntmps62
  go_wp2_with fail
  refine (sameCheck_no a b h _).mono ?_
  rintro e w1 ⟨rfl, rfl⟩
  go_wp2
  go_ret3
  exact ⟨rfl, rfl⟩

end Go.Proofs.YtigbnldmjafgmaaDoor

/- The walks of the laws' own small helpers: Within. -/
namespace Go.Proofs.YtigbnldmjafgmaaDoor
open Go.RowKit
set_option linter.unusedVariables false

theorem tmod_rest_neg (k n : Int) (hn : 0 < n) (h : k.tmod n < 0) : k.tmod n + n = k % n := by
  have h1 := Int.emod_nonneg k (Int.ne_of_gt hn)
  have h2 := Int.emod_lt_of_pos k hn
  have e := Int.tmod_eq_emod (a := k) (b := n)
  by_cases hc : 0 ≤ k ∨ n ∣ k
  · rw [if_pos hc] at e; omega
  · rw [if_neg hc] at e; omega
theorem tmod_rest_pos (k n : Int) (hn : 0 < n) (h : 0 ≤ k.tmod n) : k.tmod n = k % n := by
  have h1 := Int.emod_nonneg k (Int.ne_of_gt hn)
  have h2 := Int.emod_lt_of_pos k hn
  have e := Int.tmod_eq_emod (a := k) (b := n)
  by_cases hc : 0 ≤ k ∨ n ∣ k
  · rw [if_pos hc] at e; omega
  · rw [if_neg hc] at e; omega


end Go.Proofs.YtigbnldmjafgmaaDoor

/- The laws' helper edits, and facts on slices of edits. -/
namespace Go.Proofs.YtigbnldmjafgmaaDoor
open Go.RowKit
set_option linter.unusedVariables false

theorem edits_hello : checkE 5 [(0, 1, ⟨#[74]⟩), (5, 0, ⟨#[33]⟩)] = 0 ∧ app [104, 101, 108, 108, 111] 0 [(0, 1, ⟨#[74]⟩), (5, 0, ⟨#[33]⟩)] = [74, 101, 108, 108, 111, 33] := by decide +kernel


theorem sizeEdit (w : World) : (sizeOf (Tryd.prog.elem 23)).run Tryd.prog w = .ok 3 w := by
  rw [show Tryd.prog.elem 23 = 89 from by kernel_rfl]
  exact Tryd.sizeOf89 w

theorem infoEdit : (Tryd.prog.info? 89).map (fun i => (i.zero, i.size, i.bytes)) = some (some (.agg #[.int .i64 0, .int .i64 0, .string ⟨#[]⟩]), 3, 32) := by kernel_rfl

end Go.Proofs.YtigbnldmjafgmaaDoor

/- The walks of diff.Cost and diff.Make. -/
namespace Go.Proofs.YtigbnldmjafgmaaDoor
open Go.RowKit
set_option linter.unusedVariables false

theorem lastI_cons (i : Nat) (q : Nat × Nat) (R : List (Nat × Nat)) : lastI i (q :: R) = lastI (q.1 + 1) R := by
  unfold lastI
  cases R with
  | nil => rfl
  | cons r R =>
    rw [List.getLast?_cons_cons]
    cases h : (r :: R).getLast? with
    | none => simp at h
    | some p => rfl
theorem lastK_cons (i : Nat) (q : Nat × Nat) (R : List (Nat × Nat)) : lastK i (q :: R) = lastK (q.2 + 1) R := by
  unfold lastK
  cases R with
  | nil => rfl
  | cons r R =>
    rw [List.getLast?_cons_cons]
    cases h : (r :: R).getLast? with
    | none => simp at h
    | some p => rfl
/-- Where the walk stands is not past the next pair. -/
theorem rise_last {s t : List UInt8} : ∀ (P : List (Nat × Nat)) (i k : Nat), Rise s t i k P → i ≤ s.length → k ≤ t.length → ∀ j, j ≤ P.length →
    lastI i ((P ++ [(s.length, t.length)]).take j) ≤ ((P ++ [(s.length, t.length)]).getD j (0, 0)).1 ∧ lastK k ((P ++ [(s.length, t.length)]).take j) ≤ ((P ++ [(s.length, t.length)]).getD j (0, 0)).2 ∧
    ((P ++ [(s.length, t.length)]).getD j (0, 0)).1 ≤ s.length ∧ ((P ++ [(s.length, t.length)]).getD j (0, 0)).2 ≤ t.length
  | [], i, k, _, hi, hk, j, hj => by
    obtain rfl : j = 0 := by simpa using hj
    exact ⟨hi, hk, Nat.le_refl _, Nat.le_refl _⟩
  | p :: P, i, k, h, hi, hk, 0, _ => by
    obtain ⟨m1, m2, m3, m4, m5⟩ := h.mem p (by simp)
    exact ⟨m1, m3, Nat.le_of_lt m2, Nat.le_of_lt m4⟩
  | p :: P, i, k, h, hi, hk, j + 1, hj => by
    obtain ⟨m1, m2, m3, m4, m5⟩ := h.mem p (by simp)
    have := rise_last P (p.1 + 1) (p.2 + 1) h.cons (by omega) (by omega) j (by simpa using hj)
    rw [List.cons_append, List.take_succ_cons, lastI_cons, lastK_cons, List.getD_cons_succ]
    exact this

theorem getD_map_nat (P : List (Nat × Nat)) (f : Nat × Nat → Nat) (j : Nat) (h : j < P.length) : (P.map fun p => ((f p : Nat) : Int)).getD j 0 = ((f (P.getD j (0, 0)) : Nat) : Int) := by
  rw [List.getD_eq_getElem?_getD, List.getElem?_map, List.getElem?_eq_getElem h, List.getD_eq_getElem?_getD, List.getElem?_eq_getElem h]
  rfl

/-- The script. -/
def makeE (a b : ByteArray) : List Ed := diffL b.data.toList 0 0 (placesOf a.data.toList b.data.toList ++ [(a.size, b.size)])

/-- What Make tells. -/
def ToldMake (a b : ByteArray) (w : World) (e : Ending) (w' : World) : Prop :=
  Below w.heap.size w w' ∧ ((ce a b = 0 ∧ cv a b ≤ 20 ∧ ∃ A c, e = .returned (.tuple #[.slice A (makeE a b).length c, .int .i64 0]) ∧ Reads w' w'.heap.size A (makeE a b).length 3 ((makeE a b).flatMap cEdit)) ∨
    (ce a b = 0 ∧ 20 < cv a b ∧ e = .returned (.tuple #[.slice none 0 0, .int .i64 11])) ∨ (ce a b = 2 ∧ e = .returned (.tuple #[.slice none 0 0, .int .i64 2])))

theorem make_no (a b : ByteArray) (w : World) (h : ce a b = 0 → 20 < cv a b) :
    Calls Tryd.prog 40 #[.string a, .string b] w (ToldMake a b w) := by
  have hc := cost_any a b
  unfold ToldMake
  by_cases h0 : ce a b = 0
  · have h20 := h h0
    obtain ⟨hx0, hx1⟩ := cv_bd a b
    rw [h0] at hc
    rw [h0]
    generalize cv a b = x at *
    have q1 : decide (20 < x) = true := decide_eq_true h20
    have HC := Lib.hid hc
    clear hc h h0
    go_enter Tryd.func40, Tryd.ntmps40
    go_wp2_with fail
    refine (HC.out w).mono ?_
    rintro e w1 ⟨rfl, hb1⟩
    go_wp2
    go_ret2
    exact ⟨hb1, by simp [h20]⟩
  · have h2 : ce a b = 2 := by
      unfold ce at h0 ⊢
      by_cases hh : a.size ≤ 200 ∧ b.size ≤ 200
      · rw [if_pos hh] at h0; exact absurd rfl h0
      · rw [if_neg hh]
    rw [h2] at hc
    rw [h2]
    generalize cv a b = x at *
    have HC := Lib.hid hc
    clear hc h h0
    go_enter Tryd.func40, Tryd.ntmps40
    go_wp2_with fail
    refine (HC.out w).mono ?_
    rintro e w1 ⟨rfl, hb1⟩
    go_wp2
    go_ret2
    exact ⟨hb1, by simp⟩

set_option maxRecDepth 100000 in
set_option maxHeartbeats 4000000 in
theorem make_ok (a b : ByteArray) (ha : a.size ≤ 200) (hb : b.size ≤ 200) (h20 : cv a b ≤ 20) (w : World) :
    Calls Tryd.prog 40 #[.string a, .string b] w (ToldMake a b w) := by
  have hc := cost_any a b
  have he := ce_ok ⟨ha, hb⟩
  rw [he] at hc
  have hrl := rise_last (placesOf a.data.toList b.data.toList) 0 0 (rise_all _ _) (Nat.zero_le _) (Nat.zero_le _)
  have hlen : (placesOf a.data.toList b.data.toList).length ≤ a.size := by rw [places_length]; exact lcs_le_left _ _
  have hpw := places_walk a b ha hb
  have hmk : makeE a b = diffL b.data.toList 0 0 (placesOf a.data.toList b.data.toList ++ [(a.size, b.size)]) := rfl
  obtain ⟨hx0, hx1⟩ := cv_bd a b
  rw [show a.data.toList.length = a.size from rfl, show b.data.toList.length = b.size from rfl] at hrl
  unfold ToldMake
  have Hx20 := Lib.hid h20
  have He := Lib.hid he
  generalize makeE a b = M at *
  generalize hP : placesOf a.data.toList b.data.toList = P at *
  generalize hbl : b.data.toList = bl at *
  generalize cv a b = x at *
  obtain ⟨m, hm⟩ : ∃ m, m = P.length := ⟨_, rfl⟩
  rw [← hm] at hrl hlen hpw
  obtain ⟨R, hR⟩ : ∃ R, R = P ++ [(a.size, b.size)] := ⟨_, rfl⟩
  rw [← hR] at hrl hmk
  have hRl : R.length = m + 1 := by rw [hR, hm]; simp
  have hRlt : ∀ j, j < m → R.getD j (0, 0) = P.getD j (0, 0) := fun j hj => by rw [hR, getD_app_left _ _ _ _ (by omega)]
  have hRm : R.getD m (0, 0) = (a.size, b.size) := by rw [hR, hm, getD_app_right _ _ _ _ (Nat.le_refl _), Nat.sub_self]; rfl
  have q1 : decide (20 < x) = false := decide_eq_false (by omega)
  have HC := Lib.hid hc
  have HRL := Lib.hid hrl
  have HPW := Lib.hid hpw
  have HMK := Lib.hid hmk
  have HM := Lib.hid hm
  have HRl := Lib.hid hRl
  have HRlt := Lib.hid hRlt
  have HRm := Lib.hid hRm
  have HBL := Lib.hid hbl
  clear hc hrl hpw hmk hm hR hRl hRlt hRm hP hbl h20 he
  go_enter Tryd.func40, Tryd.ntmps40
  go_wp2_with fail
  refine (HC.out w).mono ?_
  rintro e w1 ⟨rfl, hb1⟩
  go_wp2_with fail
  refine (HPW.out w1).mono ?_
  rintro e w2 ⟨X, cx, Y, cy, rfl, hrx, hry, hb2, hcx, hcy⟩
  have hbw := chain hb2 hb1
  have hsz := hbw.size
  obtain ⟨B, hB⟩ : ∃ B, B = w2.heap.size := ⟨_, rfl⟩
  rw [← hB] at hrx hry
  have hBw : B ≤ w2.heap.size := by omega
  have HB := Lib.hid hB
  clear hb1 hb2 hB
  go_wp2
  go_loopw [11, 12, 13, 14, 15, 16, 38] (fun ov iv kv _ _ _ cv wr => ∃ (j n c' : Nat) (A' : Option Addr), j ≤ m + 1 ∧ cv = .int .i64 (j : Int) ∧ iv = .int .i64 (lastI 0 (R.take j) : Nat) ∧ kv = .int .i64 (lastK 0 (R.take j) : Nat) ∧ ov = .slice A' n c' ∧ n ≤ j ∧ Hid (n = (diffL bl 0 0 (R.take j)).length) ∧
      wr.ownsRow B 89 3 (.slice A' n c') n ((diffL bl 0 0 (R.take j)).flatMap cEdit) ∧ Below B w2 wr)
    (fun _ _ _ _ _ _ cv _ => m + 1 - (intOf cv).toNat)
  case atStart => exact ⟨0, 0, 0, none, Nat.zero_le _, rfl, rfl, rfl, rfl, Nat.le_refl _, Lib.hid rfl, World.ownsRow_nil _ _ _ _, Below.refl _ _⟩
  case round =>
    obtain ⟨j, n, c', A', hj, rfl, rfl, rfl, rfl, hnj, Hn, hown, hbr⟩ := hrel
    have hBr : B ≤ wr.heap.size := Nat.le_trans hBw hbr.size
    by_cases hlt : j < m + 1
    · obtain ⟨r1, r2, r3, r4⟩ := HRL.out j (by omega)
      have htk := take_succ_getD R j (0, 0) (by rw [HRl.out]; exact hlt)
      have hsn := diffL_snoc bl (R.take j) 0 0 (R.getD j (0, 0))
      have hli := lastI_snoc 0 (R.take j) (R.getD j (0, 0))
      have hlk := lastK_snoc 0 (R.take j) (R.getD j (0, 0))
      rw [← htk] at hsn hli hlk
      have hbd := buildEdit
      have hext : ∀ k p : Nat, b.extract k p = e8 ((bl.take p).drop k) := fun k p => by
        have : (b.extract k p).data.toList = (bl.take p).drop k := by rw [Lib.extract_data, HBL.out, List.drop_take]
        rw [← e8_of (b.extract k p), this]
      have Hext := Lib.hid (hext (lastK 0 (R.take j)) (R.getD j (0, 0)).2)
      have Hsn := Lib.hid hsn
      have Hli := Lib.hid hli
      have Hlk := Lib.hid hlk
      clear hsn hli hlk htk hext
      by_cases hjm : j < m
      · have q2 : decide ((j : Int) < (m : Int)) = true := decide_eq_true (by omega)
        have q2' : decide (j < m) = true := decide_eq_true hjm
        obtain ⟨bx, ox, rfl, hbx, hcx0⟩ := (hrx.below hbr).2 (by omega)
        obtain ⟨by_, oy, rfl, hby, hcy0⟩ := (hry.below hbr).2 (by omega)
        have cx0 := hcx0 (j * 1 + 0) (by rw [flat_length cInt 1 cInt_len, px_length, ← HM.out]; omega)
        have cy0 := hcy0 (j * 1 + 0) (by rw [flat_length cInt 1 cInt_len, py_length, ← HM.out]; omega)
        rw [flat_getD cInt 1 cInt_len 0 (px P) j _ (by rw [px_length, ← HM.out]; exact hjm) (by omega)] at cx0
        rw [flat_getD cInt 1 cInt_len 0 (py P) j _ (by rw [py_length, ← HM.out]; exact hjm) (by omega)] at cy0
        simp only [cInt, List.getD_cons_zero, Nat.mul_one, Nat.add_zero] at cx0 cy0
        rw [show (px P).getD j 0 = (((P.getD j (0, 0)).1 : Nat) : Int) from getD_map_nat P (fun p => p.1) j (by rw [← HM.out]; exact hjm), ← HRlt.out j hjm] at cx0
        rw [show (py P).getD j 0 = (((P.getD j (0, 0)).2 : Nat) : Int) from getD_map_nat P (fun p => p.2) j (by rw [← HM.out]; exact hjm), ← HRlt.out j hjm] at cy0
        generalize R.getD j (0, 0) = p at *
        obtain ⟨p1, p2⟩ := p
        simp only at *
        generalize lastI 0 (R.take j) = i at *
        generalize lastK 0 (R.take j) = k at *
        clear hcx0 hcy0
        have hj0 : (0 : Int) ≤ (j : Int) := by omega
        have hjm2 : (j : Int) < (m : Int) := by omega
        have hjc1 : (j : Int) < (cx : Int) := by omega
        have hkp : (k : Int) ≤ (p2 : Int) := by omega
        have hpb : (p2 : Int) ≤ (b.size : Int) := by omega
        go_wp2
        go_quiet (fail)
        have hown := ownsRow_drewN hown nq
        have hbr := below_drewN hbr nq
        have hBr : B ≤ (wr.drewN nq).heap.size := hBr
        clear cx0 cy0
        generalize wr.drewN nq = wq at *
        by_cases hi : i < p1
        · have qa : decide ((i : Int) < (p1 : Int)) = true := decide_eq_true (by omega)
          have qa' : decide (i < p1) = true := decide_eq_true hi
          have hnew := Hsn.out
          rw [if_pos (.inl hi)] at hnew
          have Hnew := Lib.hid hnew
          clear hnew
          go_wp2_with (first | (at_builtin; go_must (refine wpList_append_new _ 23 (.tmp 65) (.tmp 75) rfl rfl B 89 infoEdit Tryd.underlying23 rfl (by decide) A' n c' _ rfl hown #[.int .i64 (i : Int), .int .i64 ((p1 : Int) - i), .string (b.extract k p2)] 1 rfl rfl (by simp [Value.oneCell']) (by unfold maxLen; omega) (by omega) hBr ?_); intro A3 c3 w4 hown4 hb4 hg4))
          go_roundw
          case rel =>
            refine ⟨j + 1, n + 1, c3, A3, by omega, by go_num, by rw [Hli.out]; go_num, by rw [Hlk.out]; go_num, rfl, by omega, Lib.hid (by rw [Hnew.out, List.length_append, ← Hn.out]; rfl), ?_, hbr.trans hb4⟩
            rw [Hnew.out, flat_snoc, ← Hext.out]; exact hown4
          case measure => simp only [intOf]; omega
        · have qa : decide ((i : Int) < (p1 : Int)) = false := decide_eq_false (by omega)
          have qa' : decide (i < p1) = false := decide_eq_false hi
          by_cases hk : k < p2
          · have qb : decide ((k : Int) < (p2 : Int)) = true := decide_eq_true (by omega)
            have qb' : decide (k < p2) = true := decide_eq_true hk
            have hnew := Hsn.out
            rw [if_pos (.inr hk)] at hnew
            have Hnew := Lib.hid hnew
            clear hnew
            go_wp2_with (first | (at_builtin; go_must (refine wpList_append_new _ 23 (.tmp 65) (.tmp 75) rfl rfl B 89 infoEdit Tryd.underlying23 rfl (by decide) A' n c' _ rfl hown #[.int .i64 (i : Int), .int .i64 ((p1 : Int) - i), .string (b.extract k p2)] 1 rfl rfl (by simp [Value.oneCell']) (by unfold maxLen; omega) (by omega) hBr ?_); intro A3 c3 w4 hown4 hb4 hg4))
            go_roundw
            case rel =>
              refine ⟨j + 1, n + 1, c3, A3, by omega, by go_num, by rw [Hli.out]; go_num, by rw [Hlk.out]; go_num, rfl, by omega, Lib.hid (by rw [Hnew.out, List.length_append, ← Hn.out]; rfl), ?_, hbr.trans hb4⟩
              rw [Hnew.out, flat_snoc, ← Hext.out]; exact hown4
            case measure => simp only [intOf]; omega
          · have qb : decide ((k : Int) < (p2 : Int)) = false := decide_eq_false (by omega)
            have qb' : decide (k < p2) = false := decide_eq_false hk
            have hnew := Hsn.out
            rw [if_neg (by omega), List.append_nil] at hnew
            have Hnew := Lib.hid hnew
            clear hnew
            go_wp2
            go_roundw
            case rel => exact ⟨j + 1, n, c', A', by omega, by go_num, by rw [Hli.out]; go_num, by rw [Hlk.out]; go_num, rfl, by omega, Lib.hid (by rw [Hnew.out]; exact Hn.out), by rw [Hnew.out]; exact hown, hbr⟩
            case measure => simp only [intOf]; omega
      · obtain rfl : j = m := by omega
        have q2 : decide ((j : Int) < (j : Int)) = false := decide_eq_false (by omega)
        have q2' : decide (j < j) = false := decide_eq_false (by omega)
        have e := HRm.out
        generalize R.getD j (0, 0) = p at *
        subst e
        simp only at *
        generalize lastI 0 (R.take j) = i at *
        generalize lastK 0 (R.take j) = k at *
        have hkp : (k : Int) ≤ (b.size : Int) := by omega
        by_cases hi : i < a.size
        · have qa : decide ((i : Int) < (a.size : Int)) = true := decide_eq_true (by omega)
          have qa' : decide (i < a.size) = true := decide_eq_true hi
          have hnew := Hsn.out
          rw [if_pos (.inl hi)] at hnew
          have Hnew := Lib.hid hnew
          clear hnew
          go_wp2_with (first | (at_builtin; go_must (refine wpList_append_new _ 23 (.tmp 65) (.tmp 75) rfl rfl B 89 infoEdit Tryd.underlying23 rfl (by decide) A' n c' _ rfl hown #[.int .i64 (i : Int), .int .i64 ((a.size : Int) - i), .string (b.extract k b.size)] 1 rfl rfl (by simp [Value.oneCell']) (by unfold maxLen; omega) (by omega) hBr ?_); intro A3 c3 w4 hown4 hb4 hg4))
          go_roundw
          case rel =>
            refine ⟨j + 1, n + 1, c3, A3, by omega, by go_num, by rw [Hli.out]; go_num, by rw [Hlk.out]; go_num, rfl, by omega, Lib.hid (by rw [Hnew.out, List.length_append, ← Hn.out]; rfl), ?_, hbr.trans hb4⟩
            rw [Hnew.out, flat_snoc, ← Hext.out]; exact hown4
          case measure => simp only [intOf]; omega
        · have qa : decide ((i : Int) < (a.size : Int)) = false := decide_eq_false (by omega)
          have qa' : decide (i < a.size) = false := decide_eq_false hi
          by_cases hk : k < b.size
          · have qb : decide ((k : Int) < (b.size : Int)) = true := decide_eq_true (by omega)
            have qb' : decide (k < b.size) = true := decide_eq_true hk
            have hnew := Hsn.out
            rw [if_pos (.inr hk)] at hnew
            have Hnew := Lib.hid hnew
            clear hnew
            go_wp2_with (first | (at_builtin; go_must (refine wpList_append_new _ 23 (.tmp 65) (.tmp 75) rfl rfl B 89 infoEdit Tryd.underlying23 rfl (by decide) A' n c' _ rfl hown #[.int .i64 (i : Int), .int .i64 ((a.size : Int) - i), .string (b.extract k b.size)] 1 rfl rfl (by simp [Value.oneCell']) (by unfold maxLen; omega) (by omega) hBr ?_); intro A3 c3 w4 hown4 hb4 hg4))
            go_roundw
            case rel =>
              refine ⟨j + 1, n + 1, c3, A3, by omega, by go_num, by rw [Hli.out]; go_num, by rw [Hlk.out]; go_num, rfl, by omega, Lib.hid (by rw [Hnew.out, List.length_append, ← Hn.out]; rfl), ?_, hbr.trans hb4⟩
              rw [Hnew.out, flat_snoc, ← Hext.out]; exact hown4
            case measure => simp only [intOf]; omega
          · have qb : decide ((k : Int) < (b.size : Int)) = false := decide_eq_false (by omega)
            have qb' : decide (k < b.size) = false := decide_eq_false hk
            have hnew := Hsn.out
            rw [if_neg (by omega), List.append_nil] at hnew
            have Hnew := Lib.hid hnew
            clear hnew
            go_wp2
            go_roundw
            case rel => exact ⟨j + 1, n, c', A', by omega, by go_num, by rw [Hli.out]; go_num, by rw [Hlk.out]; go_num, rfl, by omega, Lib.hid (by rw [Hnew.out]; exact Hn.out), by rw [Hnew.out]; exact hown, hbr⟩
            case measure => simp only [intOf]; omega
    · obtain rfl : j = m + 1 := by omega
      have e : R.take (m + 1) = R := List.take_of_length_le (by rw [HRl.out]; exact Nat.le_refl _)
      rw [e] at hown
      have hn := Hn.out
      rw [e, ← HMK.out] at hn
      rw [← HMK.out] at hown
      have hr := Reads.of_own hown
      go_wp2
      go_ret2
      subst hn
      exact ⟨hbw.trans (hbr.mono (by rw [HB.out]; exact hsz)), .inl ⟨He.out, Hx20.out, A', c', rfl, hr⟩⟩
end Go.Proofs.YtigbnldmjafgmaaDoor

/- The walk of 'diffs', and what Cost's numbers obey. -/
namespace Go.Proofs.YtigbnldmjafgmaaDoor
open Go.RowKit
set_option linter.unusedVariables false

theorem diffs_lcs : lcs (ByteArray.mk #[97, 98, 99, 97, 98, 98, 97]).data.toList (ByteArray.mk #[99, 98, 97, 98, 97, 99]).data.toList = 4 := by decide +kernel
theorem diffs_lcs2 : lcs (ByteArray.mk #[97, 98]).data.toList (ByteArray.mk #[98]).data.toList = 1 := by decide +kernel
theorem diffs_make : makeE ⟨#[97, 98]⟩ ⟨#[98]⟩ = [(0, 1, ⟨#[]⟩)] := by decide +kernel


theorem sub_meet {α : Type} [DecidableEq α] : ∀ {b u v : List α}, u.Sublist b → v.Sublist b → ∃ t : List α, t.Sublist u ∧ t.Sublist v ∧ u.length + v.length ≤ b.length + t.length
  | _, _, _, .slnil, .slnil => ⟨[], List.Sublist.refl _, List.Sublist.refl _, Nat.le_refl _⟩
  | _, _, _, .cons z hu, .cons _ hv => by
    obtain ⟨t, h1, h2, h3⟩ := sub_meet hu hv
    exact ⟨t, h1, h2, by simp only [List.length_cons] at h3 ⊢; omega⟩
  | _, _, _, .cons z hu, .cons_cons _ hv => by
    obtain ⟨t, h1, h2, h3⟩ := sub_meet hu hv
    exact ⟨t, h1, h2.trans (List.sublist_cons_self _ _), by simp only [List.length_cons] at h3 ⊢; omega⟩
  | _, _, _, .cons_cons z hu, .cons _ hv => by
    obtain ⟨t, h1, h2, h3⟩ := sub_meet hu hv
    exact ⟨t, h1.trans (List.sublist_cons_self _ _), h2, by simp only [List.length_cons] at h3 ⊢; omega⟩
  | _, _, _, .cons_cons z hu, .cons_cons _ hv => by
    obtain ⟨t, h1, h2, h3⟩ := sub_meet hu hv
    exact ⟨z :: t, h1.cons_cons _, h2.cons_cons _, by simp only [List.length_cons] at h3 ⊢; omega⟩
theorem lcs_tri {α : Type} [DecidableEq α] (a b c : List α) : lcs a b + lcs b c ≤ b.length + lcs a c := by
  obtain ⟨u, hu1, hu2, hu3⟩ := lcs_wit a b
  obtain ⟨v, hv1, hv2, hv3⟩ := lcs_wit b c
  obtain ⟨t, h1, h2, h3⟩ := sub_meet hu2 hv1
  have := lcs_max a c t (h1.trans hu1) (h2.trans hv2)
  omega

theorem cv_comm (a b : ByteArray) : cv a b = cv b a := by
  unfold cv
  rw [lcs_comm]
  by_cases h : a.size ≤ 200 ∧ b.size ≤ 200
  · rw [if_pos h, if_pos h.symm]; omega
  · rw [if_neg h, if_neg (fun h' => h h'.symm)]
theorem ce_comm (a b : ByteArray) : ce a b = ce b a := by
  unfold ce
  by_cases h : a.size ≤ 200 ∧ b.size ≤ 200
  · rw [if_pos h, if_pos h.symm]
  · rw [if_neg h, if_neg (fun h' => h h'.symm)]
theorem ce_zero {a b : ByteArray} (h : ce a b = 0) : a.size ≤ 200 ∧ b.size ≤ 200 := by
  unfold ce at h
  by_cases h' : a.size ≤ 200 ∧ b.size ≤ 200
  · exact h'
  · rw [if_neg h'] at h; cases h
end Go.Proofs.YtigbnldmjafgmaaDoor

/- DiffLeast's walk: no script has a smaller cost. -/
namespace Go.Proofs.YtigbnldmjafgmaaDoor
open Go.RowKit
set_option linter.unusedVariables false

theorem costE_take (l : List Ed) (k : Nat) (h : k < l.length) (d : Ed) : costE (l.take (k + 1)) = costE (l.take k) + ((l.getD k d).2.1 + ((l.getD k d).2.2.size : Int)) := by
  rw [take_succ_getD l k d h, costE_append, costE, costE]; omega
theorem costE_bd {n : Int} (hn : n ≤ 200) {l : List Ed} {f : Bool} {e : Int} (h : OkE n f e l) : ∀ k, 0 ≤ costE (l.take k) ∧ costE (l.take k) ≤ 240 * (l.take k).length := by
  have hall := ok_all hn h
  have : ∀ m : List Ed, (∀ x ∈ m, 0 ≤ x.1 ∧ 0 ≤ x.2.1 ∧ x.1 + x.2.1 ≤ n ∧ x.2.2.size ≤ 40) → 0 ≤ costE m ∧ costE m ≤ 240 * m.length := by
    intro m
    induction m with
    | nil => exact fun _ => ⟨by simp [costE], by simp [costE]⟩
    | cons x m ih =>
      intro hx
      obtain ⟨a, b, c, d⟩ := hx x (by simp)
      have := ih (fun y hy => hx y (by simp [hy]))
      rw [costE, List.length_cons]
      omega
  exact fun k => this _ (fun x hx => hall x (List.mem_of_mem_take hx))
theorem least_law (s : ByteArray) (l : List Ed) (h : checkE s.size l = 0) : ce s ⟨(app s.data.toList 0 l).toArray⟩ = 0 ∧ cv s ⟨(app s.data.toList 0 l).toArray⟩ ≤ costE l := by
  obtain ⟨h0, h1, h2, h3, h4⟩ := checkE_ok h
  have hs : s.data.toList.length = s.size := rfl
  have h3' : OkE s.data.toList.length true (0 : Nat) l := h3
  have hlen := app_length (e := 0) h3' (fun _ => rfl) (Nat.zero_le _)
  have hl := app_lcs (e := 0) h3' (fun _ => rfl) (Nat.zero_le _)
  have hsz : (ByteArray.mk (app s.data.toList 0 l).toArray).size = (app s.data.toList 0 l).length := rfl
  have hb : s.size ≤ 200 ∧ (ByteArray.mk (app s.data.toList 0 l).toArray).size ≤ 200 := by omega
  refine ⟨ce_ok hb, ?_⟩
  rw [cv_ok hb, hsz]
  rw [List.drop_zero] at hl
  have : (ByteArray.mk (app s.data.toList 0 l).toArray).data.toList = app s.data.toList 0 l := rfl
  rw [this]
  omega

end Go.Proofs.YtigbnldmjafgmaaDoor

/- DiffMakes' walk: the script transforms one string into the other with the stated cost. -/
namespace Go.Proofs.YtigbnldmjafgmaaDoor
open Go.RowKit
set_option linter.unusedVariables false

theorem makes_law (a b : ByteArray) (h : ce a b = 0) (h20 : cv a b ≤ 20) : checkE a.size (makeE a b) = 0 ∧ (⟨(app a.data.toList 0 (makeE a b)).toArray⟩ : ByteArray) = b ∧ costE (makeE a b) = cv a b := by
  have hz := ce_zero h
  rw [cv_ok hz] at h20 ⊢
  have hr := rise_all a.data.toList b.data.toList
  have hpl := places_length a.data.toList b.data.toList
  rw [← hpl] at h20 ⊢
  have hsa : a.data.toList.length = a.size := rfl
  have hsb : b.data.toList.length = b.size := rfl
  have e : makeE a b = diffL b.data.toList 0 0 (placesOf a.data.toList b.data.toList ++ [(a.data.toList.length, b.data.toList.length)]) := rfl
  rw [e]
  have happ := diff_app _ 0 0 0 hr (Nat.le_refl _) (Nat.zero_le _) (Nat.zero_le _)
  have hcost := diff_cost _ 0 0 hr (Nat.zero_le _) (Nat.zero_le _)
  have hok := diff_ok _ 0 0 true 0 hr (Nat.zero_le _) (Nat.zero_le _) (fun h => by cases h) (by omega)
  have hlen := cost_len hok
  have hal := app_length (s := a.data.toList) (e := 0) hok (fun _ => rfl) (Nat.zero_le _)
  rw [happ] at hal ⊢
  rw [List.take_zero, List.drop_nil, List.nil_append, List.drop_zero] at hal ⊢
  refine ⟨?_, ?_, by rw [hcost]; omega⟩
  · rw [show ((a.size : Nat) : Int) = (a.data.toList.length : Nat) from rfl, checkE_full (by omega) (by omega) (by omega) hok, if_neg (by omega)]
  · cases b; rfl

end Go.Proofs.YtigbnldmjafgmaaDoor

/- Plain: pages of a house and what deeds make of them. -/
namespace Go.Proofs.YtigbnldmjafgmaaDoor
open Go.RowKit
set_option linter.unusedVariables false

/-- A page: its name, its text, what is kept to go back and onward, its log's records, how many of them are safe. -/
structure Pg where
  name : ByteArray
  t : ByteArray
  B : List ByteArray
  O : List ByteArray
  H : LH
  j : Nat
structure Dd where
  kind : Int
  n : Int
  name : ByteArray
  text : ByteArray
  edits : List Ed
/-- What holds of every page. -/
structure Pg.Ok (p : Pg) : Prop where
  few : p.B.length + p.O.length ≤ 30
  back : ∀ t ∈ p.B, t.size ≤ 200
  onward : ∀ t ∈ p.O, t.size ≤ 200
  text : p.t.size ≤ 200
  hist : Hist ⟨#[]⟩ p.H
  end_ : p.t = endT ⟨#[]⟩ p.H
  jle : p.j ≤ p.H.length
  disk : (framesL (recs p.H)).length ≤ 4000

def newP (name t : ByteArray) : Pg := ⟨name, t, [], [], [(98 :: t.data.toList, t)], 1⟩
def editP (p : Pg) (l : List Ed) : Int × Pg :=
  if l = [] then (5, p) else if leafE p.t p.H l ≠ 0 then (leafE p.t p.H l, p) else
    (0, { p with t := leafT p.t p.H l, B := (p.B ++ [p.t]).drop (p.B.length + 1 - 30), O := [], H := leafH p.t p.H l })
/-- Does a base record of the text fit? -/
def fits (H : LH) (t : ByteArray) : Prop := (framesL (recs H)).length + (t.size + 7) ≤ 4000
instance (H : LH) (t : ByteArray) : Decidable (fits H t) := inferInstanceAs (Decidable (_ ≤ _))
def backP (p : Pg) : Int × Pg :=
  if p.B = [] then (4, p) else if fits p.H (p.B.getLastD ⟨#[]⟩) then
    (0, { p with t := p.B.getLastD ⟨#[]⟩, B := p.B.dropLast, O := p.O ++ [p.t], H := p.H ++ [(98 :: (p.B.getLastD ⟨#[]⟩).data.toList, p.B.getLastD ⟨#[]⟩)] }) else (11, p)
def onP (p : Pg) : Int × Pg :=
  if p.O = [] then (4, p) else if fits p.H (p.O.getLastD ⟨#[]⟩) then
    (0, { p with t := p.O.getLastD ⟨#[]⟩, O := p.O.dropLast, B := p.B ++ [p.t], H := p.H ++ [(98 :: (p.O.getLastD ⟨#[]⟩).data.toList, p.O.getLastD ⟨#[]⟩)] }) else (11, p)
noncomputable def wholeI (H : LH) (m : Nat) : Nat := Classical.choose (whole_to H m)
theorem wholeI_to (H : LH) (m : Nat) : WholeTo H m (wholeI H m) := Classical.choose_spec (whole_to H m)
/-- The page back at its first i records, nothing to undo. -/
def fallP (p : Pg) (i : Nat) : Pg := { p with t := endT ⟨#[]⟩ (p.H.take i), B := [], O := [], H := p.H.take i, j := i }
def safeN (p : Pg) : Nat := (framesL ((recs p.H).take p.j)).length
noncomputable def crashP (p : Pg) (n : Int) : Int × Pg :=
  if n < 0 ∨ ((framesL (recs p.H)).length : Int) - (safeN p : Int) < n then (1, p) else (0, fallP p (wholeI p.H (safeN p + n.toNat)))
def packP (p : Pg) (n : Int) : Int × Pg :=
  if n < 0 ∨ 3 < n then (1, p) else if n = 1 ∨ n = 2 then (0, fallP p p.j)
  else if n = 0 then (0, { p with H := [(98 :: p.t.data.toList, p.t)], j := 1 }) else (0, { p with B := [], O := [], H := [(98 :: p.t.data.toList, p.t)], j := 1 })
def saveP (p : Pg) : Pg := { p with j := p.H.length }
def makeP (p : Pg) (text : ByteArray) : Int × Pg :=
  if ce p.t text ≠ 0 then (2, p) else if 20 < cv p.t text then (11, p) else editP p (makeE p.t text)
/-- A deed at the page itself: what it answers, its error, the page behind it. -/
noncomputable def pageD (p : Pg) (d : Dd) : ByteArray × Int × Pg :=
  if d.kind = 2 then (⟨#[]⟩, editP p d.edits)
  else if d.kind = 10 then (⟨#[]⟩, makeP p d.text)
  else if d.kind = 3 then (⟨#[]⟩, backP p)
  else if d.kind = 4 then (⟨#[]⟩, onP p)
  else if d.kind = 5 then (⟨#[]⟩, 0, saveP p)
  else if d.kind = 6 then (⟨#[]⟩, packP p d.n)
  else if d.kind = 7 then (⟨#[]⟩, crashP p d.n)
  else (p.t, 0, p)
/-- An error, if it is no name. -/
def nameE (s : ByteArray) : Int := if s.size < 1 ∨ 8 < s.size then 3 else if s.data.toList.all (fun c => decide (97 ≤ c.toNat) && decide (c.toNat ≤ 122)) = true then 0 else 3
/-- Where the page of the name stands, or -1. -/
def placeN (name : ByteArray) : List Pg → Nat → Int
  | [], _ => -1
  | p :: l, k => if p.name = name then (k : Int) else placeN name l (k + 1)
def pg0 : Pg := newP ⟨#[]⟩ ⟨#[]⟩
/-- A deed at a house. -/
noncomputable def houseD (P : List Pg) (d : Dd) : ByteArray × Int × List Pg :=
  if d.kind < 1 ∨ 10 < d.kind then (⟨#[]⟩, 1, P)
  else if nameE d.name ≠ 0 then (⟨#[]⟩, nameE d.name, P)
  else if d.kind = 1 then
    if 0 ≤ placeN d.name P 0 then (⟨#[]⟩, 10, P) else if P.length = 6 then (⟨#[]⟩, 11, P) else if 200 < d.text.size then (⟨#[]⟩, 2, P) else (⟨#[]⟩, 0, P ++ [newP d.name d.text])
  else if placeN d.name P 0 < 0 then (⟨#[]⟩, 4, P)
  else if d.kind = 9 then (⟨#[]⟩, 0, P.eraseIdx (placeN d.name P 0).toNat)
  else ((pageD (P.getD (placeN d.name P 0).toNat pg0) d).1, (pageD (P.getD (placeN d.name P 0).toNat pg0) d).2.1, P.set (placeN d.name P 0).toNat (pageD (P.getD (placeN d.name P 0).toNat pg0) d).2.2)

theorem newP_ok (name : ByteArray) {t : ByteArray} (h : t.size ≤ 200) : (newP name t).Ok :=
  ⟨by simp [newP], by simp [newP], by simp [newP], h, ⟨LStep.base t h, trivial⟩, rfl, Nat.le_refl _, by show (framesL (recs [(98 :: t.data.toList, t)])).length ≤ 4000; rw [base_len]; omega⟩
theorem base_more (H : LH) (t : ByteArray) : (framesL (recs (H ++ [(98 :: t.data.toList, t)]))).length = (framesL (recs H)).length + (t.size + 7) := by
  rw [recs_app, frames_app, List.length_append, base_len]
theorem fallP_ok {p : Pg} (h : p.Ok) (i : Nat) (hi : i ≤ p.H.length) : (fallP p i).Ok :=
  ⟨by simp [fallP], by simp [fallP], by simp [fallP], endT_size (hist_take h.hist i) (by decide), hist_take h.hist i, rfl, by show i ≤ (p.H.take i).length; rw [List.length_take]; omega, by
    show (framesL (recs (p.H.take i))).length ≤ 4000
    rw [recs_take]
    exact Nat.le_trans (frames_take_le _ _) h.disk⟩
end Go.Proofs.YtigbnldmjafgmaaDoor

/- A row of bytes of the call's own of which no cell is frozen: what '[]byte(s)' gives, what append makes of it, what is stored into it, what 'string(b[:m])' reads. -/
namespace Go.Proofs.YtigbnldmjafgmaaDoor
open Go.RowKit
set_option linter.unusedVariables false

/-- One byte's cell. -/
def b8 (x : UInt8) : Value := .int .u8 (x.toNat : Int)
theorem b8_one (l : List UInt8) : ∀ u ∈ l.map b8, u.oneCell' = true := fun u hu => by obtain ⟨x, _, rfl⟩ := List.mem_map.1 hu; rfl

/-- The slice lies in a row of the call's own, and no cell of the row is frozen. -/
def OwnB (w : World) (base : Nat) (e : TypeId) (A : Option Addr) (n c : Nat) (l : List UInt8) : Prop :=
  l.length = n ∧ ((A = none ∧ n = 0 ∧ c = 0) ∨
    ∃ g cur fz, A = some ⟨g, 0, none⟩ ∧ base ≤ g ∧ w.heap[g]? = some (.cells cur e fz) ∧ (∀ i, i < cur.size → ¬ (fz.1 ≤ i ∧ i < fz.2)) ∧ n ≤ c ∧ c ≤ maxLen ∧ cur.size = c ∧ cur.toList.take n = l.map b8)

section
variable {w w' : World} {base g n c : Nat} {e : TypeId} {A : Option Addr} {l : List UInt8}
theorem OwnB.nil (w : World) (base : Nat) (e : TypeId) : OwnB w base e none 0 0 [] := ⟨rfl, .inl ⟨rfl, rfl, rfl⟩⟩
theorem OwnB.len (h : OwnB w base e A n c l) : l.length = n := h.1
theorem OwnB.cap (h : OwnB w base e A n c l) : n ≤ c ∧ c ≤ maxLen := by
  rcases h.2 with ⟨_, h1, h2⟩ | ⟨g, cur, fz, _, _, _, _, h1, h2, _⟩
  · omega
  · exact ⟨h1, h2⟩
theorem OwnB.of_own (h : w.ownsRow base e 1 (.slice A n c) n (l.map b8)) : OwnB w base e A n c l := by
  refine ⟨by have := h.1; rw [List.length_map] at this; omega, ?_⟩
  rcases h.2 with ⟨hv, h0⟩ | ⟨g, cap, cur, hv, hb, hg, h1, h2, h3, h4⟩
  · injection hv with e1 e2 e3
    exact .inl ⟨e1, h0, e3⟩
  · injection hv with e1 e2 e3
    subst e3
    exact .inr ⟨g, cur, (0, 0), e1, hb, hg, fun i _ hh => by omega, h1, h2, by omega, by rw [Nat.mul_one] at h4; exact h4⟩
theorem OwnB.drewN (h : OwnB w base e A n c l) (k : Nat) : OwnB (w.drewN k) base e A n c l := h
theorem OwnB.drew (h : OwnB w base e A n c l) : OwnB w.drew base e A n c l := h
theorem OwnB.lt (h : OwnB w base e (some ⟨g, 0, none⟩) n c l) : base ≤ g ∧ g < w.heap.size := by
  rcases h.2 with ⟨h0, _⟩ | ⟨g', cur, fz, hv, hb, hg, _⟩
  · cases h0
  · injection hv with hv
    injection hv with hv _
    subst hv
    exact ⟨hb, (Array.getElem?_eq_some_iff.1 hg).1⟩
theorem OwnB.keep (h : OwnB w base e A n c l) (hk : ∀ k, base ≤ k → k < w.heap.size → w'.heap[k]? = w.heap[k]?) : OwnB w' base e A n c l := by
  refine ⟨h.1, ?_⟩
  rcases h.2 with h0 | ⟨g, cur, fz, hv, hb, hg, rest⟩
  · exact .inl h0
  · exact .inr ⟨g, cur, fz, hv, hb, by rw [hk g hb (Array.getElem?_eq_some_iff.1 hg).1]; exact hg, rest⟩
theorem OwnB.below (h : OwnB w base e A n c l) (hb : Below w.heap.size w w') : OwnB w' base e A n c l := h.keep fun k _ hk => hb.block k hk
theorem OwnB.alloc (h : OwnB w base e A n c l) (o : Obj) : OwnB (w.alloc o) base e A n c l := h.keep fun k _ hk => Below.heap_alloc w o k hk
theorem OwnB.shape (h : OwnB w base e A n c l) (hn : 0 < n) : ∃ g, A = some ⟨g, 0, none⟩ := by
  rcases h.2 with ⟨_, h0, _⟩ | ⟨g, _, _, hv, _⟩
  · omega
  · exact ⟨g, hv⟩
theorem OwnB.cell (h : OwnB w base e (some ⟨g, 0, none⟩) n c l) (j : Nat) (hj : j < n) : w.cell? ⟨g, j, none⟩ = some (.int .u8 ((l.getD j 0).toNat : Int)) := by
  rcases h.2 with ⟨h0, _⟩ | ⟨g', cur, fz, hv, hb, hg, hz, h1, h2, h3, h4⟩
  · cases h0
  · injection hv with hv
    injection hv with hv _
    subst hv
    rw [cell_of_row w g j cur e fz hg, ← Array.getElem?_toList]
    have : (cur.toList.take n)[j]? = cur.toList[j]? := by rw [List.getElem?_take, if_pos hj]
    rw [← this, h4, List.getElem?_map, List.getElem?_eq_getElem (by rw [h.1]; exact hj), List.getD_eq_getElem?_getD, List.getElem?_eq_getElem (by rw [h.1]; exact hj)]
    rfl
theorem OwnB.frozen (h : OwnB w base e (some ⟨g, 0, none⟩) n c l) (j : Nat) (hj : j < n) : w.frozen? ⟨g, j, none⟩ = false := by
  rcases h.2 with ⟨h0, _⟩ | ⟨g', cur, fz, hv, hb, hg, hz, h1, h2, h3, h4⟩
  · cases h0
  · injection hv with hv
    injection hv with hv _
    subst hv
    obtain ⟨lo, hi⟩ := fz
    have := hz j (by omega)
    simp only [World.frozen?, hg, Bool.and_eq_false_iff, decide_eq_false_iff_not]
    simp only at this
    omega
/-- Fewer of them. -/
theorem OwnB.short (h : OwnB w base e A n c l) (m : Nat) (hm : m ≤ n) : OwnB w base e A m c (l.take m) := by
  refine ⟨by rw [List.length_take, h.1]; omega, ?_⟩
  rcases h.2 with ⟨h0, h1, h2⟩ | ⟨g, cur, fz, hv, hb, hg, hz, h1, h2, h3, h4⟩
  · exact .inl ⟨h0, by omega, h2⟩
  · refine .inr ⟨g, cur, fz, hv, hb, hg, hz, by omega, h2, h3, ?_⟩
    rw [List.map_take, ← h4, List.take_take, Nat.min_eq_left hm]
/-- A byte stored. -/
theorem OwnB.set (h : OwnB w base e (some ⟨g, 0, none⟩) n c l) (k : Nat) (hk : k < n) (x : UInt8) : OwnB (w.setCell ⟨g, k, none⟩ (.int .u8 (x.toNat : Int))) base e (some ⟨g, 0, none⟩) n c (l.set k x) := by
  refine ⟨by rw [List.length_set]; exact h.1, ?_⟩
  rcases h.2 with ⟨h0, _⟩ | ⟨g', cur, fz, hv, hb, hg, hz, h1, h2, h3, h4⟩
  · cases h0
  · injection hv with hv
    injection hv with hv _
    subst hv
    refine .inr ⟨g, cur.setIfInBounds k (.int .u8 (x.toNat : Int)), fz, rfl, hb, ?_, by simpa using hz, h1, h2, by simpa using h3, ?_⟩
    · rw [setCell_eq_setRow w g k cur e fz _ hg]
      exact setRow_heap w g cur _ e _ hg
    · rw [Array.toList_setIfInBounds, List.map_set, ← h4, List.take_set]
      rfl
/-- What '[]byte(s)' gives. -/
theorem OwnB.made (s : ByteArray) (c : Nat) (hc : s.size ≤ c) (hm : c ≤ maxLen) (e : TypeId) (w W : World)
    (hW : (w.alloc (.cells (bytesRow s c) e ((bytesRow s c).size, (bytesRow s c).size + 1))).drew = W) (hb : base ≤ w.heap.size) : OwnB W base e (some ⟨w.heap.size, 0, none⟩) s.size c s.data.toList := by
  subst hW
  have hs : (bytesRow s c).size = c := by unfold bytesRow; simp; omega
  refine ⟨rfl, .inr ⟨w.heap.size, bytesRow s c, _, rfl, hb, heap_alloc_new w _, fun i hi hh => by simp only at hh; omega, hc, hm, hs, ?_⟩⟩
  unfold bytesRow
  rw [Array.toList_append, List.take_append_of_le_length (by simp), List.take_of_length_le (by simp), Array.toList_map]
  rfl
end

theorem run_storeCells_T (P : Program) (g o : Nat) (t : TypeId) (fz : Nat × Nat) : ∀ (vs : List Value) (i : Nat) (cur : Array Value) (w : World), w.heap[g]? = some (.cells cur t fz) → (∀ i, i < cur.size → ¬ (fz.1 ≤ i ∧ i < fz.2)) → o + i + vs.length ≤ cur.size → (∀ v ∈ vs, v.oneCell' = true) →
    (storeCells ⟨g, o, none⟩ vs i).run P w = .ok () (w.setRow g (cur.toList.take (o + i) ++ vs ++ cur.toList.drop (o + i + vs.length)).toArray)
  | [], i, cur, w, hg, _, _, _ => by
    simp only [storeCells, List.append_nil, List.length_nil, Nat.add_zero, List.take_append_drop, Array.toArray_toList]
    rw [setRow_self w g cur t fz hg]
    rfl
  | v :: rest, i, cur, w, hg, hfz, hl, h1 => by
    have hi : o + i < cur.size := by simp at hl; omega
    have hadd : (⟨g, o, none⟩ : Addr).add i = ⟨g, o + i, none⟩ := by unfold Addr.add; split <;> simp_all
    have hcell : w.cell? ⟨g, o + i, none⟩ = some cur[o + i] := by simp [World.cell?, hg, hi]
    have hfro : w.frozen? ⟨g, o + i, none⟩ = false := by
      obtain ⟨lo, hi'⟩ := fz
      have := hfz (o + i) hi
      simp only [World.frozen?, hg, Bool.and_eq_false_iff, decide_eq_false_iff_not]
      simp only at this
      omega
    have hst : (store ((⟨g, o, none⟩ : Addr).add i) v).run P w = .ok () (w.setRow g (cur.setIfInBounds (o + i) v)) := by
      rw [hadd, run_store P w _ v _ (h1 v (by simp)), hcell]
      simp [hfro, setCell_eq_setRow w g (o + i) cur t fz v hg]
    have ih := run_storeCells_T P g o t fz rest (i + 1) (cur.setIfInBounds (o + i) v) (w.setRow g (cur.setIfInBounds (o + i) v)) (setRow_heap w g cur _ t _ hg) (by simpa using hfz) (by simp at hl ⊢; omega) (fun x hx => h1 x (by simp [hx]))
    simp only [storeCells, Sem.run_bind, hst, Result.andThen_ok, ih, setRow_setRow]
    congr 3
    have e := list_seg_step cur.toList (o + i) v rest (by simp at hl ⊢; omega)
    simpa [Array.toList_setIfInBounds, Nat.add_assoc] using e

/-- append of bytes that lie in another block. -/
theorem run_append_B {P : Program} (w : World) (base : Nat) (t ty e : TypeId) (ht : P.underlying t = some (.slice e)) (hinfo : (P.info? e).map (fun i => (i.zero, i.size, i.bytes)) = some (some (.int .u8 0), 1, 1))
    (A : Option Addr) (n c : Nat) (l : List UInt8) (hown : OwnB w base e A n c l) (a : Addr) (m c2 : Nat) (news : List UInt8) (hl : news.length = m) (hnews : ∀ j u, (news.map b8)[j]? = some u → w.cell? (a.add j) = some u)
    (h63 : n + m ≤ 140737488355328) (hm : 0 < m) (hbase : base ≤ w.heap.size) :
    ∃ A' c' w', (Builtin.append_ #[t, t] ty #[.slice A n c, .slice (some a) m c2]).run P w = .ok (.slice A' (n + m) c') w' ∧ OwnB w' base e A' (n + m) c' (l ++ news) ∧ Below base w w' := by
  obtain ⟨i, hi, hz, hs1, hby⟩ := info_parts hinfo
  have h63' : n + m ≤ maxLen := by unfold maxLen; omega
  have hone := b8_one news
  rcases hown.2 with ⟨rfl, rfl, rfl⟩ | ⟨g, cur, fz, rfl, hbg, hg, hfz, hnc, hcm, hcs, htake⟩
  · have hx : l = [] := List.eq_nil_of_length_eq_zero hown.1
    subst hx
    obtain ⟨v', w', h1, h2, h3, _⟩ := run_append_own (P := P) w base t ty e i (.int .u8 0) 1 1 ht hi hz hs1 hby rfl (by omega) (.slice none 0 0) 0 [] (World.ownsRow_nil _ _ _ _) a m c2 (news.map b8) (by rw [List.length_map, hl, Nat.mul_one]) hnews hone h63' (by omega) hbase
    obtain ⟨A', c', rfl, _⟩ := own_shape h2
    refine ⟨A', c', w', h1, OwnB.of_own (by rw [List.map_append]; exact h2), (Below.refl base w).grown h3 hbase (fun k hk => by simp [Value.ownBlock] at hk)⟩
  · by_cases hroom : n + m ≤ c
    · have hf := run_firstCells_some (P := P) w 1 m a m c2 (news.map b8) (by rw [List.length_map, hl, Nat.mul_one]) hnews
      have hst := run_storeCells_T P g n e fz (news.map b8) 0 cur w hg hfz (by rw [List.length_map]; omega) hone
      simp only [Nat.add_zero, List.length_map] at hst
      have hr : (Builtin.append_ #[t, t] ty #[.slice (some ⟨g, 0, none⟩) n c, .slice (some a) m c2]).run P w = .ok (.slice (some ⟨g, 0, none⟩) (n + m) c) (w.setRow g (cur.toList.take n ++ news.map b8 ++ cur.toList.drop (n + news.length)).toArray) := by
        simp [Builtin.append_, run_underlying ht, sizeOf, typeInfo, hi, hs1, Builtin.lenOf, hroom, hf, Addr.add_lit, hst]
      refine ⟨_, _, _, hr, ⟨by rw [List.length_append, hown.1, hl], .inr ⟨g, _, fz, rfl, hbg, setRow_heap w g cur _ e _ hg, ?_, hroom, hcm, ?_, ?_⟩⟩, ?_⟩
      · intro i hi2
        refine hfz i ?_
        simp only [List.size_toArray, List.length_append, List.length_take, List.length_drop, Array.length_toList, List.length_map] at hi2
        omega
      · simp only [List.size_toArray, List.length_append, List.length_take, List.length_drop, Array.length_toList, List.length_map]
        omega
      · rw [htake, List.map_append]
        have : (l.map b8 ++ news.map b8).length = n + m := by rw [List.length_append, List.length_map, List.length_map, hown.1, hl]
        rw [← this]
        exact List.take_left
      · exact (Below.refl base w).grown (row := some g) ⟨rfl, rfl, rfl, by simp, fun k _ hk => setRow_other w g k _ (fun e => hk (by rw [e]))⟩ hbase (fun k hk => by injection hk with hk; omega)
    · have holds : ∀ j u, (l.map b8)[j]? = some u → w.cell? ((⟨g, 0, none⟩ : Addr).add j) = some u := fun j u hj => by
        have hj' : j < n := by
          have := (List.getElem?_eq_some_iff.1 hj).1
          rw [List.length_map, hown.1] at this; exact this
        have := hown.cell j hj'
        rw [add_zero, this, ← hj, List.getElem?_map, List.getElem?_eq_getElem (by rw [hown.1]; exact hj'), List.getD_eq_getElem?_getD, List.getElem?_eq_getElem (by rw [hown.1]; exact hj')]
        rfl
      have hr := run_append_grow (P := P) w t ty e i (.int .u8 0) ht hi hz ⟨g, 0, none⟩ n c (l.map b8) (by rw [List.length_map, hown.1, hs1, Nat.mul_one]) holds a m c2 (news.map b8) (by rw [List.length_map, hl, hs1, Nat.mul_one]) hnews (by omega) (by omega) (growslice_fits (by omega) (by rw [hby]; omega))
      have hge := grownCap_ge w (n + m) c e
      have hcm2 := grownCap_le_maxLen w (n + m) c e h63'
      refine ⟨_, _, _, hr, OwnB.of_own ⟨by rw [List.length_map, List.length_append, hown.1, hl, Nat.mul_one], .inr ⟨w.heap.size, _, _, rfl, hbase, heap_alloc_new w.drew _, hge, hcm2, ?_, ?_⟩⟩, ?_⟩
      · have hz1 : (Value.int IntKind.u8 0).cells.size = 1 := rfl
        simp only [Array.size_append, List.size_toArray, size_zeroCells, hz1, List.length_map, hown.1, hl]
        omega
      · have : (l.map b8 ++ news.map b8).length = (n + m) * 1 := by rw [List.length_append, List.length_map, List.length_map, hown.1, hl, Nat.mul_one]
        simp only [Array.toList_append, List.map_append, List.append_assoc]
        rw [← List.append_assoc, ← this]
        exact List.take_left
      · exact ((Below.refl base w).drew).alloc hbase _

/-- append(b, x): the byte has just been laid into a block of its own. -/
theorem wpList_append_B {P : Program} (wr : World) {ops : Array Oper} {rest : List Oper} {o : Oper} {a : Act} {Q : Exit → Act → World → Prop} (t : TypeId) (s x : Operand) (hgd : o.guard = none)
    (ho : o.op = .call { callee := .builtin .append, args := #[s, x], argTypes := #[t, t] }) (base : Nat) (e : TypeId)
    (hinfo : (P.info? e).map (fun i => (i.zero, i.size, i.bytes)) = some (some (.int .u8 0), 1, 1)) (ht : P.underlying t = some (.slice e))
    (A : Option Addr) (n c : Nat) (l : List UInt8) (hs : a.eval s = .slice A n c) (hown : OwnB wr base e A n c l)
    (y : UInt8) (hx : a.eval x = .slice (some ⟨wr.heap.size, 0, none⟩) 1 1) (h63 : n + 1 ≤ 140737488355328) (hbase : base ≤ wr.heap.size)
    (h : ∀ A' c' w1, OwnB w1 base e A' (n + 1) c' (l ++ [y]) → Below base wr w1 → wpList P ops Q rest (a.put o.dst (.slice A' (n + 1) c')) w1) :
    wpList P ops Q (o :: rest) a (wr.alloc (.cells #[.int .u8 (y.toNat : Int)] e)) := by
  refine wpList_plain hgd fun K hK => ?_
  have hnw : ∀ j u, ([y].map b8)[j]? = some u → (wr.alloc (.cells #[.int .u8 (y.toNat : Int)] e)).cell? ((⟨wr.heap.size, 0, none⟩ : Addr).add j) = some u := fun j u hj => by
    rw [add_zero, World.cell?_alloc_mark, ← Array.getElem?_toList]
    exact hj
  obtain ⟨A', c', w', hr, h2, h3⟩ := run_append_B (P := P) (wr.alloc (.cells #[.int .u8 (y.toNat : Int)] e)) base t o.type e ht hinfo A n c l (hown.alloc _) ⟨wr.heap.size, 0, none⟩ 1 1 [y] rfl hnw h63 (by omega) (by simp; omega)
  unfold Oper.wp execOp
  simp only [ho, resolve, invoke, builtin, Sem.run_bind, Sem.run_pure, Result.andThen_ok, List.map_toArray, List.map_cons, List.map_nil, hs, hx, hr]
  exact hK _ _ (h A' c' w' h2 (((Below.refl base wr).alloc hbase _).trans h3))

/-- 'b[:k]'. -/
theorem slice_B {P : Program} (w0 : World) (base : Nat) (e : TypeId) (A : Option Addr) (n c : Nat) (l : List UInt8) (h : OwnB w0 base e A n c l) (t : TypeId) (ht : P.underlying t = some (.slice (P.elem t))) (hsz : ∀ w, (sizeOf (P.elem t)).run P w = .ok 1 w) {k : Nat} (hk : k ≤ n) (hn : 0 < n) (w : World) :
    (Instr.slice t (.slice A n c) none (some (.int .i64 (k : Int))) none).run P w = .ok (.slice A k c) w := by
  obtain ⟨g, rfl⟩ := h.shape hn
  have hc := h.cap.1
  rw [run_slice_h w t _ n c ht .i64 (k : Int) (by omega) (by omega), hsz, Int.toNat_natCast]
  show Result.ok (sliced _ 0 k c 1) w = _
  rw [sliced, Nat.zero_mul, Nat.sub_zero, if_neg (by omega)]
  show Result.ok (Value.slice (some (Addr.add ⟨g, 0, none⟩ 0)) k c) w = _
  rw [add_zero]

/-- 'string(b)'. -/
theorem run_string_B {P : Program} (w : World) (src dst e : TypeId) (base : Nat) (A : Option Addr) (n c : Nat) (l : List UInt8) (h : OwnB w base e A n c l)
    (hs : P.underlying src = some (.slice e)) (he : P.underlying e = some (.int .u8)) (hd : P.underlying dst = some .string) :
    (convert src dst (.slice A n c)).run P w = .ok (.string ⟨l.toArray⟩) w := by
  rcases h.2 with ⟨rfl, rfl, rfl⟩ | ⟨g, cur, fz, rfl, _⟩
  · have : l = [] := List.eq_nil_of_length_eq_zero h.1
    subst this
    rw [run_convert_bytes_string w src dst e none 0 0 hs he hd]
    simp [Conv.bytesToString]
    rfl
  · refine run_string_of w src dst e ⟨g, 0, none⟩ n c l h.1 hs he hd fun j hj => ?_
    rw [add_zero, h.cell j (by rw [← h.1]; exact hj), List.getD_eq_getElem?_getD, List.getElem?_eq_getElem hj]; rfl

end Go.Proofs.YtigbnldmjafgmaaDoor

/- A row of strings of one's own: append. -/
namespace Go.Proofs.YtigbnldmjafgmaaDoor
open Go.RowKit
set_option linter.unusedVariables false

/-- Blocks of K are as they were. -/
structure Kept (K : Nat → Prop) (w w' : World) : Prop where
  os : w'.os = w.os
  tape : w'.tape = w.tape
  output : w'.output = w.output
  size : w.heap.size ≤ w'.heap.size
  block : ∀ k, K k → w'.heap[k]? = w.heap[k]?
section
variable {K : Nat → Prop} {w w' w'' : World} {g : Nat}
theorem Kept.refl (K : Nat → Prop) (w : World) : Kept K w w := ⟨rfl, rfl, rfl, Nat.le_refl _, fun _ _ => rfl⟩
theorem Kept.trans (h : Kept K w w') (h2 : Kept K w' w'') : Kept K w w'' := ⟨h2.os.trans h.os, h2.tape.trans h.tape, h2.output.trans h.output, Nat.le_trans h.size h2.size, fun k hk => (h2.block k hk).trans (h.block k hk)⟩
theorem Kept.of_below (h : Below w.heap.size w w') (hK : ∀ k, K k → k < w.heap.size) : Kept K w w' := ⟨h.os, h.tape, h.output, h.size, fun k hk => h.block k (hK k hk)⟩
theorem Kept.of_grown {row : Option Nat} (h : w.grownBy w' row) (hK : ∀ k, K k → k < w.heap.size) (hr : ∀ k, row = some k → ¬ K k) : Kept K w w' := ⟨h.os, h.tape, h.output, h.size, fun k hk => h.block k (hK k hk) (fun e => hr k e.symm hk)⟩
theorem Kept.set (h : Kept K w w') (hg : ¬ K g) (i : Nat) (u : Value) : Kept K w (w'.setCell ⟨g, i, none⟩ u) :=
  ⟨h.os, h.tape, h.output, by rw [size_setCell]; exact h.size, fun k hk => (Below.heap_setCell w' ⟨g, i, none⟩ u k (by rintro rfl; exact hg hk)).trans (h.block k hk)⟩
theorem Kept.drew (h : Kept K w w') : Kept K w w'.drew := ⟨h.os, h.tape, h.output, h.size, h.block⟩
theorem Kept.drewN (h : Kept K w w') (n : Nat) : Kept K w (w'.drewN n) := ⟨h.os, h.tape, h.output, h.size, h.block⟩
theorem Kept.lt (h : Kept K w w') (hK : ∀ k, K k → k < w.heap.size) : ∀ k, K k → k < w'.heap.size := fun k hk => Nat.lt_of_lt_of_le (hK k hk) h.size
theorem Kept.below {B : Nat} (h : Kept (· < B) w w') : Below B w w' := ⟨h.os, h.tape, h.output, h.size, fun k hk => h.block k hk⟩
theorem Kept.weak {K' : Nat → Prop} (h : Kept K w w') (hK : ∀ k, K' k → K k) : Kept K' w w' := ⟨h.os, h.tape, h.output, h.size, fun k hk => h.block k (hK k hk)⟩
end

/-- A slice of strings that lies anywhere in a row of one's own. -/
def OwnS (w : World) (K : Nat → Prop) (A : Option Addr) (n c : Nat) (l : List ByteArray) : Prop :=
  l.length = n ∧ ((A = none ∧ n = 0 ∧ c = 0) ∨
    ∃ g o cur, A = some ⟨g, o, none⟩ ∧ ¬ K g ∧ Blk w g 9 cur ∧ n ≤ c ∧ c ≤ maxLen ∧ cur.size = o + c ∧ (cur.toList.drop o).take n = l.map Value.string)
section
variable {w w' : World} {K : Nat → Prop} {A : Option Addr} {n c g o : Nat} {l : List ByteArray}
theorem OwnS.nil (w : World) (K : Nat → Prop) : OwnS w K none 0 0 [] := ⟨rfl, .inl ⟨rfl, rfl, rfl⟩⟩
theorem OwnS.cap (h : OwnS w K A n c l) : n ≤ c ∧ c ≤ maxLen := by
  rcases h.2 with ⟨_, h1, h2⟩ | ⟨g, o, cur, _, _, _, h1, h2, _⟩
  · omega
  · exact ⟨h1, h2⟩
theorem OwnS.keep (h : OwnS w K A n c l) (hk : ∀ k, ¬ K k → (Value.slice A n c).ownBlock = some k → k < w.heap.size → w'.heap[k]? = w.heap[k]?) : OwnS w' K A n c l := by
  refine ⟨h.1, ?_⟩
  rcases h.2 with h0 | ⟨g, o, cur, hv, hb, hg, rest⟩
  · exact .inl h0
  · exact .inr ⟨g, o, cur, hv, hb, by unfold Blk; rw [hk g hb (by rw [hv]; rfl) hg.lt]; exact hg, rest⟩
theorem OwnS.after (h : OwnS w K A n c l) (hb : Below w.heap.size w w') : OwnS w' K A n c l := h.keep fun k _ _ hk => hb.block k hk
theorem OwnS.alloc (h : OwnS w K A n c l) (o : Obj) : OwnS (w.alloc o) K A n c l := h.keep fun k _ _ hk => Below.heap_alloc w o k hk
theorem OwnS.far (h : OwnS w K A n c l) (hp : (Value.slice A n c).ownBlock ≠ some g) (i : Nat) (u : Value) : OwnS (w.setCell ⟨g, i, none⟩ u) K A n c l :=
  h.keep fun k _ hq _ => Below.heap_setCell w ⟨g, i, none⟩ u k (by rintro rfl; exact hp hq)
theorem OwnS.grown {row : Option Nat} (h : OwnS w K A n c l) (hg : w.grownBy w' row) (hp : ∀ k, row = some k → (Value.slice A n c).ownBlock ≠ some k) : OwnS w' K A n c l :=
  h.keep fun k _ hq hk => hg.block k hk (fun e => hp k e.symm hq)
theorem OwnS.lt (h : OwnS w K A n c l) : ∀ k, (Value.slice A n c).ownBlock = some k → ¬ K k ∧ k < w.heap.size := fun k hk => by
  rcases h.2 with ⟨rfl, _⟩ | ⟨g, o, cur, rfl, hb, hg, _⟩
  · cases hk
  · injection hk with hk
    subst hk
    exact ⟨hb, hg.lt⟩
theorem OwnS.weak {K' : Nat → Prop} (h : OwnS w K A n c l) (hK : ∀ k, (Value.slice A n c).ownBlock = some k → ¬ K' k) : OwnS w K' A n c l := by
  refine ⟨h.1, ?_⟩
  rcases h.2 with h0 | ⟨g, o, cur, hv, hb, rest⟩
  · exact .inl h0
  · exact .inr ⟨g, o, cur, hv, hK g (by rw [hv]; rfl), rest⟩
theorem OwnS.ne_blk {t : TypeId} {cs : Array Value} (h : OwnS w K A n c l) (hg : Blk w g t cs) (ht : 9 ≠ t) : (Value.slice A n c).ownBlock ≠ some g := fun hq => by
  rcases h.2 with ⟨rfl, _⟩ | ⟨g', o, cur, rfl, hb, hg', _⟩
  · cases hq
  · injection hq with hq
    subst hq
    have := hg'.symm.trans hg
    injection this with this
    injection this with _ this _
    exact ht this
theorem OwnS.shape (h : OwnS w K A n c l) (hn : 0 < n) : ∃ g o, A = some ⟨g, o, none⟩ ∧ g < w.heap.size := by
  rcases h.2 with ⟨_, h0, _⟩ | ⟨g, o, _, hv, _, hg, _⟩
  · omega
  · exact ⟨g, o, hv, hg.lt⟩
theorem OwnS.cell (h : OwnS w K (some ⟨g, o, none⟩) n c l) (j : Nat) (hj : j < n) : w.cell? ⟨g, o + j, none⟩ = some (.string (l.getD j ByteArray.empty)) := by
  rcases h.2 with ⟨h0, _⟩ | ⟨g', o', cur, hv, hb, hg, h1, h2, h3, h4⟩
  · cases h0
  · injection hv with hv
    injection hv with hv hv2
    subst hv hv2
    rw [hg.cell, ← Array.getElem?_toList]
    have : ((cur.toList.drop o).take n)[j]? = cur.toList[o + j]? := by rw [List.getElem?_take, if_pos hj, List.getElem?_drop]
    rw [← this, h4, List.getElem?_map, List.getElem?_eq_getElem (by rw [h.1]; exact hj), List.getD_eq_getElem?_getD, List.getElem?_eq_getElem (by rw [h.1]; exact hj)]
    rfl
/-- The first of them. -/
theorem OwnS.short (h : OwnS w K A n c l) (m : Nat) (hm : m ≤ n) : OwnS w K A m c (l.take m) := by
  refine ⟨by rw [List.length_take, h.1]; omega, ?_⟩
  rcases h.2 with ⟨h0, h1, h2⟩ | ⟨g, o, cur, hv, hb, hg, h1, h2, h3, h4⟩
  · exact .inl ⟨h0, by omega, h2⟩
  · refine .inr ⟨g, o, cur, hv, hb, hg, by omega, h2, h3, ?_⟩
    rw [List.map_take, ← h4, List.take_take, Nat.min_eq_left hm]
/-- All but the first of them. -/
theorem OwnS.tail (h : OwnS w K (some ⟨g, o, none⟩) (n + 1) c l) : OwnS w K (some ⟨g, o + 1, none⟩) n (c - 1) (l.drop 1) := by
  refine ⟨by rw [List.length_drop, h.1]; omega, ?_⟩
  rcases h.2 with ⟨h0, _⟩ | ⟨g', o', cur, hv, hb, hg, h1, h2, h3, h4⟩
  · cases h0
  · injection hv with hv
    injection hv with hv hv2
    subst hv hv2
    refine .inr ⟨g, o + 1, cur, rfl, hb, hg, by omega, by omega, by omega, ?_⟩
    rw [List.map_drop, ← h4, List.drop_take, List.drop_drop]
    congr 1
end

/-- append of one string. -/
theorem run_append_S {P : Program} (w : World) (K : Nat → Prop) (t ty : TypeId) (ht : P.underlying t = some (.slice 9)) (hinfo : (P.info? 9).map (fun i => (i.zero, i.size, i.bytes)) = some (some (.string ⟨#[]⟩), 1, 16))
    (A : Option Addr) (n c : Nat) (l : List ByteArray) (hown : OwnS w K A n c l) (a : Addr) (c2 : Nat) (x : ByteArray) (hx : w.cell? a = some (.string x)) (ha : a.spot = none)
    (h63 : n ≤ 8000000000000) (hK : ∀ k, K k → k < w.heap.size) :
    ∃ A' c' w', (Builtin.append_ #[t, t] ty #[.slice A n c, .slice (some a) 1 c2]).run P w = .ok (.slice A' (n + 1) c') w' ∧ OwnS w' K A' (n + 1) c' (l ++ [x]) ∧ w.grownBy w' (Value.slice A n c).ownBlock ∧
      (∀ k, (Value.slice A' (n + 1) c').ownBlock = some k → (Value.slice A n c).ownBlock = some k ∨ w.heap.size ≤ k) := by
  obtain ⟨i, hi, hz, hs1, hby⟩ := info_parts hinfo
  have hnews : ∀ j u, ([.string x] : List Value)[j]? = some u → w.cell? (a.add j) = some u := fun j u hj => by
    cases j with
    | zero => injection hj with hj; subst hj; obtain ⟨b, o, s⟩ := a; simp only at ha; subst ha; rw [add_at, Nat.add_zero]; exact hx
    | succ j => simp at hj
  have h1 : ∀ u ∈ ([.string x] : List Value), u.oneCell' = true := by simp [Value.oneCell']
  have hll : (l ++ [x]).length = n + 1 := by rw [List.length_append, hown.1]; rfl
  rcases hown.2 with ⟨rfl, rfl, rfl⟩ | ⟨g, o, cur, rfl, hb, hg, hnc, hcm, hcs, htake⟩
  · have hl : l = [] := List.eq_nil_of_length_eq_zero hown.1
    subst hl
    have hr := run_append_nil (P := P) w t ty 9 i _ ht hi hz a 1 c2 [.string x] (by rw [hs1]; rfl) hnews (by omega) (by omega) (by rw [hby]; decide)
    refine ⟨_, _, _, hr, ⟨hll, .inr ⟨w.heap.size, 0, _, rfl, fun hk => Nat.lt_irrefl _ (hK _ hk), Blk.new w.drew _ _, grownCap_ge w 1 0 _, grownCap_le_maxLen w 1 0 _ (by unfold maxLen; omega), ?_, ?_⟩⟩, ⟨rfl, rfl, rfl, by simp, fun k hk _ => Below.heap_alloc w.drew _ k hk⟩, fun k hk => ?_⟩
    · have := grownCap_ge w 1 0 9
      simp only [Array.size_append, List.size_toArray, size_zeroCells, List.length_singleton]
      show 1 + (_ - 1) * 1 = _
      omega
    · simp
    · have hk : w.heap.size = k := by injection hk
      exact .inr (by omega)
  · by_cases hroom : n + 1 ≤ c
    · have hf := run_firstCells_some (P := P) w i.size 1 a 1 c2 [.string x] (by rw [hs1]; rfl) hnews
      have hst := run_storeCells_T P g (o + n) 9 (0, 0) [.string x] 0 cur w hg (fun i _ hh => by omega) (by simp; omega) h1
      simp only [Nat.add_zero] at hst
      have hr : (Builtin.append_ #[t, t] ty #[.slice (some ⟨g, o, none⟩) n c, .slice (some a) 1 c2]).run P w =
          .ok (.slice (some ⟨g, o, none⟩) (n + 1) c) (w.setRow g (cur.toList.take (o + n) ++ [Value.string x] ++ cur.toList.drop (o + n + [Value.string x].length)).toArray) := by
        rw [hs1] at hf
        simp [Builtin.append_, run_underlying ht, sizeOf, typeInfo, hi, Builtin.lenOf, hroom, hf, add_at, hs1, hst]
      refine ⟨_, _, _, hr, ⟨hll, .inr ⟨g, o, _, rfl, hb, setRow_heap w g cur _ _ _ hg, hroom, hcm, ?_, ?_⟩⟩, ⟨rfl, rfl, rfl, by simp, fun k _ hk => setRow_other w g k _ (fun e => hk (by simp [Value.ownBlock, e]))⟩, fun k hk => .inl hk⟩
      · simp only [List.size_toArray, List.length_append, List.length_take, List.length_drop, Array.length_toList, List.length_singleton]; omega
      · rw [List.map_append, ← htake]
        have hlen : (cur.toList.take (o + n)).length = o + n := by rw [List.length_take, Array.length_toList]; omega
        rw [List.append_assoc, List.drop_append_of_le_length (by omega), List.drop_take, show o + n - o = n from by omega]
        have hl2 : ((cur.toList.drop o).take n).length = n := by rw [List.length_take, List.length_drop, Array.length_toList]; omega
        rw [List.take_append, List.take_of_length_le (by omega), hl2, show n + 1 - n = 1 from by omega]
        rfl
    · have holds : ∀ j u, (l.map Value.string)[j]? = some u → w.cell? ((⟨g, o, none⟩ : Addr).add j) = some u := fun j u hj => by
        have hj' : j < n := by have := (List.getElem?_eq_some_iff.1 hj).1; rw [List.length_map, hown.1] at this; exact this
        rw [add_at, hg.cell, ← Array.getElem?_toList, ← hj, ← htake, List.getElem?_take, if_pos hj', List.getElem?_drop]
      have hr := run_append_grow (P := P) w t ty 9 i _ ht hi hz ⟨g, o, none⟩ n c (l.map Value.string) (by rw [List.length_map, hown.1, hs1]; omega) holds a 1 c2 [.string x] (by rw [hs1]; rfl) hnews (by omega) (by omega) (growslice_fits (by omega) (by rw [hby]; omega))
      refine ⟨_, _, _, hr, ⟨hll, .inr ⟨w.heap.size, 0, _, rfl, fun hk => Nat.lt_irrefl _ (hK _ hk), Blk.new w.drew _ _, grownCap_ge w (n + 1) c _, grownCap_le_maxLen w (n + 1) c _ (by unfold maxLen; omega), ?_, ?_⟩⟩, ⟨rfl, rfl, rfl, by simp, fun k hk _ => Below.heap_alloc w.drew _ k hk⟩, fun k hk => ?_⟩
      · have := grownCap_ge w (n + 1) c 9
        simp only [Array.size_append, List.size_toArray, size_zeroCells, List.length_singleton, List.length_map, hown.1]
        show n + 1 + (_ - (n + 1)) * 1 = _
        omega
      · rw [List.drop_zero, Array.toList_append, Array.toList_append, List.take_append_of_le_length (by simp [hown.1]), List.take_of_length_le (by simp [hown.1])]
        simp
      · have hk : w.heap.size = k := by injection hk
        exact .inr (by omega)

/-- append of one string, as one step of a region that draws. -/
theorem step_append_S {P : Program} {w : World} {ops : Array Oper} {o : Oper} {a : Act} {Kq : Act → World → Prop} {Q : Exit → Act → World → Prop} {E : Prop} (hgd : o.guard = none) (s x : Operand) (t : TypeId)
    (ho : o.op = .call { callee := .builtin .append, args := #[s, x], argTypes := #[t, t] }) (K : Nat → Prop)
    (hinfo : (P.info? 9).map (fun i => (i.zero, i.size, i.bytes)) = some (some (.string ⟨#[]⟩), 1, 16)) (ht : P.underlying t = some (.slice 9))
    (A : Option Addr) (n c : Nat) (l : List ByteArray) (hs : a.eval s = .slice A n c) (hown : OwnS w K A n c l)
    (ad : Addr) (c2 : Nat) (y : ByteArray) (hx : a.eval x = .slice (some ad) 1 c2) (hy : w.cell? ad = some (.string y)) (had : ad.spot = none)
    (h63 : n ≤ 8000000000000) (hK : ∀ k, K k → k < w.heap.size)
    (h : ∀ A' c' w1, OwnS w1 K A' (n + 1) c' (l ++ [y]) → w.grownBy w1 (Value.slice A n c).ownBlock → (∀ k, (Value.slice A' (n + 1) c').ownBlock = some k → (Value.slice A n c).ownBlock = some k ∨ w.heap.size ≤ k) → Kq (a.put o.dst (.slice A' (n + 1) c')) w1) :
    if Region.wanted o (yielded ops a.tmps) = true then Oper.wp P o a w Kq Q else E := by
  rw [if_pos (by simp [Region.wanted, hgd])]
  obtain ⟨A', c', w1, hr, h1, h2, h3⟩ := run_append_S (P := P) w K t o.type ht hinfo A n c l hown ad c2 y hy had h63 hK
  unfold Oper.wp execOp
  simp only [ho, resolve, invoke, builtin, Sem.run_bind, Sem.run_pure, Result.andThen_ok, List.map_toArray, List.map_cons, List.map_nil, hs, hx, hr]
  exact h A' c' w1 h1 h2 h3

theorem infoStrE : (Tryd.prog.info? 9).map (fun i => (i.zero, i.size, i.bytes)) = some (some (.string ⟨#[]⟩), 1, 16) := by kernel_rfl
end Go.Proofs.YtigbnldmjafgmaaDoor

/- An editor of a text: how it lies in memory, and its methods' walks. -/
namespace Go.Proofs.YtigbnldmjafgmaaDoor
open Go.RowKit
set_option linter.unusedVariables false

/-- An editor lies there: its text, and what is kept to go back and onward. -/
structure EdAt (w : World) (K : Nat → Prop) (g : Nat) (s : ByteArray) (B O : List ByteArray) : Prop where
  ex : ∃ (Ab : Option Addr) (nb cb : Nat) (Ao : Option Addr) (no co : Nat), Blk w g 91 #[.string s, .slice Ab nb cb, .slice Ao no co] ∧ OwnS w K Ab nb cb B ∧ OwnS w K Ao no co O ∧
    (∀ k, (Value.slice Ab nb cb).ownBlock = some k → (Value.slice Ao no co).ownBlock ≠ some k)
  off : ¬ K g
theorem EdAt.lt {w : World} {K : Nat → Prop} {g : Nat} {s : ByteArray} {B O : List ByteArray} (h : EdAt w K g s B O) : g < w.heap.size := by
  obtain ⟨⟨_, _, _, _, _, _, h, _⟩, _⟩ := h
  exact h.lt
theorem EdAt.after {w w' : World} {K : Nat → Prop} {g : Nat} {s : ByteArray} {B O : List ByteArray} (h : EdAt w K g s B O) (hb : Below w.heap.size w w') : EdAt w' K g s B O := by
  obtain ⟨⟨Ab, nb, cb, Ao, no, co, h1, h2, h3, h4⟩, h5⟩ := h
  exact ⟨⟨Ab, nb, cb, Ao, no, co, h1.after hb, h2.after hb, h3.after hb, h4⟩, h5⟩
/-- Other blocks are to be kept: such as are not the editor's own. -/
theorem EdAt.weak {w : World} {K K' : Nat → Prop} {g : Nat} {s : ByteArray} {B O : List ByteArray} (h : EdAt w K g s B O) (hK : ∀ k, K' k → K k ∨ w.heap.size ≤ k) : EdAt w K' g s B O := by
  have hg := h.lt
  obtain ⟨⟨Ab, nb, cb, Ao, no, co, h1, h2, h3, h4⟩, h5⟩ := h
  refine ⟨⟨Ab, nb, cb, Ao, no, co, h1, h2.weak fun k hk hq => ?_, h3.weak fun k hk hq => ?_, h4⟩, fun hq => ?_⟩
  · have := h2.lt k hk
    rcases hK k hq with h | h
    · exact this.1 h
    · omega
  · have := h3.lt k hk
    rcases hK k hq with h | h
    · exact this.1 h
    · omega
  · rcases hK g hq with h | h
    · exact h5 h
    · omega

theorem EdAt.grown {w w' : World} {K : Nat → Prop} {g : Nat} {s : ByteArray} {B O : List ByteArray} {row : Option Nat} (h : EdAt w K g s B O) (hg : w.grownBy w' row) (hrow : ∀ k, row = some k → K k) : EdAt w' K g s B O := by
  obtain ⟨⟨Ab, nb, cb, Ao, no, co, h1, h2, h3, h4⟩, h5⟩ := h
  exact ⟨⟨Ab, nb, cb, Ao, no, co, h1.grown hg (fun hq => h5 (hrow g hq)), h2.grown hg (fun k hk hq => (h2.lt k hq).1 (hrow k hk)), h3.grown hg (fun k hk hq => (h3.lt k hq).1 (hrow k hk)), h4⟩, h5⟩

theorem text_any (g : Nat) (s : ByteArray) (B O : List ByteArray) (K : Nat → Prop) (w : World) (h : EdAt w K g s B O) :
    Calls Tryd.prog 33 #[.pointer (some ⟨g, 0, none⟩)] w fun e w' => e = .returned (.string s) ∧ w = w' := by
  obtain ⟨⟨Ab, nb, cb, Ao, no, co, h1, h2, h3, h4⟩, h5⟩ := h
  have c0 : w.cell? ⟨g, 0, none⟩ = some (.string s) := h1.cell 0
  go_enter Tryd.func33, Tryd.ntmps33
  go_wp2
  go_ret
  exact ⟨rfl, rfl⟩
theorem newE_ok (s : ByteArray) (hs : s.size ≤ 200) (K : Nat → Prop) (w : World) (hK : ∀ k, K k → k < w.heap.size) :
    Calls Tryd.prog 28 #[.string s] w fun e w' => e = .returned (.tuple #[.pointer (some ⟨w.heap.size, 0, none⟩), .int .i64 0]) ∧ EdAt w' K w.heap.size s [] [] ∧ Below w.heap.size w w' ∧ w'.heap.size = w.heap.size + 1 := by
  have q1 : decide (200 < (s.size : Int)) = false := decide_eq_false (by omega)
  have q1' : decide (200 < s.size) = false := decide_eq_false (by omega)
  go_enter Tryd.func28, Tryd.ntmps28
  go_wp2
  go_ret2
  exact ⟨rfl, ⟨⟨none, 0, 0, none, 0, 0, Blk.new w _ _, OwnS.nil _ _, OwnS.nil _ _, fun k hk => by cases hk⟩, fun hk => Nat.lt_irrefl _ (hK _ hk)⟩, (Below.refl w.heap.size w).alloc (Nat.le_refl _) _, by simp⟩
theorem newE_no (s : ByteArray) (hs : 200 < s.size) (w : World) :
    Calls Tryd.prog 28 #[.string s] w fun e w' => e = .returned (.tuple #[.pointer none, .int .i64 2]) ∧ w = w' := by
  have q1 : decide (200 < (s.size : Int)) = true := decide_eq_true (by omega)
  have q1' : decide (200 < s.size) = true := decide_eq_true (by omega)
  go_enter Tryd.func28, Tryd.ntmps28
  go_wp2
  go_ret2
  exact ⟨rfl, rfl⟩

theorem undo_no (g : Nat) (s : ByteArray) (O : List ByteArray) (K : Nat → Prop) (w : World) (h : EdAt w K g s [] O) :
    Calls Tryd.prog 30 #[.pointer (some ⟨g, 0, none⟩)] w fun e w' => e = .returned (.int .i64 4) ∧ Below w.heap.size w w' := by
  obtain ⟨⟨Ab, nb, cb, Ao, no, co, h1, h2, h3, h4⟩, h5⟩ := h
  have c1 : w.cell? ⟨g, 1, none⟩ = some (.slice Ab nb cb) := h1.cell 1
  have hn0 : nb = 0 := h2.1.symm
  subst hn0
  go_enter Tryd.func30, Tryd.ntmps30
  go_wp2
  go_ret
  exact ⟨rfl, Below.refl _ _⟩
theorem redo_no (g : Nat) (s : ByteArray) (B : List ByteArray) (K : Nat → Prop) (w : World) (h : EdAt w K g s B []) :
    Calls Tryd.prog 31 #[.pointer (some ⟨g, 0, none⟩)] w fun e w' => e = .returned (.int .i64 4) ∧ Below w.heap.size w w' := by
  obtain ⟨⟨Ab, nb, cb, Ao, no, co, h1, h2, h3, h4⟩, h5⟩ := h
  have c1 : w.cell? ⟨g, 2, none⟩ = some (.slice Ao no co) := h1.cell 2
  have hn0 : no = 0 := h3.1.symm
  subst hn0
  go_enter Tryd.func31, Tryd.ntmps31
  go_wp2
  go_ret
  exact ⟨rfl, Below.refl _ _⟩
set_option maxHeartbeats 1000000 in
theorem do_no (g : Nat) (s : ByteArray) (hs : s.size ≤ 140737488355328) (B O : List ByteArray) (K : Nat → Prop) (w : World) (h : EdAt w K g s B O) (A : Option Addr) (len c B0 : Nat) (l : List Ed) (hlen : len ≤ 4398046511104) (hl : l.length = len) (ho : ∀ x ∈ l, (-9223372036854775808 ≤ x.1 ∧ x.1 ≤ 9223372036854775807) ∧ (-9223372036854775808 ≤ x.2.1 ∧ x.2.1 ≤ 9223372036854775807) ∧ (x.2.2).size ≤ 140737488351232)
    (E : Int) (hE : checkE s.size l = E) (hE0 : E ≠ 0) (hr : Reads w B0 A len 3 (l.flatMap cEdit)) (hB0 : B0 ≤ w.heap.size) :
    Calls Tryd.prog 29 #[.pointer (some ⟨g, 0, none⟩), .slice A len c] w fun e w' => e = .returned (.int .i64 E) ∧ Below w.heap.size w w' := by
  obtain ⟨⟨Ab, nb, cb, Ao, no, co, h1, h2, h3, h4⟩, h5⟩ := h
  have c0 : w.cell? ⟨g, 0, none⟩ = some (.string s) := h1.cell 0
  have Hap := Lib.hid (apply_no s hs A len c B0 l hlen hl ho E hE hE0 w hr hB0)
  have q0 : (E != 0) = true := by simpa using hE0
  clear ho hE hr hl
  go_enter Tryd.func29, Tryd.ntmps29
  go_wp2_with fail
  refine Hap.out.mono ?_
  rintro e w1 ⟨rfl, hb1⟩
  go_wp2
  go_ret
  exact ⟨rfl, hb1⟩
set_option maxHeartbeats 1000000 in
theorem do_nil (g : Nat) (s : ByteArray) (hs : s.size ≤ 200) (B O : List ByteArray) (K : Nat → Prop) (w : World) (h : EdAt w K g s B O) (A : Option Addr) (c : Nat) :
    Calls Tryd.prog 29 #[.pointer (some ⟨g, 0, none⟩), .slice A 0 c] w fun e w' => e = .returned (.int .i64 5) ∧ Below w.heap.size w w' := by
  obtain ⟨⟨Ab, nb, cb, Ao, no, co, h1, h2, h3, h4⟩, h5⟩ := h
  have c0 : w.cell? ⟨g, 0, none⟩ = some (.string s) := h1.cell 0
  have hE : checkE s.size [] = 0 := by unfold checkE; rw [if_neg (by omega), if_neg (by simp)]; unfold chk; rw [if_neg (by omega)]
  have Hap := Lib.hid (apply_ok s A 0 c w.heap.size [] rfl hE w ⟨rfl, fun h => absurd h (by omega)⟩ (Nat.le_refl _))
  clear hE
  go_enter Tryd.func29, Tryd.ntmps29
  go_wp2_with fail
  refine Hap.out.mono ?_
  rintro e w1 ⟨rfl, hb1⟩
  go_wp2
  go_ret
  exact ⟨rfl, hb1⟩

set_option maxHeartbeats 4000000 in
theorem undo_yes (g : Nat) (s : ByteArray) (B O : List ByteArray) (t : ByteArray) (K : Nat → Prop) (w : World) (hK : ∀ k, K k → k < w.heap.size) (hO : O.length ≤ 1000000) (hB : B.length ≤ 1000000) (h : EdAt w K g s (B ++ [t]) O) :
    Calls Tryd.prog 30 #[.pointer (some ⟨g, 0, none⟩)] w fun e w' => e = .returned (.int .i64 0) ∧ EdAt w' K g t B (O ++ [s]) ∧ Kept K w w' := by
  obtain ⟨⟨Ab, nb, cb, Ao, no, co, h1, h2, h3, h4a⟩, h5⟩ := h
  have h4 : ∀ k, (Value.slice Ab nb cb).ownBlock = some k → (Value.slice Ao no co).ownBlock ≠ some k := h4a
  clear h4a
  have c0 : w.cell? ⟨g, 0, none⟩ = some (.string s) := h1.cell 0
  have c1 : w.cell? ⟨g, 1, none⟩ = some (.slice Ab nb cb) := h1.cell 1
  have c2 : w.cell? ⟨g, 2, none⟩ = some (.slice Ao no co) := h1.cell 2
  have hnb : nb = B.length + 1 := by rw [← h2.1, List.length_append]; rfl
  have hno : O.length = no := h3.1
  obtain ⟨m, hm⟩ : ∃ m, m = B.length := ⟨_, rfl⟩
  rw [← hm] at hnb
  have Hm := Lib.hid hm
  have hno8 : no ≤ 8000000000000 := by omega
  have hmB : m ≤ 1000000 := by omega
  subst hnb
  clear hm hno
  have q0 : ((m : Int) + 1 == 0) = false := by rw [beq_eq_false_iff_ne]; omega
  go_enter Tryd.func30, Tryd.ntmps30
  go_wp2
  have hZ : Blk (w.alloc (Obj.cells #[.string s] 9)).drew g 91 #[.string s, .slice Ab (m + 1) cb, .slice Ao no co] := h1.alloc (Obj.cells #[.string s] 9)
  have hneO : (Value.slice Ao no co).ownBlock ≠ some g := h3.ne_blk h1 (by decide)
  have hnw : (w.alloc (Obj.cells #[.string s] 9)).drew.cell? ⟨w.heap.size, 0, none⟩ = some (.string s) := by
    show (w.alloc _).cell? _ = _
    rw [World.cell?_alloc_mark]; rfl
  have f2 : w.frozen? ⟨g, 2, none⟩ = false := h1.frozen 2
  have z2 := hZ.cell 2
  have hh4 : ∀ k, (Value.slice Ab (m + 1) cb).ownBlock = some k → (Value.slice Ao no co).ownBlock ≠ some k := h4
  have hbz : Below w.heap.size w (w.alloc (Obj.cells #[.string s] 9)).drew := ((Below.refl w.heap.size w).alloc (Nat.le_refl _) _).drew
  have hwz : (w.alloc (Obj.cells #[.string s] 9)).drew.heap.size = w.heap.size + 1 := by show (w.alloc _).heap.size = _; simp
  go_region_law ((refine step_append_S rfl (.tmp 15) (.tmp 20) 33 rfl K infoStrE Tryd.underlying33 Ao no co O (by simp [Act.eval]) (h3.alloc _) ⟨w.heap.size, 0, none⟩ 1 s (by simp [Act.eval]) hnw rfl (by omega) (fun k hk => by have := hK k hk; show k < (w.alloc _).heap.size; simp; omega) ?_; intro A3 c3 w4 hown4 hg4 hp4; have y2 := (Blk.grown hZ hg4 hneO).cell 2; have yf := (Blk.grown hZ hg4 hneO).frozen 2))
  all_goals
    have hX5 : Blk (w4.setCell ⟨g, 2, none⟩ (.slice A3 (no + 1) c3)) g 91 #[.string s, .slice Ab (m + 1) cb, .slice A3 (no + 1) c3] := (Blk.grown hZ hg4 hneO).set_ 2 _
    have hB5 : OwnS (w4.setCell ⟨g, 2, none⟩ (.slice A3 (no + 1) c3)) K Ab (m + 1) cb (B ++ [t]) := ((h2.after hbz).grown hg4 (fun k hk => by intro hq; exact h4 k hq hk)).far (h2.ne_blk h1 (by decide)) 2 _
    have hO5 : OwnS (w4.setCell ⟨g, 2, none⟩ (.slice A3 (no + 1) c3)) K A3 (no + 1) c3 (O ++ [s]) := hown4.far (hown4.ne_blk (Blk.grown hZ hg4 hneO) (by decide)) 2 _
    have hd5 : ∀ k, (Value.slice Ab (m + 1) cb).ownBlock = some k → (Value.slice A3 (no + 1) c3).ownBlock ≠ some k := fun k hk hq => by
      rcases hp4 k hq with h | h
      · exact h4 k hk h
      · have := (h2.lt k hk).2; omega
    have hk5 : Kept K w (w4.setCell ⟨g, 2, none⟩ (.slice A3 (no + 1) c3)) := ((Kept.of_below hbz hK).trans (Kept.of_grown hg4 (fun k hk => by have := hK k hk; omega) (fun k hk => (h3.lt k hk).1))).set h5 2 _
    generalize w4.setCell ⟨g, 2, none⟩ (.slice A3 (no + 1) c3) = w5 at *
    clear hZ hg4 hp4 hown4 y2 yf z2 hnw hneO c0 c1 c2 f2 h1 h2 h3 h4 hh4 hbz hwz
  all_goals
    obtain ⟨gb, ob, rfl, hgb⟩ := hB5.shape (by omega)
    have c0 : w5.cell? ⟨g, 0, none⟩ = some (.string s) := hX5.cell 0
    have c1 : w5.cell? ⟨g, 1, none⟩ = some (.slice (some ⟨gb, ob, none⟩) (m + 1) cb) := hX5.cell 1
    have f0 : w5.frozen? ⟨g, 0, none⟩ = false := hX5.frozen 0
    have f1 : w5.frozen? ⟨g, 1, none⟩ = false := hX5.frozen 1
    have ct := hB5.cell m (by omega)
    rw [getD_app_right _ _ _ _ (by have := Hm.out; omega), ← Hm.out, Nat.sub_self] at ct
    simp only [List.getD_cons_zero] at ct
    have hcap := hB5.cap
    have wm : IntKind.i64.wrap ((m : Int) + 1 - 1) = (m : Int) := by rw [IntKind.wrap_i64]; unfold maxLen at hcap; omega
    have hne : gb ≠ g := fun e => hB5.ne_blk hX5 (by decide) (by rw [e]; rfl)
    have hm1 : (m : Int) ≤ (cb : Int) := by omega
    have hm2 : (m : Int) < (m : Int) + 1 := by omega
    have hm0 : (0 : Int) ≤ (m : Int) := by omega
    have hc9 : cb ≤ 9223372036854775807 := by unfold maxLen at hcap; omega
    clear hcap
    go_wp2
  all_goals
    go_region
    go_wp2
    go_ret
    have hX6 : Blk ((w5.setCell ⟨g, 0, none⟩ (.string t)).setCell ⟨g, 1, none⟩ (.slice (some ⟨gb, ob, none⟩) m cb)) g 91 #[.string t, .slice (some ⟨gb, ob, none⟩) m cb, .slice A3 (no + 1) c3] := (hX5.set_ 0 _).set_ 1 _
    have hB6 := hB5.short m (by omega)
    rw [List.take_left' Hm.out.symm] at hB6
    refine ⟨rfl, ⟨⟨some ⟨gb, ob, none⟩, m, cb, A3, no + 1, c3, hX6, (hB6.far (fun e => hB5.ne_blk hX5 (by decide) e) 0 _).far (fun e => hB5.ne_blk hX5 (by decide) e) 1 _, (hO5.far (hO5.ne_blk hX5 (by decide)) 0 _).far (hO5.ne_blk hX5 (by decide)) 1 _, fun k hk => hd5 k hk⟩, h5⟩, ((hk5.set h5 0 _).set h5 1 _).drew⟩
set_option maxHeartbeats 4000000 in
theorem redo_yes (g : Nat) (s : ByteArray) (B O : List ByteArray) (t : ByteArray) (K : Nat → Prop) (w : World) (hK : ∀ k, K k → k < w.heap.size) (hO : O.length ≤ 1000000) (hB : B.length ≤ 1000000) (h : EdAt w K g s B (O ++ [t])) :
    Calls Tryd.prog 31 #[.pointer (some ⟨g, 0, none⟩)] w fun e w' => e = .returned (.int .i64 0) ∧ EdAt w' K g t (B ++ [s]) O ∧ Kept K w w' := by
  obtain ⟨⟨Ao, no, co, Ab, nb, cb, h1, h3, h2, h4a⟩, h5⟩ := h
  have h4 : ∀ k, (Value.slice Ab nb cb).ownBlock = some k → (Value.slice Ao no co).ownBlock ≠ some k := fun k hk hq => h4a k hq hk
  clear h4a
  have c0 : w.cell? ⟨g, 0, none⟩ = some (.string s) := h1.cell 0
  have c1 : w.cell? ⟨g, 2, none⟩ = some (.slice Ab nb cb) := h1.cell 2
  have c2 : w.cell? ⟨g, 1, none⟩ = some (.slice Ao no co) := h1.cell 1
  have hnb : nb = O.length + 1 := by rw [← h2.1, List.length_append]; rfl
  have hno : B.length = no := h3.1
  obtain ⟨m, hm⟩ : ∃ m, m = O.length := ⟨_, rfl⟩
  rw [← hm] at hnb
  have Hm := Lib.hid hm
  have hno8 : no ≤ 8000000000000 := by omega
  have hmB : m ≤ 1000000 := by omega
  subst hnb
  clear hm hno
  have q0 : ((m : Int) + 1 == 0) = false := by rw [beq_eq_false_iff_ne]; omega
  go_enter Tryd.func31, Tryd.ntmps31
  go_wp2
  have hZ : Blk (w.alloc (Obj.cells #[.string s] 9)).drew g 91 #[.string s, .slice Ao no co, .slice Ab (m + 1) cb] := h1.alloc (Obj.cells #[.string s] 9)
  have hneO : (Value.slice Ao no co).ownBlock ≠ some g := h3.ne_blk h1 (by decide)
  have hnw : (w.alloc (Obj.cells #[.string s] 9)).drew.cell? ⟨w.heap.size, 0, none⟩ = some (.string s) := by
    show (w.alloc _).cell? _ = _
    rw [World.cell?_alloc_mark]; rfl
  have f2 : w.frozen? ⟨g, 1, none⟩ = false := h1.frozen 1
  have z2 := hZ.cell 1
  have hh4 : ∀ k, (Value.slice Ab (m + 1) cb).ownBlock = some k → (Value.slice Ao no co).ownBlock ≠ some k := h4
  have hbz : Below w.heap.size w (w.alloc (Obj.cells #[.string s] 9)).drew := ((Below.refl w.heap.size w).alloc (Nat.le_refl _) _).drew
  have hwz : (w.alloc (Obj.cells #[.string s] 9)).drew.heap.size = w.heap.size + 1 := by show (w.alloc _).heap.size = _; simp
  go_region_law ((refine step_append_S rfl (.tmp 15) (.tmp 20) 33 rfl K infoStrE Tryd.underlying33 Ao no co B (by simp [Act.eval]) (h3.alloc _) ⟨w.heap.size, 0, none⟩ 1 s (by simp [Act.eval]) hnw rfl (by omega) (fun k hk => by have := hK k hk; show k < (w.alloc _).heap.size; simp; omega) ?_; intro A3 c3 w4 hown4 hg4 hp4; have y2 := (Blk.grown hZ hg4 hneO).cell 1; have yf := (Blk.grown hZ hg4 hneO).frozen 1))
  all_goals
    have hX5 : Blk (w4.setCell ⟨g, 1, none⟩ (.slice A3 (no + 1) c3)) g 91 #[.string s, .slice A3 (no + 1) c3, .slice Ab (m + 1) cb] := (Blk.grown hZ hg4 hneO).set_ 1 _
    have hB5 : OwnS (w4.setCell ⟨g, 1, none⟩ (.slice A3 (no + 1) c3)) K Ab (m + 1) cb (O ++ [t]) := ((h2.after hbz).grown hg4 (fun k hk => by intro hq; exact h4 k hq hk)).far (h2.ne_blk h1 (by decide)) 1 _
    have hO5 : OwnS (w4.setCell ⟨g, 1, none⟩ (.slice A3 (no + 1) c3)) K A3 (no + 1) c3 (B ++ [s]) := hown4.far (hown4.ne_blk (Blk.grown hZ hg4 hneO) (by decide)) 1 _
    have hd5 : ∀ k, (Value.slice Ab (m + 1) cb).ownBlock = some k → (Value.slice A3 (no + 1) c3).ownBlock ≠ some k := fun k hk hq => by
      rcases hp4 k hq with h | h
      · exact h4 k hk h
      · have := (h2.lt k hk).2; omega
    have hk5 : Kept K w (w4.setCell ⟨g, 1, none⟩ (.slice A3 (no + 1) c3)) := ((Kept.of_below hbz hK).trans (Kept.of_grown hg4 (fun k hk => by have := hK k hk; omega) (fun k hk => (h3.lt k hk).1))).set h5 1 _
    generalize w4.setCell ⟨g, 1, none⟩ (.slice A3 (no + 1) c3) = w5 at *
    clear hZ hg4 hp4 hown4 y2 yf z2 hnw hneO c0 c1 c2 f2 h1 h2 h3 h4 hh4 hbz hwz
  all_goals
    obtain ⟨gb, ob, rfl, hgb⟩ := hB5.shape (by omega)
    have c0 : w5.cell? ⟨g, 0, none⟩ = some (.string s) := hX5.cell 0
    have c1 : w5.cell? ⟨g, 2, none⟩ = some (.slice (some ⟨gb, ob, none⟩) (m + 1) cb) := hX5.cell 2
    have f0 : w5.frozen? ⟨g, 0, none⟩ = false := hX5.frozen 0
    have f1 : w5.frozen? ⟨g, 2, none⟩ = false := hX5.frozen 2
    have ct := hB5.cell m (by omega)
    rw [getD_app_right _ _ _ _ (by have := Hm.out; omega), ← Hm.out, Nat.sub_self] at ct
    simp only [List.getD_cons_zero] at ct
    have hcap := hB5.cap
    have wm : IntKind.i64.wrap ((m : Int) + 1 - 1) = (m : Int) := by rw [IntKind.wrap_i64]; unfold maxLen at hcap; omega
    have hne : gb ≠ g := fun e => hB5.ne_blk hX5 (by decide) (by rw [e]; rfl)
    have hm1 : (m : Int) ≤ (cb : Int) := by omega
    have hm2 : (m : Int) < (m : Int) + 1 := by omega
    have hm0 : (0 : Int) ≤ (m : Int) := by omega
    have hc9 : cb ≤ 9223372036854775807 := by unfold maxLen at hcap; omega
    clear hcap
    go_wp2
  all_goals
    go_region
    go_wp2
    go_ret
    have hX6 : Blk ((w5.setCell ⟨g, 0, none⟩ (.string t)).setCell ⟨g, 2, none⟩ (.slice (some ⟨gb, ob, none⟩) m cb)) g 91 #[.string t, .slice A3 (no + 1) c3, .slice (some ⟨gb, ob, none⟩) m cb] := (hX5.set_ 0 _).set_ 2 _
    have hB6 := hB5.short m (by omega)
    rw [List.take_left' Hm.out.symm] at hB6
    refine ⟨rfl, ⟨⟨A3, no + 1, c3, some ⟨gb, ob, none⟩, m, cb, hX6, (hO5.far (hO5.ne_blk hX5 (by decide)) 0 _).far (hO5.ne_blk hX5 (by decide)) 2 _, (hB6.far (fun e => hB5.ne_blk hX5 (by decide) e) 0 _).far (fun e => hB5.ne_blk hX5 (by decide) e) 2 _, fun k hk hq => hd5 k hq hk⟩, h5⟩, ((hk5.set h5 0 _).set h5 2 _).drew⟩
set_option maxHeartbeats 4000000 in
theorem do_yes (g : Nat) (s : ByteArray) (B O : List ByteArray) (K : Nat → Prop) (w : World) (hK : ∀ k, K k → k < w.heap.size) (hB : B.length ≤ 30) (h : EdAt w K g s B O) (A : Option Addr) (len c B0 : Nat) (l : List Ed) (hl : l.length = len) (hE : checkE s.size l = 0) (hn : 0 < len) (hr : Reads w B0 A len 3 (l.flatMap cEdit)) (hB0 : B0 ≤ w.heap.size) :
    Calls Tryd.prog 29 #[.pointer (some ⟨g, 0, none⟩), .slice A len c] w fun e w' => e = .returned (.int .i64 0) ∧ EdAt w' K g ⟨(app s.data.toList 0 l).toArray⟩ ((B ++ [s]).drop (B.length + 1 - 30)) [] ∧ Kept K w w' := by
  have Hap := Lib.hid (apply_ok s A len c B0 l hl hE w hr hB0)
  generalize (⟨(app s.data.toList 0 l).toArray⟩ : ByteArray) = R at *
  have c0 : w.cell? ⟨g, 0, none⟩ = some (.string s) := by
    obtain ⟨⟨Ab, nb, cb, Ao, no, co, h1, h2, h3, h4⟩, h5⟩ := h
    exact h1.cell 0
  have q0 : ((len : Int) == 0) = false := by rw [beq_eq_false_iff_ne]; omega
  clear hl hE hr hB0
  go_enter Tryd.func29, Tryd.ntmps29
  go_wp2_with fail
  refine Hap.out.mono ?_
  rintro e w1 ⟨rfl, hb1⟩
  have hk1 : Kept K w w1 := Kept.of_below hb1 hK
  have h := h.after hb1
  have hK1 : ∀ k, K k → k < w1.heap.size := hk1.lt hK
  have Hk1 := Lib.hid hk1
  clear c0 hb1 hK hk1 Hap
  obtain ⟨⟨Ab, nb, cb, Ao, no, co, h1, h2, h3, h4⟩, h5⟩ := h
  have c0 : w1.cell? ⟨g, 0, none⟩ = some (.string s) := h1.cell 0
  have c1 : w1.cell? ⟨g, 1, none⟩ = some (.slice Ab nb cb) := h1.cell 1
  have hnb : B.length = nb := h2.1
  have Hnb := Lib.hid hnb
  have hnb30 : nb ≤ 30 := by omega
  clear hnb hB
  go_wp2
  have hZ : Blk (w1.alloc (Obj.cells #[.string s] 9)).drew g 91 #[.string s, .slice Ab nb cb, .slice Ao no co] := h1.alloc (Obj.cells #[.string s] 9)
  have hneB : (Value.slice Ab nb cb).ownBlock ≠ some g := h2.ne_blk h1 (by decide)
  have hnw : (w1.alloc (Obj.cells #[.string s] 9)).drew.cell? ⟨w1.heap.size, 0, none⟩ = some (.string s) := by
    show (w1.alloc _).cell? _ = _
    rw [World.cell?_alloc_mark]; rfl
  have f1 : w1.frozen? ⟨g, 1, none⟩ = false := h1.frozen 1
  have z1 := hZ.cell 1
  have hbz : Below w1.heap.size w1 (w1.alloc (Obj.cells #[.string s] 9)).drew := ((Below.refl w1.heap.size w1).alloc (Nat.le_refl _) _).drew
  have hwz : (w1.alloc (Obj.cells #[.string s] 9)).drew.heap.size = w1.heap.size + 1 := by show (w1.alloc _).heap.size = _; simp
  go_region_law ((refine step_append_S rfl (.tmp 26) (.tmp 31) 33 rfl K infoStrE Tryd.underlying33 Ab nb cb B (by simp [Act.eval]) (h2.alloc _) ⟨w1.heap.size, 0, none⟩ 1 s (by simp [Act.eval]) hnw rfl (by omega) (fun k hk => by have := hK1 k hk; show k < (w1.alloc _).heap.size; simp; omega) ?_; intro A3 c3 w4 hown4 hg4 hp4; have y2 := (Blk.grown hZ hg4 hneB).cell 1; have yf := (Blk.grown hZ hg4 hneB).frozen 1))
  all_goals
    have hX5 : Blk (w4.setCell ⟨g, 1, none⟩ (.slice A3 (nb + 1) c3)) g 91 #[.string s, .slice A3 (nb + 1) c3, .slice Ao no co] := (Blk.grown hZ hg4 hneB).set_ 1 _
    have hB5 : OwnS (w4.setCell ⟨g, 1, none⟩ (.slice A3 (nb + 1) c3)) K A3 (nb + 1) c3 (B ++ [s]) := hown4.far (hown4.ne_blk (Blk.grown hZ hg4 hneB) (by decide)) 1 _
    have hk5 : Kept K w1 (w4.setCell ⟨g, 1, none⟩ (.slice A3 (nb + 1) c3)) := ((Kept.of_below hbz hK1).trans (Kept.of_grown hg4 (fun k hk => by have := hK1 k hk; omega) (fun k hk => (h2.lt k hk).1))).set h5 1 _
    generalize w4.setCell ⟨g, 1, none⟩ (.slice A3 (nb + 1) c3) = w5 at *
    clear hZ hg4 hp4 hown4 y2 yf z1 hnw hneB c0 c1 f1 h1 h2 h3 h4 hbz hwz
    obtain ⟨gb, ob, rfl, hgb⟩ := hB5.shape (by omega)
    have c0 : w5.cell? ⟨g, 0, none⟩ = some (.string s) := hX5.cell 0
    have c1 : w5.cell? ⟨g, 1, none⟩ = some (.slice (some ⟨gb, ob, none⟩) (nb + 1) c3) := hX5.cell 1
    have c2 : w5.cell? ⟨g, 2, none⟩ = some (.slice Ao no co) := hX5.cell 2
    have f0 : w5.frozen? ⟨g, 0, none⟩ = false := hX5.frozen 0
    have f1 : w5.frozen? ⟨g, 1, none⟩ = false := hX5.frozen 1
    have f2 : w5.frozen? ⟨g, 2, none⟩ = false := hX5.frozen 2
    have hcap := hB5.cap
    have hca1 : nb + 1 ≤ c3 := hcap.1
    have hc9 : c3 ≤ 9223372036854775807 := by unfold maxLen at hcap; omega
    clear hcap
  all_goals
    by_cases h30 : nb = 30
    · have q1 : decide (30 < nb + 1) = true := decide_eq_true (by omega)
      have q1' : decide ((30 : Int) < (nb : Int) + 1) = true := decide_eq_true (by omega)
      have q2 : (1 : Int) ≤ (nb : Int) + 1 := by omega
      have hd : (B ++ [s]).drop (B.length + 1 - 30) = (B ++ [s]).drop 1 := by rw [Hnb.out, h30]
      have Hd := Lib.hid hd
      clear hd
      go_wp2
      go_ret
      subst h30
      have hne : (Value.slice (some ⟨gb, ob, none⟩) (30 + 1) c3).ownBlock ≠ some g := hB5.ne_blk hX5 (by decide)
      have hX6 : Blk (((w5.setCell ⟨g, 1, none⟩ (.slice (some ⟨gb, ob + 1, none⟩) 30 (c3 - 1))).setCell ⟨g, 0, none⟩ (.string R)).setCell ⟨g, 2, none⟩ (.slice none 0 0)) g 91 #[.string R, .slice (some ⟨gb, ob + 1, none⟩) 30 (c3 - 1), .slice none 0 0] := ((hX5.set_ 1 _).set_ 0 _).set_ 2 _
      have hB6 := (((OwnS.tail hB5).far (fun e => hne e) 1 (.slice (some ⟨gb, ob + 1, none⟩) 30 (c3 - 1))).far (fun e => hne e) 0 (.string R)).far (fun e => hne e) 2 (.slice none 0 0)
      rw [← Hd.out] at hB6
      exact ⟨rfl, ⟨⟨some ⟨gb, ob + 1, none⟩, 30, c3 - 1, none, 0, 0, hX6, hB6, OwnS.nil _ _, fun k hk hq => by cases hq⟩, h5⟩, ((((Hk1.out.trans hk5).set h5 1 _).set h5 0 _).set h5 2 _)⟩
    · have q1 : decide (30 < nb + 1) = false := decide_eq_false (by omega)
      have q1' : decide ((30 : Int) < (nb : Int) + 1) = false := decide_eq_false (by omega)
      have hd : (B ++ [s]).drop (B.length + 1 - 30) = B ++ [s] := by rw [Hnb.out, show nb + 1 - 30 = 0 from by omega]; rfl
      have Hd := Lib.hid hd
      clear hd
      go_wp2
      go_ret
      have hne : (Value.slice (some ⟨gb, ob, none⟩) (nb + 1) c3).ownBlock ≠ some g := hB5.ne_blk hX5 (by decide)
      have hX6 : Blk ((w5.setCell ⟨g, 0, none⟩ (.string R)).setCell ⟨g, 2, none⟩ (.slice none 0 0)) g 91 #[.string R, .slice (some ⟨gb, ob, none⟩) (nb + 1) c3, .slice none 0 0] := (hX5.set_ 0 _).set_ 2 _
      have hB6 := (hB5.far (fun e => hne e) 0 (.string R)).far (fun e => hne e) 2 (.slice none 0 0)
      rw [← Hd.out] at hB6
      exact ⟨rfl, ⟨⟨some ⟨gb, ob, none⟩, nb + 1, c3, none, 0, 0, hX6, hB6, OwnS.nil _ _, fun k hk hq => by cases hq⟩, h5⟩, (((Hk1.out.trans hk5).set h5 0 _).set h5 2 _)⟩
end Go.Proofs.YtigbnldmjafgmaaDoor

/- A row of one's own, of elements of s cells each, that lies anywhere in its block: append, tail, stores. -/
namespace Go.Proofs.YtigbnldmjafgmaaDoor
open Go.RowKit
set_option linter.unusedVariables false

/-- A slice of elements of s cells (all cells in a row: xs) that lies anywhere in a row of one's own. -/
def OwnK (T : TypeId) (s : Nat) (w : World) (K : Nat → Prop) (A : Option Addr) (n c : Nat) (xs : List Value) : Prop :=
  xs.length = n * s ∧ ((A = none ∧ n = 0 ∧ c = 0) ∨
    ∃ g o cur, A = some ⟨g, o, none⟩ ∧ ¬ K g ∧ Blk w g T cur ∧ n ≤ c ∧ c ≤ maxLen ∧ o + c * s ≤ cur.size ∧ (cur.toList.drop o).take (n * s) = xs)
section
variable {T : TypeId} {s : Nat} {w w' : World} {K : Nat → Prop} {A : Option Addr} {n c g o : Nat} {xs : List Value}
theorem OwnK.nil (T : TypeId) (s : Nat) (w : World) (K : Nat → Prop) : OwnK T s w K none 0 0 [] := ⟨by simp, .inl ⟨rfl, rfl, rfl⟩⟩
theorem OwnK.cap (h : OwnK T s w K A n c xs) : n ≤ c ∧ c ≤ maxLen := by
  rcases h.2 with ⟨_, h1, h2⟩ | ⟨g, o, cur, _, _, _, h1, h2, _⟩
  · omega
  · exact ⟨h1, h2⟩
theorem OwnK.keep (h : OwnK T s w K A n c xs) (hk : ∀ k, ¬ K k → (Value.slice A n c).ownBlock = some k → k < w.heap.size → w'.heap[k]? = w.heap[k]?) : OwnK T s w' K A n c xs := by
  refine ⟨h.1, ?_⟩
  rcases h.2 with h0 | ⟨g, o, cur, hv, hb, hg, rest⟩
  · exact .inl h0
  · exact .inr ⟨g, o, cur, hv, hb, by unfold Blk; rw [hk g hb (by rw [hv]; rfl) hg.lt]; exact hg, rest⟩
theorem OwnK.after (h : OwnK T s w K A n c xs) (hb : Below w.heap.size w w') : OwnK T s w' K A n c xs := h.keep fun k _ _ hk => hb.block k hk
theorem OwnK.alloc (h : OwnK T s w K A n c xs) (o : Obj) : OwnK T s (w.alloc o) K A n c xs := h.keep fun k _ _ hk => Below.heap_alloc w o k hk
theorem OwnK.drewN (h : OwnK T s w K A n c xs) (m : Nat) : OwnK T s (w.drewN m) K A n c xs := h
theorem OwnK.drew (h : OwnK T s w K A n c xs) : OwnK T s w.drew K A n c xs := h
theorem OwnK.far (h : OwnK T s w K A n c xs) (hp : (Value.slice A n c).ownBlock ≠ some g) (i : Nat) (u : Value) : OwnK T s (w.setCell ⟨g, i, none⟩ u) K A n c xs :=
  h.keep fun k _ hq _ => Below.heap_setCell w ⟨g, i, none⟩ u k (by rintro rfl; exact hp hq)
theorem OwnK.grown {row : Option Nat} (h : OwnK T s w K A n c xs) (hg : w.grownBy w' row) (hp : ∀ k, row = some k → (Value.slice A n c).ownBlock ≠ some k) : OwnK T s w' K A n c xs :=
  h.keep fun k _ hq hk => hg.block k hk (fun e => hp k e.symm hq)
theorem OwnK.lt (h : OwnK T s w K A n c xs) : ∀ k, (Value.slice A n c).ownBlock = some k → ¬ K k ∧ k < w.heap.size := fun k hk => by
  rcases h.2 with ⟨rfl, _⟩ | ⟨g, o, cur, rfl, hb, hg, _⟩
  · cases hk
  · injection hk with hk
    subst hk
    exact ⟨hb, hg.lt⟩
theorem OwnK.weak {K' : Nat → Prop} (h : OwnK T s w K A n c xs) (hK : ∀ k, (Value.slice A n c).ownBlock = some k → ¬ K' k) : OwnK T s w K' A n c xs := by
  refine ⟨h.1, ?_⟩
  rcases h.2 with h0 | ⟨g, o, cur, hv, hb, rest⟩
  · exact .inl h0
  · exact .inr ⟨g, o, cur, hv, hK g (by rw [hv]; rfl), rest⟩
theorem OwnK.ne_blk {t : TypeId} {cs : Array Value} (h : OwnK T s w K A n c xs) (hg : Blk w g t cs) (ht : T ≠ t) : (Value.slice A n c).ownBlock ≠ some g := fun hq => by
  rcases h.2 with ⟨rfl, _⟩ | ⟨g', o, cur, rfl, hb, hg', _⟩
  · cases hq
  · injection hq with hq
    subst hq
    have := hg'.symm.trans hg
    injection this with this
    injection this with _ this _
    exact ht this
theorem OwnK.shape (h : OwnK T s w K A n c xs) (hn : 0 < n) : ∃ g o, A = some ⟨g, o, none⟩ ∧ g < w.heap.size ∧ ¬ K g := by
  rcases h.2 with ⟨_, h0, _⟩ | ⟨g, o, _, hv, hb, hg, _⟩
  · omega
  · exact ⟨g, o, hv, hg.lt, hb⟩
/-- Its cells. -/
theorem OwnK.cell (h : OwnK T s w K (some ⟨g, o, none⟩) n c xs) (j : Nat) (hj : j < n * s) : w.cell? ⟨g, o + j, none⟩ = xs[j]? ∧ w.frozen? ⟨g, o + j, none⟩ = false := by
  rcases h.2 with ⟨h0, _⟩ | ⟨g', o', cur, hv, hb, hg, h1, h2, h3, h4⟩
  · cases h0
  · injection hv with hv
    injection hv with hv hv2
    subst hv hv2
    refine ⟨?_, hg.frozen _⟩
    rw [hg.cell, ← Array.getElem?_toList]
    have : ((cur.toList.drop o).take (n * s))[j]? = cur.toList[o + j]? := by rw [List.getElem?_take, if_pos hj, List.getElem?_drop]
    rw [← this, h4]
/-- A store into it. -/
theorem OwnK.store (h : OwnK T s w K (some ⟨g, o, none⟩) n c xs) (j : Nat) (hj : j < n * s) (u : Value) : OwnK T s (w.setCell ⟨g, o + j, none⟩ u) K (some ⟨g, o, none⟩) n c (xs.set j u) := by
  refine ⟨by simpa using h.1, ?_⟩
  rcases h.2 with ⟨h0, _⟩ | ⟨g', o', cur, hv, hb, hg, h1, h2, h3, h4⟩
  · cases h0
  · injection hv with hv
    injection hv with hv hv2
    subst hv hv2
    have hle : n * s ≤ c * s := Nat.mul_le_mul_right _ h1
    refine .inr ⟨g, o, _, rfl, hb, hg.set_ (o + j) u, h1, h2, by simpa using h3, ?_⟩
    rw [Array.toList_setIfInBounds, List.drop_set, if_neg (by omega), Nat.add_sub_cancel_left, List.take_set, h4]
/-- The first of them. -/
theorem OwnK.short (h : OwnK T s w K A n c xs) (m : Nat) (hm : m ≤ n) : OwnK T s w K A m c (xs.take (m * s)) := by
  have hle : m * s ≤ n * s := Nat.mul_le_mul_right _ hm
  refine ⟨by rw [List.length_take, h.1]; omega, ?_⟩
  rcases h.2 with ⟨h0, h1, h2⟩ | ⟨g, o, cur, hv, hb, hg, h1, h2, h3, h4⟩
  · exact .inl ⟨h0, by omega, h2⟩
  · refine .inr ⟨g, o, cur, hv, hb, hg, by omega, h2, h3, ?_⟩
    rw [← h4, List.take_take, Nat.min_eq_left hle]
/-- All but the first m of them. -/
theorem OwnK.tail (m : Nat) (h : OwnK T s w K (some ⟨g, o, none⟩) n c xs) (hm : m ≤ n) : OwnK T s w K (some ⟨g, o + m * s, none⟩) (n - m) (c - m) (xs.drop (m * s)) := by
  refine ⟨by rw [List.length_drop, h.1, ← Nat.sub_mul], ?_⟩
  rcases h.2 with ⟨h0, _⟩ | ⟨g', o', cur, hv, hb, hg, h1, h2, h3, h4⟩
  · cases h0
  · injection hv with hv
    injection hv with hv hv2
    subst hv hv2
    refine .inr ⟨g, o + m * s, cur, rfl, hb, hg, by omega, by omega, ?_, ?_⟩
    · have : m * s + (c - m) * s = c * s := by rw [← Nat.add_mul, Nat.add_sub_cancel' (by omega)]
      omega
    · rw [← h4, List.drop_take, List.drop_drop, ← Nat.sub_mul]
/-- All of them cut off, none left: the address stays. -/
theorem OwnK.tail0 (m : Nat) (h : OwnK T s w K (some ⟨g, o, none⟩) m m xs) : OwnK T s w K (some ⟨g, o, none⟩) 0 0 (xs.drop (m * s)) := by
  refine ⟨by rw [List.length_drop, h.1]; simp, ?_⟩
  rcases h.2 with ⟨h0, _⟩ | ⟨g', o', cur, hv, hb, hg, h1, h2, h3, h4⟩
  · cases h0
  · injection hv with hv
    injection hv with hv hv2
    subst hv hv2
    refine .inr ⟨g, o, cur, rfl, hb, hg, Nat.le_refl _, Nat.zero_le _, by omega, ?_⟩
    rw [Nat.zero_mul, List.take_zero, List.drop_eq_nil_of_le (by rw [h.1]; exact Nat.le_refl _)]
/-- A row that was read stays a row to read. -/
theorem OwnK.toReads (h : OwnK T s w K A n c xs) : Reads w w.heap.size A n s xs := by
  refine ⟨h.1, fun hn => ?_⟩
  rcases h.2 with ⟨_, h0, _⟩ | ⟨g, o, cur, rfl, hb, hg, h1, h2, h3, h4⟩
  · omega
  · refine ⟨g, o, rfl, hg.lt, fun j hj => ?_⟩
    have := (OwnK.cell (⟨h.1, .inr ⟨g, o, cur, rfl, hb, hg, h1, h2, h3, h4⟩⟩ : OwnK T s w K (some ⟨g, o, none⟩) n c xs) j (by rw [← h.1]; exact hj)).1
    rw [this, List.getElem?_eq_getElem hj, List.getD_eq_getElem?_getD, List.getElem?_eq_getElem hj]
    rfl
end

/-- append of one element. -/
theorem run_append_K {P : Program} {T : TypeId} {s : Nat} (z : Value) (by_ : Nat) (w : World) (K : Nat → Prop) (t ty : TypeId) (ht : P.underlying t = some (.slice T)) (hinfo : (P.info? T).map (fun i => (i.zero, i.size, i.bytes)) = some (some z, s, by_)) (hzs : z.cells.size = s) (hs0 : 0 < s) (hb48 : by_ ≤ 281474976710656)
    (A : Option Addr) (n c : Nat) (xs : List Value) (hown : OwnK T s w K A n c xs) (a : Addr) (c2 : Nat) (ys : List Value) (hys : ys.length = s) (hy1 : ∀ u ∈ ys, u.oneCell' = true) (hx : ∀ j, j < s → w.cell? (a.add j) = ys[j]?)
    (h63 : (n + 1) * by_ ≤ 140737488355328) (hn63 : n ≤ 8000000000000) (hK : ∀ k, K k → k < w.heap.size) :
    ∃ A' c' w', (Builtin.append_ #[t, t] ty #[.slice A n c, .slice (some a) 1 c2]).run P w = .ok (.slice A' (n + 1) c') w' ∧ OwnK T s w' K A' (n + 1) c' (xs ++ ys) ∧ w.grownBy w' (Value.slice A n c).ownBlock ∧
      (∀ k, (Value.slice A' (n + 1) c').ownBlock = some k → (Value.slice A n c).ownBlock = some k ∨ w.heap.size ≤ k) ∧ 0 < w'.heap.size := by
  obtain ⟨i, hi, hz, hs1, hby⟩ := info_parts hinfo
  have hnews : ∀ j u, ys[j]? = some u → w.cell? (a.add j) = some u := fun j u hj => by
    rw [hx j (by rw [← hys]; exact (List.getElem?_eq_some_iff.1 hj).1)]; exact hj
  have hll : (xs ++ ys).length = (n + 1) * s := by rw [List.length_append, hown.1, hys, Nat.add_mul, Nat.one_mul]
  rcases hown.2 with ⟨rfl, rfl, rfl⟩ | ⟨g, o, cur, rfl, hb, hg, hnc, hcm, hcs, htake⟩
  · have hl : xs = [] := List.eq_nil_of_length_eq_zero (by simpa using hown.1)
    subst hl
    have hr := run_append_nil (P := P) w t ty T i _ ht hi hz a 1 c2 ys (by rw [hs1, hys, Nat.one_mul]) hnews (by omega) (by omega) (by rw [hby]; omega)
    have hge := grownCap_ge w 1 0 T
    refine ⟨_, _, _, hr, ⟨hll, .inr ⟨w.heap.size, 0, _, rfl, fun hk => Nat.lt_irrefl _ (hK _ hk), Blk.new w.drew _ _, hge, grownCap_le_maxLen w 1 0 _ (by unfold maxLen; omega), ?_, ?_⟩⟩, ⟨rfl, rfl, rfl, by simp, fun k hk _ => Below.heap_alloc w.drew _ k hk⟩, fun k hk => ?_, by simp⟩
    · simp only [Array.size_append, List.size_toArray, size_zeroCells, hys, hzs]
      rw [Nat.sub_mul, Nat.one_mul, Nat.zero_add]
      have : 1 * s ≤ grownCap w 1 0 T * s := Nat.mul_le_mul_right _ hge
      omega
    · rw [List.drop_zero, Array.toList_append, List.take_append_of_le_length (by simp [hys]), List.take_of_length_le (by simp [hys])]
      rfl
    · have hk : w.heap.size = k := by injection hk
      exact .inr (by omega)
  · by_cases hroom : n + 1 ≤ c
    · have hle : (n + 1) * s ≤ c * s := Nat.mul_le_mul_right _ hroom
      have hns : (n + 1) * s = n * s + s := by rw [Nat.add_mul, Nat.one_mul]
      have hf := run_firstCells_some (P := P) w i.size 1 a 1 c2 ys (by rw [hs1, hys, Nat.one_mul]) hnews
      have hst := run_storeCells_T P g (o + n * s) T (0, 0) ys 0 cur w hg (fun i _ hh => by omega) (by rw [hys]; omega) hy1
      simp only [Nat.add_zero] at hst
      have hr : (Builtin.append_ #[t, t] ty #[.slice (some ⟨g, o, none⟩) n c, .slice (some a) 1 c2]).run P w =
          .ok (.slice (some ⟨g, o, none⟩) (n + 1) c) (w.setRow g (cur.toList.take (o + n * s) ++ ys ++ cur.toList.drop (o + n * s + ys.length)).toArray) := by
        rw [hs1] at hf
        simp [Builtin.append_, run_underlying ht, sizeOf, typeInfo, hi, Builtin.lenOf, hroom, hf, add_at, hs1, hst]
      refine ⟨_, _, _, hr, ⟨hll, .inr ⟨g, o, _, rfl, hb, setRow_heap w g cur _ _ _ hg, hroom, hcm, ?_, ?_⟩⟩, ⟨rfl, rfl, rfl, by simp, fun k _ hk => setRow_other w g k _ (fun e => hk (by simp [Value.ownBlock, e]))⟩, fun k hk => .inl hk, ?_⟩
      · simp only [List.size_toArray, List.length_append, List.length_take, List.length_drop, Array.length_toList, hys]; omega
      · rw [← htake]
        have hlen : (cur.toList.take (o + n * s)).length = o + n * s := by rw [List.length_take, Array.length_toList]; omega
        rw [List.append_assoc, List.drop_append_of_le_length (by omega), List.drop_take, show o + n * s - o = n * s from by omega]
        have hl2 : ((cur.toList.drop o).take (n * s)).length = n * s := by rw [List.length_take, List.length_drop, Array.length_toList]; omega
        rw [List.take_append, List.take_of_length_le (by omega), hl2, show (n + 1) * s - n * s = s from by omega, List.take_append_of_le_length (by omega), List.take_of_length_le (l := ys) (by omega)]
      · have := hg.lt
        simp only [World.setRow]
        simp
        omega
    · have hge := grownCap_ge w (n + 1) c T
      have holds : ∀ j u, xs[j]? = some u → w.cell? ((⟨g, o, none⟩ : Addr).add j) = some u := fun j u hj => by
        have hj' : j < n * s := by have := (List.getElem?_eq_some_iff.1 hj).1; rw [hown.1] at this; exact this
        rw [add_at, hg.cell, ← Array.getElem?_toList, ← hj, ← htake, List.getElem?_take, if_pos hj', List.getElem?_drop]
      have hr := run_append_grow (P := P) w t ty T i _ ht hi hz ⟨g, o, none⟩ n c xs (by rw [hown.1, hs1]) holds a 1 c2 ys (by rw [hs1, hys, Nat.one_mul]) hnews (by omega) (by omega) (growslice_fits (by omega) (by rw [hby]; omega))
      refine ⟨_, _, _, hr, ⟨hll, .inr ⟨w.heap.size, 0, _, rfl, fun hk => Nat.lt_irrefl _ (hK _ hk), Blk.new w.drew _ _, hge, grownCap_le_maxLen w (n + 1) c _ (by unfold maxLen; omega), ?_, ?_⟩⟩, ⟨rfl, rfl, rfl, by simp, fun k hk _ => Below.heap_alloc w.drew _ k hk⟩, fun k hk => ?_, by simp⟩
      · have hle2 : (n + 1) * s ≤ grownCap w (n + 1) c T * s := Nat.mul_le_mul_right _ hge
        simp only [Array.size_append, List.size_toArray, size_zeroCells, hys, hzs, hown.1]
        rw [Nat.sub_mul]
        have hns : (n + 1) * s = n * s + s := by rw [Nat.add_mul, Nat.one_mul]
        omega
      · rw [List.drop_zero, Array.toList_append, Array.toList_append, List.take_append_of_le_length (by rw [← hll]; simp), List.take_of_length_le (by rw [← hll]; simp)]
      · have hk : w.heap.size = k := by injection hk
        exact .inr (by omega)

/-- append of one element, as one step of a region that draws. -/
theorem step_append_K {P : Program} {w : World} {ops : Array Oper} {op : Oper} {a : Act} {Kq : Act → World → Prop} {Q : Exit → Act → World → Prop} {E : Prop} {T : TypeId} {s : Nat} (hgd : op.guard = none) (x y : Operand) (t : TypeId)
    (ho : op.op = .call { callee := .builtin .append, args := #[x, y], argTypes := #[t, t] }) (K : Nat → Prop) (z : Value) (by_ : Nat)
    (hinfo : (P.info? T).map (fun i => (i.zero, i.size, i.bytes)) = some (some z, s, by_)) (ht : P.underlying t = some (.slice T)) (hzs : z.cells.size = s) (hs0 : 0 < s) (hb48 : by_ ≤ 281474976710656)
    (A : Option Addr) (n c : Nat) (xs : List Value) (hs : a.eval x = .slice A n c) (hown : OwnK T s w K A n c xs)
    (ad : Addr) (c2 : Nat) (ys : List Value) (hx : a.eval y = .slice (some ad) 1 c2) (hys : ys.length = s) (hy1 : ∀ u ∈ ys, u.oneCell' = true) (hy : ∀ j, j < s → w.cell? (ad.add j) = ys[j]?)
    (h63 : (n + 1) * by_ ≤ 140737488355328) (hn63 : n ≤ 8000000000000) (hK : ∀ k, K k → k < w.heap.size)
    (h : ∀ A' c' w1, OwnK T s w1 K A' (n + 1) c' (xs ++ ys) → w.grownBy w1 (Value.slice A n c).ownBlock → (∀ k, (Value.slice A' (n + 1) c').ownBlock = some k → (Value.slice A n c).ownBlock = some k ∨ w.heap.size ≤ k) → Kq (a.put op.dst (.slice A' (n + 1) c')) w1) :
    if Region.wanted op (yielded ops a.tmps) = true then Oper.wp P op a w Kq Q else E := by
  rw [if_pos (by simp [Region.wanted, hgd])]
  obtain ⟨A', c', w1, hr, h1, h2, h3, _⟩ := run_append_K (P := P) z by_ w K t op.type ht hinfo hzs hs0 hb48 A n c xs hown ad c2 ys hys hy1 hy h63 hn63 hK
  unfold Oper.wp execOp
  simp only [ho, resolve, invoke, builtin, Sem.run_bind, Sem.run_pure, Result.andThen_ok, List.map_toArray, List.map_cons, List.map_nil, hs, hx, hr]
  exact h A' c' w1 h1 h2 h3
/-- append of one element, at the operation. -/
theorem wpList_append_K {P : Program} {w : World} {ops : Array Oper} {rest : List Oper} {op : Oper} {a : Act} {Q : Exit → Act → World → Prop} {T : TypeId} {s : Nat} (hgd : op.guard = none) (x y : Operand) (t : TypeId)
    (ho : op.op = .call { callee := .builtin .append, args := #[x, y], argTypes := #[t, t] }) (K : Nat → Prop) (z : Value) (by_ : Nat)
    (hinfo : (P.info? T).map (fun i => (i.zero, i.size, i.bytes)) = some (some z, s, by_)) (ht : P.underlying t = some (.slice T)) (hzs : z.cells.size = s) (hs0 : 0 < s) (hb48 : by_ ≤ 281474976710656)
    (A : Option Addr) (n c : Nat) (xs : List Value) (hs : a.eval x = .slice A n c) (hown : OwnK T s w K A n c xs)
    (ad : Addr) (c2 : Nat) (ys : List Value) (hx : a.eval y = .slice (some ad) 1 c2) (hys : ys.length = s) (hy1 : ∀ u ∈ ys, u.oneCell' = true) (hy : ∀ j, j < s → w.cell? (ad.add j) = ys[j]?)
    (h63 : (n + 1) * by_ ≤ 140737488355328) (hn63 : n ≤ 8000000000000) (hK : ∀ k, K k → k < w.heap.size)
    (h : ∀ A' c' w1, OwnK T s w1 K A' (n + 1) c' (xs ++ ys) → w.grownBy w1 (Value.slice A n c).ownBlock → (∀ k, (Value.slice A' (n + 1) c').ownBlock = some k → (Value.slice A n c).ownBlock = some k ∨ w.heap.size ≤ k) → wpList P ops Q rest (a.put op.dst (.slice A' (n + 1) c')) w1) :
    wpList P ops Q (op :: rest) a w := by
  refine wpList_plain hgd fun K1 hK1 => ?_
  obtain ⟨A', c', w1, hr, h1, h2, h3, _⟩ := run_append_K (P := P) z by_ w K t op.type ht hinfo hzs hs0 hb48 A n c xs hown ad c2 ys hys hy1 hy h63 hn63 hK
  unfold Oper.wp execOp
  simp only [ho, resolve, invoke, builtin, Sem.run_bind, Sem.run_pure, Result.andThen_ok, List.map_toArray, List.map_cons, List.map_nil, hs, hx, hr]
  exact hK1 _ _ (h A' c' w1 h1 h2 h3)
end Go.Proofs.YtigbnldmjafgmaaDoor

/- How a house lies in memory: each block has an owner; a page is an editor and a leaf. -/
namespace Go.Proofs.YtigbnldmjafgmaaDoor
open Go.RowKit
set_option linter.unusedVariables false

/-- Only blocks of owners in S turn, and the owners stay. -/
structure Goes (own own' : Nat → Nat) (S : Nat → Prop) (w w' : World) : Prop where
  os : w'.os = w.os
  tape : w'.tape = w.tape
  output : w'.output = w.output
  size : w.heap.size ≤ w'.heap.size
  block : ∀ k, k < w.heap.size → ¬ S (own k) → w'.heap[k]? = w.heap[k]?
  same : ∀ k, k < w.heap.size → own' k = own k
section
variable {own own' own'' : Nat → Nat} {S S' : Nat → Prop} {w w' w'' : World}
theorem Goes.refl (own : Nat → Nat) (S : Nat → Prop) (w : World) : Goes own own S w w := ⟨rfl, rfl, rfl, Nat.le_refl _, fun _ _ _ => rfl, fun _ _ => rfl⟩
theorem Goes.trans (h : Goes own own' S w w') (k : Goes own' own'' S w' w'') : Goes own own'' S w w'' :=
  ⟨k.os.trans h.os, k.tape.trans h.tape, k.output.trans h.output, Nat.le_trans h.size k.size, fun j hj hs => (k.block j (Nat.lt_of_lt_of_le hj h.size) (by rw [h.same j hj]; exact hs)).trans (h.block j hj hs),
    fun j hj => (k.same j (Nat.lt_of_lt_of_le hj h.size)).trans (h.same j hj)⟩
theorem Goes.wide (h : Goes own own' S w w') (hs : ∀ k, S k → S' k) : Goes own own' S' w w' := ⟨h.os, h.tape, h.output, h.size, fun k hk hn => h.block k hk fun hq => hn (hs _ hq), h.same⟩
theorem Goes.of_below (h : Below w.heap.size w w') : Goes own own S w w' := ⟨h.os, h.tape, h.output, h.size, fun k hk _ => h.block k hk, fun _ _ => rfl⟩
/-- What is new belongs to x. -/
def updO (own : Nat → Nat) (n x : Nat) : Nat → Nat := fun k => if n ≤ k then x else own k
theorem updO_lt (own : Nat → Nat) {n x k : Nat} (h : k < n) : updO own n x k = own k := by unfold updO; rw [if_neg (by omega)]
theorem updO_ge (own : Nat → Nat) {n x k : Nat} (h : n ≤ k) : updO own n x k = x := by unfold updO; rw [if_pos h]
theorem Goes.of_belowU (h : Below w.heap.size w w') (x : Nat) : Goes own (updO own w.heap.size x) S w w' := ⟨h.os, h.tape, h.output, h.size, fun k hk _ => h.block k hk, fun k hk => updO_lt own hk⟩
/-- The editor's own blocks. -/
def EdIn (own : Nat → Nat) (w : World) (ge : Nat) (t : ByteArray) (B O : List ByteArray) : Prop := EdAt w (fun k => k < w.heap.size ∧ own k ≠ ge) ge t B O
theorem EdIn.own_ {ge : Nat} {t : ByteArray} {B O : List ByteArray} (h : EdIn own w ge t B O) : own ge = ge := by
  have := h.off
  have := h.lt
  by_cases e : own ge = ge
  · exact e
  · exact absurd ⟨this, e⟩ h.off
theorem EdIn.apart {ge : Nat} {t : ByteArray} {B O : List ByteArray} (h : EdIn own w ge t B O) (hg : Goes own own' S w w') (hS : ¬ S ge) : EdIn own' w' ge t B O := by
  have how := h.own_
  have hlt := h.lt
  obtain ⟨⟨Ab, nb, cb, Ao, no, co, h1, h2, h3, h4⟩, h5⟩ := h
  have key : ∀ k, ¬ (k < w.heap.size ∧ own k ≠ ge) → k < w.heap.size → own k = ge := fun k hk hl => by
    by_cases e : own k = ge
    · exact e
    · exact absurd ⟨hl, e⟩ hk
  have hb : ∀ k, k < w.heap.size → own k = ge → w'.heap[k]? = w.heap[k]? := fun k hk e => hg.block k hk (by rw [e]; exact hS)
  refine ⟨⟨Ab, nb, cb, Ao, no, co, ?_, (h2.keep fun k hk _ hl => hb k hl (key k hk hl)).weak fun k hk => ?_, (h3.keep fun k hk _ hl => hb k hl (key k hk hl)).weak fun k hk => ?_, h4⟩, fun hq => ?_⟩
  · unfold Blk; rw [hb ge hlt how]; exact h1
  · have := h2.lt k hk
    rintro ⟨_, hq⟩
    exact hq (by rw [hg.same k this.2]; exact key k this.1 this.2)
  · have := h3.lt k hk
    rintro ⟨_, hq⟩
    exact hq (by rw [hg.same k this.2]; exact key k this.1 this.2)
  · exact hq.2 (by rw [hg.same ge hlt]; exact how)
theorem EdIn.kept {ge : Nat} {t : ByteArray} {B O : List ByteArray} (h : EdAt w' (fun k => k < w.heap.size ∧ own k ≠ ge) ge t B O) (hk : Kept (fun k => k < w.heap.size ∧ own k ≠ ge) w w') :
    EdIn (updO own w.heap.size ge) w' ge t B O ∧ Goes own (updO own w.heap.size ge) (· = ge) w w' := by
  refine ⟨EdAt.weak h fun k ⟨h1, h2⟩ => ?_, ⟨hk.os, hk.tape, hk.output, hk.size, fun k h1 h2 => hk.block k ⟨h1, h2⟩, fun k hk => updO_lt own hk⟩⟩
  by_cases hl : k < w.heap.size
  · exact .inl ⟨hl, by rwa [updO_lt own hl] at h2⟩
  · exact absurd (updO_ge own (Nat.le_of_not_lt hl)) h2
/-- Where a page's parts lie. -/
structure Pl where
  ge : Nat
  gl : Nat
  g : Nat
structure LeafIn (own : Nat → Nat) (w : World) (gl g : Nat) (t : ByteArray) (H : LH) (j : Nat) : Prop where
  at_ : LeafAt w gl g t H j
  ol : own gl = gl
  og : own g = gl
theorem LeafIn.apart {gl g j : Nat} {t : ByteArray} {H : LH} (h : LeafIn own w gl g t H j) (hg : Goes own own' S w w') (hS : ¬ S gl) : LeafIn own' w' gl g t H j :=
  ⟨h.at_.keep (hg.block gl h.at_.lt.1 (by rw [h.ol]; exact hS)) (hg.block g h.at_.lt.2 (by rw [h.og]; exact hS)), (hg.same gl h.at_.lt.1).trans h.ol, (hg.same g h.at_.lt.2).trans h.og⟩
theorem LeafIn.goes {gl g j j' : Nat} {t t' : ByteArray} {H H' : LH} (h : LeafIn own w gl g t H j) (h' : LeafAt w' gl g t' H' j') (ho : Only2 gl g w w') : LeafIn own w' gl g t' H' j' ∧ Goes own own (· = gl) w w' :=
  ⟨⟨h', h.ol, h.og⟩, ho.os, ho.tape, ho.output, ho.size, fun k hk hn => ho.block k hk (fun e => hn (by rw [e]; exact h.ol)) (fun e => hn (by rw [e]; exact h.og)), fun _ _ => rfl⟩
theorem LeafIn.goesU {gl g g' j j' : Nat} {t t' : ByteArray} {H H' : LH} (h : LeafIn own w gl g t H j) (h' : LeafAt w' gl g' t' H' j') (hg' : w.heap.size ≤ g') (ho : Only2 gl gl w w') : LeafIn (updO own w.heap.size gl) w' gl g' t' H' j' ∧ Goes own (updO own w.heap.size gl) (· = gl) w w' :=
  ⟨⟨h', by rw [updO_lt own h.at_.lt.1]; exact h.ol, updO_ge own hg'⟩, ho.os, ho.tape, ho.output, ho.size, fun k hk hn => ho.block k hk (fun e => hn (by rw [e]; exact h.ol)) (fun e => hn (by rw [e]; exact h.ol)), fun k hk => updO_lt own hk⟩
/-- A page's parts lie there. -/
structure PageAt (own : Nat → Nat) (w : World) (x : Pl) (p : Pg) : Prop where
  ed : EdIn own w x.ge p.t p.B p.O
  leaf : LeafIn own w x.gl x.g p.t p.H p.j
  ne : x.ge ≠ x.gl
  ok : p.Ok
theorem PageAt.apart {x : Pl} {p : Pg} (h : PageAt own w x p) (hg : Goes own own' S w w') (h1 : ¬ S x.ge) (h2 : ¬ S x.gl) : PageAt own' w' x p := ⟨h.ed.apart hg h1, h.leaf.apart hg h2, h.ne, h.ok⟩
/-- The cells of a page in the row. -/
def cPage (y : Pl × Pg) : List Value := [.string y.2.name, .pointer (some ⟨y.1.ge, 0, none⟩), .pointer (some ⟨y.1.gl, 0, none⟩)]
theorem cPage_len (y : Pl × Pg) : (cPage y).length = 3 := rfl
def idsH (gh : Nat) (Q : List (Pl × Pg)) : List Nat := gh :: Q.flatMap fun y => [y.1.ge, y.1.gl]
structure HouseAt (own : Nat → Nat) (w : World) (gh : Nat) (Q : List (Pl × Pg)) : Prop where
  ex : ∃ A n c, Blk w gh 66 #[.slice A n c] ∧ OwnK 64 3 w (fun k => k < w.heap.size ∧ own k ≠ gh) A n c (Q.flatMap cPage) ∧ Q.length = n ∧ (Value.slice A n c).ownBlock ≠ some gh
  own_ : own gh = gh
  page : ∀ y ∈ Q, PageAt own w y.1 y.2
  ids : (idsH gh Q).Nodup
theorem HouseAt.apart {gh : Nat} {Q : List (Pl × Pg)} (h : HouseAt own w gh Q) (hg : Goes own own' S w w') (hS : ∀ k ∈ idsH gh Q, ¬ S k) : HouseAt own' w' gh Q := by
  obtain ⟨⟨A, n, c, h1, h2, h3, h3a⟩, h4, h5, h6⟩ := h
  have hgh := hS gh (List.mem_cons_self ..)
  have key : ∀ k, ¬ (k < w.heap.size ∧ own k ≠ gh) → k < w.heap.size → own k = gh := fun k hk hl => by
    by_cases e : own k = gh
    · exact e
    · exact absurd ⟨hl, e⟩ hk
  have hb : ∀ k, k < w.heap.size → own k = gh → w'.heap[k]? = w.heap[k]? := fun k hk e => hg.block k hk (by rw [e]; exact hgh)
  refine ⟨⟨A, n, c, ?_, (h2.keep fun k hk _ hl => hb k hl (key k hk hl)).weak fun k hk => ?_, h3, h3a⟩, (hg.same gh h1.lt).trans h4, fun y hy => (h5 y hy).apart hg (hS _ ?_) (hS _ ?_), h6⟩
  · unfold Blk; rw [hb gh h1.lt h4]; exact h1
  · have := h2.lt k hk
    rintro ⟨_, hq⟩
    exact hq (by rw [hg.same k this.2]; exact key k this.1 this.2)
  · exact List.mem_cons_of_mem _ (List.mem_flatMap.2 ⟨y, hy, by simp⟩)
  · exact List.mem_cons_of_mem _ (List.mem_flatMap.2 ⟨y, hy, by simp⟩)
end
end Go.Proofs.YtigbnldmjafgmaaDoor

/- The walk of a leaf's Set; edits stay beside a leaf. -/
namespace Go.Proofs.YtigbnldmjafgmaaDoor
open Go.RowKit
set_option linter.unusedVariables false

theorem leafSet_any (gl g j : Nat) (t : ByteArray) (H : LH) (s : ByteArray) (hs : s.size ≤ 200) (w : World) (h : LeafAt w gl g t H j) : Calls Tryd.prog 63 #[.pointer (some ⟨gl, 0, none⟩), .string s] w fun e w' =>
    Only2 gl g w w' ∧ ((fits H s ∧ e = .returned (.int .i64 0) ∧ LeafAt w' gl g s (H ++ [(98 :: s.data.toList, s)]) j) ∨ (¬ fits H s ∧ e = .returned (.int .i64 11) ∧ LeafAt w' gl g t H j)) := by
  have q : decide ((200 : Int) < (s.size : Int)) = false := decide_eq_false (by omega)
  have q' : decide (200 < s.size) = false := decide_eq_false (by omega)
  have hbs : ((⟨#[98]⟩ : ByteArray) ++ s).size = s.size + 1 := by rw [ByteArray.size_append]; show 1 + s.size = _; omega
  have hca : ∀ w, (Op.stringOp .add ⟨#[98]⟩ s).run Tryd.prog w = .ok (.string ((⟨#[98]⟩ : ByteArray) ++ s)) w := fun w => run_string_add_sum w _ _ (by show 1 + s.size ≤ _; omega)
  have c1 := h.c1
  have hd := h.disk
  by_cases hf : fits H s
  case neg =>
    have hf2 : 4000 < (framesL (recs H)).length + (s.size + 7) := by unfold fits at hf; omega
    have Ap := Lib.hid (append_full g _ (lb (framesL (recs H))) ((⟨#[98]⟩ : ByteArray) ++ s) (by omega) (by rw [lb_dsize]; omega) (by rw [lb_dsize]; omega) w h.log)
    clear hbs
    go_enter Tryd.func63, Tryd.ntmps63
    go_wp2_with fail
    refine Ap.out.mono ?_
    rintro e w3 ⟨rfl, hl3, ho3⟩
    go_wp2
    go_ret
    exact ⟨Only2.of_only ho3, .inr ⟨hf, rfl, (ho3.block gl h.lt.1 (fun e => h.ne (by injection e))).trans h.blk, hl3, h.hist, h.text, h.jle, h.disk⟩⟩
  have hf2 : (framesL (recs H)).length + (s.size + 7) ≤ 4000 := hf
  have Ap := Lib.hid (append_ok g _ (lb (framesL (recs H))) ((⟨#[98]⟩ : ByteArray) ++ s) (by omega) (by rw [lb_dsize]; omega) w h.log)
  have hbl := app98 98 s
  have hrec : recs (H ++ [(98 :: s.data.toList, s)]) = recs H ++ [98 :: s.data.toList] := by rw [recs_app]; rfl
  have hdisk : lb (framesL (recs H)) ++ lb (frameL ((⟨#[98]⟩ : ByteArray) ++ s).data.toList) = lb (framesL (recs (H ++ [(98 :: s.data.toList, s)]))) := ba_ext (by
    rw [list_app, lb_list, lb_list, lb_list, hbl, hrec, frames_snoc])
  rw [hdisk] at Ap
  have hd2 : (framesL (recs (H ++ [(98 :: s.data.toList, s)]))).length ≤ 4000 := by rw [base_more]; omega
  have hlt : (recs (H ++ [(98 :: s.data.toList, s)])).take j = (recs H).take j := by rw [hrec, List.take_append_of_le_length (by rw [recs_len]; exact h.jle)]
  have Hlt := Lib.hid hlt
  have Hd2 := Lib.hid hd2
  clear hbs hbl hrec hdisk hd2 hlt hf2
  go_enter Tryd.func63, Tryd.ntmps63
  go_wp2_with fail
  refine Ap.out.mono ?_
  rintro e w3 ⟨rfl, hl3, ho3⟩
  have hb3 : Blk w3 gl 104 #[.string t, .pointer (some ⟨g, 0, none⟩)] := (ho3.block gl h.lt.1 (fun e => h.ne (by injection e))).trans h.blk
  have f0 := Blk.frozen hb3 0
  have d0 : w3.cell? ⟨gl, 0, none⟩ = some (.string t) := Blk.cell hb3 0
  clear Ap hca
  go_wp2
  go_ret
  refine ⟨(Only2.of_only ho3).trans (Only2.set 0 (.string s)), .inl ⟨hf, rfl, ?_, ?_, ?_, ?_, Nat.le_trans h.jle (by rw [List.length_append]; omega), Hd2.out⟩⟩
  · exact Blk.set_ hb3 0 (.string s)
  · rw [Hlt.out]; exact Blk.far hl3 (fun e => h.ne e.symm) _
  · exact hist_snoc h.hist (LStep.base s hs)
  · rw [endT_snoc]
/-- Edits that lie there still lie there behind what turns a leaf alone. -/
theorem edits_beside {w w' : World} {gl g j n c : Nat} {t : ByteArray} {H : LH} {A : Option Addr} {l : List Ed} (h : LeafAt w gl g t H j) (hl : EdsAt w A n c l) (ho : Only2 gl g w w') : EdsAt w' A n c l := by
  refine ⟨hl.len, hl.small, hl.ok, hl.at_.1, fun hn => ?_⟩
  obtain ⟨b, o, rfl, hb, hc⟩ := hl.at_.2 hn
  have hl0 : 0 < l.length := by rw [hl.len]; exact hn
  have hlen : (l.flatMap cEdit).length = l.length * 3 := flat_length cEdit 3 cEdit_len l
  obtain ⟨x, r, rfl⟩ : ∃ x r, l = x :: r := by
    cases l with
    | nil => exact absurd hl0 (Nat.lt_irrefl _)
    | cons x r => exact ⟨x, r, rfl⟩
  have c0 := hc 0 (by rw [hlen]; omega)
  have c1 := hc 1 (by rw [hlen]; omega)
  have c2 := hc 2 (by rw [hlen]; omega)
  have e0 : ((x :: r).flatMap cEdit).getD 0 undef = .int .i64 x.1 := rfl
  have e1 : ((x :: r).flatMap cEdit).getD 1 undef = .int .i64 x.2.1 := rfl
  have e2 : ((x :: r).flatMap cEdit).getD 2 undef = .string x.2.2 := rfl
  rw [e0] at c0
  rw [e1] at c1
  rw [e2] at c2
  have n1 : b ≠ gl := by
    rintro rfl
    rw [Blk.cell h.blk] at c0
    match o, c0 with
    | 0, c0 => cases c0
    | 1, c0 => cases c0
    | o + 2, c0 => cases c0
  have n2 : b ≠ g := by
    rintro rfl
    have hB : Blk w b 79 _ := h.log
    rw [hB.cell] at c0 c1
    match o, c0, c1 with
    | 0, c0, _ => cases c0
    | 1, _, c1 => cases c1
    | o + 2, c0, _ => cases c0
  have hbk := ho.block b hb n1 n2
  refine ⟨b, o, rfl, Nat.lt_of_lt_of_le hb ho.size, fun j hj => ?_⟩
  rw [← hc j hj]
  simp only [World.cell?, hbk]
end Go.Proofs.YtigbnldmjafgmaaDoor

/- The walk of a page's edit. -/
namespace Go.Proofs.YtigbnldmjafgmaaDoor
open Go.RowKit
set_option linter.unusedVariables false

theorem okOf {w : World} {gl g : Nat} {p : Pg} (h : LeafAt w gl g p.t p.H p.j) (h1 : p.B.length + p.O.length ≤ 30) (h2 : ∀ t ∈ p.B, t.size ≤ 200) (h3 : ∀ t ∈ p.O, t.size ≤ 200) : p.Ok := ⟨h1, h2, h3, h.tsize, h.hist, h.text, h.jle, h.disk⟩
/-- The cells of a page, in a row of another owner. -/
structure RowAt (own : Nat → Nat) (w : World) (gp o : Nat) (x : Pl) (name : ByteArray) : Prop where
  lt : gp < w.heap.size
  c0 : w.cell? ⟨gp, o, none⟩ = some (.string name)
  c1 : w.cell? ⟨gp, o + 1, none⟩ = some (.pointer (some ⟨x.ge, 0, none⟩))
  c2 : w.cell? ⟨gp, o + 2, none⟩ = some (.pointer (some ⟨x.gl, 0, none⟩))
  f1 : w.frozen? ⟨gp, o + 1, none⟩ = false
  ne1 : own gp ≠ x.ge
  ne2 : own gp ≠ x.gl
theorem RowAt.apart {own own' : Nat → Nat} {S : Nat → Prop} {w w' : World} {gp o : Nat} {x : Pl} {name : ByteArray} (h : RowAt own w gp o x name) (hg : Goes own own' S w w') (hS : ¬ S (own gp)) : RowAt own' w' gp o x name := by
  have hb := hg.block gp h.lt hS
  refine ⟨Nat.lt_of_lt_of_le h.lt hg.size, ?_, ?_, ?_, ?_, by rw [hg.same gp h.lt]; exact h.ne1, by rw [hg.same gp h.lt]; exact h.ne2⟩
  · rw [← h.c0]; simp only [World.cell?, hb]
  · rw [← h.c1]; simp only [World.cell?, hb]
  · rw [← h.c2]; simp only [World.cell?, hb]
  · rw [← h.f1]; simp only [World.frozen?, hb]
/-- The owners of a page. -/
def ofPl (x : Pl) (k : Nat) : Prop := k = x.ge ∨ k = x.gl

set_option maxHeartbeats 1000000 in
theorem pageEdit (own : Nat → Nat) (w : World) (x : Pl) (p : Pg) (gp o : Nat) (hr : RowAt own w gp o x p.name) (h : PageAt own w x p) (ht : Tab w) (A : Option Addr) (n c : Nat) (l : List Ed) (hl : EdsAt w A n c l) :
    Calls Tryd.prog 39 #[.pointer (some ⟨gp, o, none⟩), .slice A n c] w fun e w' => ∃ own', e = .returned (.int .i64 (editP p l).1) ∧ PageAt own' w' x (editP p l).2 ∧ Goes own own' (ofPl x) w w' := by
  have hln := hl.len
  by_cases h0 : n = 0
  · subst h0
    have hnil : l = [] := List.eq_nil_of_length_eq_zero hln
    have e1 : editP p l = (5, p) := by unfold editP; rw [if_pos hnil]
    rw [e1]
    clear e1
    go_enter Tryd.func39, Tryd.ntmps39
    go_wp2
    go_ret
    exact ⟨own, rfl, h, Goes.refl _ _ _⟩
  have hpos : 0 < n := by omega
  have hne : l ≠ [] := fun e => by rw [e] at hln; exact h0 hln.symm
  have L := Lib.hid (leafEdit x.gl x.g p.j p.t p.H A n c l w ht h.leaf.at_ hl)
  have c1 := hr.c1
  have c2 := hr.c2
  have q0 : ((n : Int) == 0) = false := by rw [beq_eq_false_iff_ne]; omega
  by_cases hE : leafE p.t p.H l = 0
  case neg =>
    have e1 : editP p l = (leafE p.t p.H l, p) := by unfold editP; rw [if_neg hne, if_pos hE]
    have e2 : leafT p.t p.H l = p.t := by unfold leafT; rw [if_neg hE]
    have e3 : leafH p.t p.H l = p.H := by unfold leafH; rw [if_neg hE]
    rw [e1]
    rw [e2, e3] at L
    generalize leafE p.t p.H l = E at *
    have q1 : (E != 0) = true := by simpa using hE
    clear e1 e2 e3
    go_enter Tryd.func39, Tryd.ntmps39
    go_wp2_with fail
    refine L.out.mono ?_
    rintro e w1 ⟨rfl, hl1, ho⟩
    obtain ⟨hlf, hg⟩ := h.leaf.goes hl1 ho
    go_wp2
    go_ret
    exact ⟨own, rfl, ⟨h.ed.apart hg h.ne, hlf, h.ne, h.ok⟩, hg.wide fun k hk => .inr hk⟩
  have hck := (leafE_zero hE).1
  have e1 : editP p l = (0, { p with t := leafT p.t p.H l, B := (p.B ++ [p.t]).drop (p.B.length + 1 - 30), O := [], H := leafH p.t p.H l }) := by unfold editP; rw [if_neg hne, if_neg (by simpa using hE)]
  have e2 : leafT p.t p.H l = ⟨(app p.t.data.toList 0 l).toArray⟩ := by unfold leafT; rw [if_pos hE]
  rw [e1]
  rw [hE] at L
  have E2 := Lib.hid e2
  clear e1 hE e2
  go_enter Tryd.func39, Tryd.ntmps39
  go_wp2_with fail
  refine L.out.mono ?_
  rintro e w1 ⟨rfl, hl1, ho⟩
  obtain ⟨hlf, hg⟩ := h.leaf.goes hl1 ho
  have hed := h.ed.apart hg h.ne
  have hr1 := hr.apart hg hr.ne2
  have hls := edits_beside h.leaf.at_ hl ho
  have D := Lib.hid (do_yes x.ge p.t p.B p.O _ w1 (fun k hk => hk.1) (by have := h.ok.few; omega) hed A n c w1.heap.size l hln hck hpos hls.at_ (Nat.le_refl _))
  have d1 := hr1.c1
  clear L c1 c2
  go_wp2_with fail
  refine D.out.mono ?_
  rintro e w2 ⟨rfl, hed2, hk⟩
  obtain ⟨hed3, hg2⟩ := EdIn.kept hed2 hk
  rw [← E2.out] at hed3
  have hlf2 := hlf.apart hg2 (fun e => h.ne e.symm)
  go_wp2
  go_ret
  refine ⟨_, rfl, ⟨hed3, hlf2, h.ne, okOf hlf2.at_ ?_ ?_ ?_⟩, (hg.wide fun k hk => .inr hk).trans (hg2.wide fun k hk => .inl hk)⟩
  · have := h.ok.few
    show ((p.B ++ [p.t]).drop (p.B.length + 1 - 30)).length + 0 ≤ 30
    rw [List.length_drop, List.length_append, List.length_singleton]
    omega
  · intro t ht
    rcases List.mem_append.1 (List.mem_of_mem_drop ht) with h1 | h1
    · exact h.ok.back t h1
    · rw [List.mem_singleton.1 h1]; exact h.ok.text
  · intro t ht
    cases ht
end Go.Proofs.YtigbnldmjafgmaaDoor

/- The walk of a page's step. -/
namespace Go.Proofs.YtigbnldmjafgmaaDoor
open Go.RowKit
set_option linter.unusedVariables false

theorem EdIn.after {own : Nat → Nat} {w w' : World} {ge : Nat} {t : ByteArray} {B O : List ByteArray} (h : EdIn own w ge t B O) (hb : Below w.heap.size w w') : EdIn own w' ge t B O := h.apart (Goes.of_below (S := fun _ => False) hb) (fun h => h)
theorem LeafIn.after {own : Nat → Nat} {w w' : World} {gl g j : Nat} {t : ByteArray} {H : LH} (h : LeafIn own w gl g t H j) (hb : Below w.heap.size w w') : LeafIn own w' gl g t H j := ⟨h.at_.after hb, h.ol, h.og⟩
theorem RowAt.after {own : Nat → Nat} {w w' : World} {gp o : Nat} {x : Pl} {name : ByteArray} (h : RowAt own w gp o x name) (hb : Below w.heap.size w w') : RowAt own w' gp o x name := h.apart (Goes.of_below (S := fun _ => False) hb) (fun h => h)

theorem first_drew {B : Nat} {w : World} (h : Below B w w) : Below B w w.drew := h.drew

set_option maxHeartbeats 1000000 in
theorem pageBack (own : Nat → Nat) (w : World) (x : Pl) (p : Pg) (gp o : Nat) (hr : RowAt own w gp o x p.name) (h : PageAt own w x p) :
    Calls Tryd.prog 41 #[.pointer (some ⟨gp, o, none⟩), .bool true] w fun e w' => ∃ own', e = .returned (.int .i64 (backP p).1) ∧ PageAt own' w' x (backP p).2 ∧ Goes own own' (ofPl x) w w' := by
  have c1 := hr.c1
  have c2 := hr.c2
  have eu := enters_of Tryd.func30 (by kernel_rfl) rfl
  have er := enters_of Tryd.func31 (by kernel_rfl) rfl
  rcases List.eq_nil_or_concat p.B with hB | ⟨B, t, hB⟩
  · have e1 : backP p = (4, p) := by unfold backP; rw [if_pos hB]
    rw [e1]
    have hed := h.ed
    rw [hB] at hed
    have U := Lib.hid (fun w (h : EdIn own w x.ge p.t [] p.O) => undo_no x.ge p.t p.O _ w h)
    clear e1
    go_enter Tryd.func41, Tryd.ntmps41
    go_wp2
    go_quiet (fail)
    have hd : Below w.heap.size w (w.drewN nq) := below_drewN (Below.refl _ _) _
    go_wp2_with fail
    refine (U.out _ (hed.after hd)).mono ?_
    rintro e w1 ⟨rfl, hb1⟩
    have hb1 := chain hb1 hd
    go_wp2
    go_ret
    exact ⟨own, rfl, h.apart (Goes.of_below (S := fun _ => False) hb1) (fun h => h) (fun h => h), Goes.of_below hb1⟩
  rw [List.concat_eq_append] at hB
  have hlast : p.B.getLastD ⟨#[]⟩ = t := by rw [hB]; simp
  have hdrop : p.B.dropLast = B := by rw [hB]; simp
  have hne : p.B ≠ [] := by rw [hB]; simp
  have htz : t.size ≤ 200 := h.ok.back t (by rw [hB]; simp)
  have hfew : B.length + 1 + p.O.length ≤ 30 := by have := h.ok.few; rw [hB, List.length_append, List.length_singleton] at this; exact this
  have hBk : ∀ t ∈ B, t.size ≤ 200 := fun y hy => h.ok.back y (by rw [hB]; exact List.mem_append_left _ hy)
  have hed := h.ed
  rw [hB] at hed
  have U := Lib.hid (fun w (h : EdIn own w x.ge p.t (B ++ [t]) p.O) => undo_yes x.ge p.t B p.O t _ w (fun k hk => hk.1) (by omega) (by omega) h)
  have hr0 := hr
  by_cases hf : fits p.H t
  · have e1 : backP p = (0, { p with t := t, B := B, O := p.O ++ [p.t], H := p.H ++ [(98 :: t.data.toList, t)] }) := by unfold backP; rw [if_neg hne, hlast, if_pos hf, hdrop]
    rw [e1]
    clear e1
    go_enter Tryd.func41, Tryd.ntmps41
    go_wp2
    go_quiet (fail)
    have hd : Below w.heap.size w (w.drewN nq) := below_drewN (Below.refl _ _) _
    go_wp2_with fail
    refine (U.out _ (hed.after hd)).mono ?_
    rintro e w1 ⟨rfl, hed1, hk1⟩
    obtain ⟨hed1, hg1⟩ := EdIn.kept hed1 hk1
    have hr1 := (hr.after hd).apart hg1 hr.ne1
    have hl1 := (h.leaf.after hd).apart hg1 (fun e => h.ne e.symm)
    have hg1 := (Goes.of_below (own := own) (S := (· = x.ge)) hd).trans hg1
    generalize updO own _ x.ge = own1 at *
    have T := Lib.hid (fun W (hb : Below w1.heap.size w1 W) => text_any x.ge t B (p.O ++ [p.t]) _ W (hed1.after hb))
    have d1 := hr1.c1
    have d2 := hr1.c2
    have n1 : gp ≠ x.gl := fun e => hr1.ne2 (by rw [e]; exact hl1.ol)
    have n2 : gp ≠ x.g := fun e => hr1.ne2 (by rw [e]; exact hl1.og)
    have S := Lib.hid (fun W (hb : Below w1.heap.size w1 W) => (leafSet_any x.gl x.g p.j p.t p.H t htz W (hl1.after hb).at_).mono fun e w' (h : Only2 x.gl x.g W w' ∧ ((fits p.H t ∧ e = .returned (.int .i64 0) ∧ LeafAt w' x.gl x.g t (p.H ++ [(98 :: t.data.toList, t)]) p.j) ∨ (¬ fits p.H t ∧ e = .returned (.int .i64 11) ∧ LeafAt w' x.gl x.g p.t p.H p.j))) =>
      (show e = .returned (.int .i64 0) ∧ LeafAt w' x.gl x.g t (p.H ++ [(98 :: t.data.toList, t)]) p.j ∧ Only2 x.gl x.g W w' ∧ w'.cell? ⟨gp, o + 1, none⟩ = some (.pointer (some ⟨x.ge, 0, none⟩)) ∧ w'.cell? ⟨gp, o + 2, none⟩ = some (.pointer (some ⟨x.gl, 0, none⟩)) from by
        have hbk := (h.1.block gp (Nat.lt_of_lt_of_le hr1.lt hb.size) n1 n2).trans (hb.block gp hr1.lt)
        rcases h.2 with ⟨_, h1, h2⟩ | ⟨h1, _⟩
        · exact ⟨h1, h2, h.1, by rw [← d1]; simp only [World.cell?, hbk], by rw [← d2]; simp only [World.cell?, hbk]⟩
        · exact absurd hf h1))
    clear U c1 c2 hk1
    go_wp2
    have hbw := Below.refl w1.heap.size w1
    go_region_held3 (fun w' => w'.cell? ⟨gp, o + 1, none⟩ = some (.pointer (some ⟨x.ge, 0, none⟩)) ∧ w'.cell? ⟨gp, o + 2, none⟩ = some (.pointer (some ⟨x.gl, 0, none⟩))) (first | exact ⟨d1, d2⟩ | exact ⟨by assumption, by assumption⟩)
      (first
        | (go_at_call 33; refine (T.out _ (first_drew hbw)).mono ?_; rintro e w2 ⟨rfl, rfl⟩)
        | (go_at_call 63; refine (S.out _ (first_drew hbw)).mono ?_; rintro e w2 ⟨rfl, hl2, ho2, k1, k2⟩))
    have hdw := first_drew hbw
    obtain ⟨hlf, hg2⟩ := (hl1.after hdw).goes hl2 ho2
    have hg2 := (Goes.of_below (own := own1) (S := (· = x.gl)) hdw).trans hg2
    have hed2 := hed1.apart hg2 h.ne
    go_wp2
    go_ret
    refine ⟨_, rfl, ⟨hed2, hlf, h.ne, okOf hlf.at_ ?_ hBk ?_⟩, (hg1.wide fun k hk => .inl hk).trans (hg2.wide fun k hk => .inr hk)⟩
    · show B.length + (p.O ++ [p.t]).length ≤ 30
      rw [List.length_append, List.length_singleton]; omega
    · intro y hy
      rcases List.mem_append.1 hy with h1 | h1
      · exact h.ok.onward y h1
      · rw [List.mem_singleton.1 h1]; exact h.ok.text
  · have e1 : backP p = (11, p) := by unfold backP; rw [if_neg hne, hlast, if_neg hf]
    rw [e1]
    clear e1
    go_enter Tryd.func41, Tryd.ntmps41
    go_wp2
    go_quiet (fail)
    have hd : Below w.heap.size w (w.drewN nq) := below_drewN (Below.refl _ _) _
    go_wp2_with fail
    refine (U.out _ (hed.after hd)).mono ?_
    rintro e w1 ⟨rfl, hed1, hk1⟩
    obtain ⟨hed1, hg1⟩ := EdIn.kept hed1 hk1
    have hr1 := (hr.after hd).apart hg1 hr.ne1
    have hl1 := (h.leaf.after hd).apart hg1 (fun e => h.ne e.symm)
    have hg1 := (Goes.of_below (own := own) (S := (· = x.ge)) hd).trans hg1
    generalize updO own _ x.ge = own1 at *
    have T := Lib.hid (fun W (hb : Below w1.heap.size w1 W) => text_any x.ge t B (p.O ++ [p.t]) _ W (hed1.after hb))
    have d1 := hr1.c1
    have d2 := hr1.c2
    have n1 : gp ≠ x.gl := fun e => hr1.ne2 (by rw [e]; exact hl1.ol)
    have n2 : gp ≠ x.g := fun e => hr1.ne2 (by rw [e]; exact hl1.og)
    have S := Lib.hid (fun W (hb : Below w1.heap.size w1 W) => (leafSet_any x.gl x.g p.j p.t p.H t htz W (hl1.after hb).at_).mono fun e w' (h : Only2 x.gl x.g W w' ∧ ((fits p.H t ∧ e = .returned (.int .i64 0) ∧ LeafAt w' x.gl x.g t (p.H ++ [(98 :: t.data.toList, t)]) p.j) ∨ (¬ fits p.H t ∧ e = .returned (.int .i64 11) ∧ LeafAt w' x.gl x.g p.t p.H p.j))) =>
      (show e = .returned (.int .i64 11) ∧ LeafAt w' x.gl x.g p.t p.H p.j ∧ Only2 x.gl x.g W w' ∧ w'.cell? ⟨gp, o + 1, none⟩ = some (.pointer (some ⟨x.ge, 0, none⟩)) ∧ w'.cell? ⟨gp, o + 2, none⟩ = some (.pointer (some ⟨x.gl, 0, none⟩)) from by
        have hbk := (h.1.block gp (Nat.lt_of_lt_of_le hr1.lt hb.size) n1 n2).trans (hb.block gp hr1.lt)
        rcases h.2 with ⟨h1, _⟩ | ⟨_, h1, h2⟩
        · exact absurd h1 hf
        · exact ⟨h1, h2, h.1, by rw [← d1]; simp only [World.cell?, hbk], by rw [← d2]; simp only [World.cell?, hbk]⟩))
    clear U c1 c2 hk1
    go_wp2
    have hbw := Below.refl w1.heap.size w1
    go_region_held3 (fun w' => w'.cell? ⟨gp, o + 1, none⟩ = some (.pointer (some ⟨x.ge, 0, none⟩)) ∧ w'.cell? ⟨gp, o + 2, none⟩ = some (.pointer (some ⟨x.gl, 0, none⟩))) (first | exact ⟨d1, d2⟩ | exact ⟨by assumption, by assumption⟩)
      (first
        | (go_at_call 33; refine (T.out _ (first_drew hbw)).mono ?_; rintro e w2 ⟨rfl, rfl⟩)
        | (go_at_call 63; refine (S.out _ (first_drew hbw)).mono ?_; rintro e w2 ⟨rfl, hl2, ho2, k1, k2⟩))
    have hdw := first_drew hbw
    obtain ⟨hlf, hg2⟩ := (hl1.after hdw).goes hl2 ho2
    have hg2 := (Goes.of_below (own := own1) (S := (· = x.gl)) hdw).trans hg2
    have hed2 := hed1.apart hg2 h.ne
    have R := Lib.hid (redo_yes x.ge t B p.O p.t _ w2 (fun k hk => hk.1) (by omega) (by omega) hed2)
    clear T S
    go_wp2_with fail
    refine R.out.mono ?_
    rintro e w3 ⟨rfl, hed3, hk3⟩
    obtain ⟨hed3, hg3⟩ := EdIn.kept hed3 hk3
    rw [← hB] at hed3
    have hlf3 := hlf.apart hg3 (fun e => h.ne e.symm)
    go_wp2
    go_ret
    exact ⟨_, rfl, ⟨hed3, hlf3, h.ne, h.ok⟩, ((hg1.wide fun k hk => .inl hk).trans (hg2.wide fun k hk => .inr hk)).trans (hg3.wide fun k hk => .inl hk)⟩
set_option maxHeartbeats 1000000 in
theorem pageOn (own : Nat → Nat) (w : World) (x : Pl) (p : Pg) (gp o : Nat) (hr : RowAt own w gp o x p.name) (h : PageAt own w x p) :
    Calls Tryd.prog 41 #[.pointer (some ⟨gp, o, none⟩), .bool false] w fun e w' => ∃ own', e = .returned (.int .i64 (onP p).1) ∧ PageAt own' w' x (onP p).2 ∧ Goes own own' (ofPl x) w w' := by
  have c1 := hr.c1
  have c2 := hr.c2
  have eu := enters_of Tryd.func30 (by kernel_rfl) rfl
  have er := enters_of Tryd.func31 (by kernel_rfl) rfl
  rcases List.eq_nil_or_concat p.O with hB | ⟨B, t, hB⟩
  · have e1 : onP p = (4, p) := by unfold onP; rw [if_pos hB]
    rw [e1]
    have hed := h.ed
    rw [hB] at hed
    have U := Lib.hid (fun w (h : EdIn own w x.ge p.t p.B []) => redo_no x.ge p.t p.B _ w h)
    clear e1
    go_enter Tryd.func41, Tryd.ntmps41
    go_wp2
    go_quiet (fail)
    have hd : Below w.heap.size w (w.drewN nq) := below_drewN (Below.refl _ _) _
    go_wp2_with fail
    refine (U.out _ (hed.after hd)).mono ?_
    rintro e w1 ⟨rfl, hb1⟩
    have hb1 := chain hb1 hd
    go_wp2
    go_ret
    exact ⟨own, rfl, h.apart (Goes.of_below (S := fun _ => False) hb1) (fun h => h) (fun h => h), Goes.of_below hb1⟩
  rw [List.concat_eq_append] at hB
  have hlast : p.O.getLastD ⟨#[]⟩ = t := by rw [hB]; simp
  have hdrop : p.O.dropLast = B := by rw [hB]; simp
  have hne : p.O ≠ [] := by rw [hB]; simp
  have htz : t.size ≤ 200 := h.ok.onward t (by rw [hB]; simp)
  have hfew : p.B.length + (B.length + 1) ≤ 30 := by have := h.ok.few; rw [hB, List.length_append, List.length_singleton] at this; exact this
  have hBk : ∀ t ∈ B, t.size ≤ 200 := fun y hy => h.ok.onward y (by rw [hB]; exact List.mem_append_left _ hy)
  have hed := h.ed
  rw [hB] at hed
  have U := Lib.hid (fun w (h : EdIn own w x.ge p.t p.B (B ++ [t])) => redo_yes x.ge p.t p.B B t _ w (fun k hk => hk.1) (by omega) (by omega) h)
  have hr0 := hr
  by_cases hf : fits p.H t
  · have e1 : onP p = (0, { p with t := t, O := B, B := p.B ++ [p.t], H := p.H ++ [(98 :: t.data.toList, t)] }) := by unfold onP; rw [if_neg hne, hlast, if_pos hf, hdrop]
    rw [e1]
    clear e1
    go_enter Tryd.func41, Tryd.ntmps41
    go_wp2
    go_quiet (fail)
    have hd : Below w.heap.size w (w.drewN nq) := below_drewN (Below.refl _ _) _
    go_wp2_with fail
    refine (U.out _ (hed.after hd)).mono ?_
    rintro e w1 ⟨rfl, hed1, hk1⟩
    obtain ⟨hed1, hg1⟩ := EdIn.kept hed1 hk1
    have hr1 := (hr.after hd).apart hg1 hr.ne1
    have hl1 := (h.leaf.after hd).apart hg1 (fun e => h.ne e.symm)
    have hg1 := (Goes.of_below (own := own) (S := (· = x.ge)) hd).trans hg1
    generalize updO own _ x.ge = own1 at *
    have T := Lib.hid (fun W (hb : Below w1.heap.size w1 W) => text_any x.ge t (p.B ++ [p.t]) B _ W (hed1.after hb))
    have d1 := hr1.c1
    have d2 := hr1.c2
    have n1 : gp ≠ x.gl := fun e => hr1.ne2 (by rw [e]; exact hl1.ol)
    have n2 : gp ≠ x.g := fun e => hr1.ne2 (by rw [e]; exact hl1.og)
    have S := Lib.hid (fun W (hb : Below w1.heap.size w1 W) => (leafSet_any x.gl x.g p.j p.t p.H t htz W (hl1.after hb).at_).mono fun e w' (h : Only2 x.gl x.g W w' ∧ ((fits p.H t ∧ e = .returned (.int .i64 0) ∧ LeafAt w' x.gl x.g t (p.H ++ [(98 :: t.data.toList, t)]) p.j) ∨ (¬ fits p.H t ∧ e = .returned (.int .i64 11) ∧ LeafAt w' x.gl x.g p.t p.H p.j))) =>
      (show e = .returned (.int .i64 0) ∧ LeafAt w' x.gl x.g t (p.H ++ [(98 :: t.data.toList, t)]) p.j ∧ Only2 x.gl x.g W w' ∧ w'.cell? ⟨gp, o + 1, none⟩ = some (.pointer (some ⟨x.ge, 0, none⟩)) ∧ w'.cell? ⟨gp, o + 2, none⟩ = some (.pointer (some ⟨x.gl, 0, none⟩)) from by
        have hbk := (h.1.block gp (Nat.lt_of_lt_of_le hr1.lt hb.size) n1 n2).trans (hb.block gp hr1.lt)
        rcases h.2 with ⟨_, h1, h2⟩ | ⟨h1, _⟩
        · exact ⟨h1, h2, h.1, by rw [← d1]; simp only [World.cell?, hbk], by rw [← d2]; simp only [World.cell?, hbk]⟩
        · exact absurd hf h1))
    clear U c1 c2 hk1
    go_wp2
    have hbw := Below.refl w1.heap.size w1
    go_region_held3 (fun w' => w'.cell? ⟨gp, o + 1, none⟩ = some (.pointer (some ⟨x.ge, 0, none⟩)) ∧ w'.cell? ⟨gp, o + 2, none⟩ = some (.pointer (some ⟨x.gl, 0, none⟩))) (first | exact ⟨d1, d2⟩ | exact ⟨by assumption, by assumption⟩)
      (first
        | (go_at_call 33; refine (T.out _ (first_drew hbw)).mono ?_; rintro e w2 ⟨rfl, rfl⟩)
        | (go_at_call 63; refine (S.out _ (first_drew hbw)).mono ?_; rintro e w2 ⟨rfl, hl2, ho2, k1, k2⟩))
    have hdw := first_drew hbw
    obtain ⟨hlf, hg2⟩ := (hl1.after hdw).goes hl2 ho2
    have hg2 := (Goes.of_below (own := own1) (S := (· = x.gl)) hdw).trans hg2
    have hed2 := hed1.apart hg2 h.ne
    go_wp2
    go_ret
    refine ⟨_, rfl, ⟨hed2, hlf, h.ne, okOf hlf.at_ ?_ ?_ hBk⟩, (hg1.wide fun k hk => .inl hk).trans (hg2.wide fun k hk => .inr hk)⟩
    · show (p.B ++ [p.t]).length + B.length ≤ 30
      rw [List.length_append, List.length_singleton]; omega
    · intro y hy
      rcases List.mem_append.1 hy with h1 | h1
      · exact h.ok.back y h1
      · rw [List.mem_singleton.1 h1]; exact h.ok.text
  · have e1 : onP p = (11, p) := by unfold onP; rw [if_neg hne, hlast, if_neg hf]
    rw [e1]
    clear e1
    go_enter Tryd.func41, Tryd.ntmps41
    go_wp2
    go_quiet (fail)
    have hd : Below w.heap.size w (w.drewN nq) := below_drewN (Below.refl _ _) _
    go_wp2_with fail
    refine (U.out _ (hed.after hd)).mono ?_
    rintro e w1 ⟨rfl, hed1, hk1⟩
    obtain ⟨hed1, hg1⟩ := EdIn.kept hed1 hk1
    have hr1 := (hr.after hd).apart hg1 hr.ne1
    have hl1 := (h.leaf.after hd).apart hg1 (fun e => h.ne e.symm)
    have hg1 := (Goes.of_below (own := own) (S := (· = x.ge)) hd).trans hg1
    generalize updO own _ x.ge = own1 at *
    have T := Lib.hid (fun W (hb : Below w1.heap.size w1 W) => text_any x.ge t (p.B ++ [p.t]) B _ W (hed1.after hb))
    have d1 := hr1.c1
    have d2 := hr1.c2
    have n1 : gp ≠ x.gl := fun e => hr1.ne2 (by rw [e]; exact hl1.ol)
    have n2 : gp ≠ x.g := fun e => hr1.ne2 (by rw [e]; exact hl1.og)
    have S := Lib.hid (fun W (hb : Below w1.heap.size w1 W) => (leafSet_any x.gl x.g p.j p.t p.H t htz W (hl1.after hb).at_).mono fun e w' (h : Only2 x.gl x.g W w' ∧ ((fits p.H t ∧ e = .returned (.int .i64 0) ∧ LeafAt w' x.gl x.g t (p.H ++ [(98 :: t.data.toList, t)]) p.j) ∨ (¬ fits p.H t ∧ e = .returned (.int .i64 11) ∧ LeafAt w' x.gl x.g p.t p.H p.j))) =>
      (show e = .returned (.int .i64 11) ∧ LeafAt w' x.gl x.g p.t p.H p.j ∧ Only2 x.gl x.g W w' ∧ w'.cell? ⟨gp, o + 1, none⟩ = some (.pointer (some ⟨x.ge, 0, none⟩)) ∧ w'.cell? ⟨gp, o + 2, none⟩ = some (.pointer (some ⟨x.gl, 0, none⟩)) from by
        have hbk := (h.1.block gp (Nat.lt_of_lt_of_le hr1.lt hb.size) n1 n2).trans (hb.block gp hr1.lt)
        rcases h.2 with ⟨h1, _⟩ | ⟨_, h1, h2⟩
        · exact absurd h1 hf
        · exact ⟨h1, h2, h.1, by rw [← d1]; simp only [World.cell?, hbk], by rw [← d2]; simp only [World.cell?, hbk]⟩))
    clear U c1 c2 hk1
    go_wp2
    have hbw := Below.refl w1.heap.size w1
    go_region_held3 (fun w' => w'.cell? ⟨gp, o + 1, none⟩ = some (.pointer (some ⟨x.ge, 0, none⟩)) ∧ w'.cell? ⟨gp, o + 2, none⟩ = some (.pointer (some ⟨x.gl, 0, none⟩))) (first | exact ⟨d1, d2⟩ | exact ⟨by assumption, by assumption⟩)
      (first
        | (go_at_call 33; refine (T.out _ (first_drew hbw)).mono ?_; rintro e w2 ⟨rfl, rfl⟩)
        | (go_at_call 63; refine (S.out _ (first_drew hbw)).mono ?_; rintro e w2 ⟨rfl, hl2, ho2, k1, k2⟩))
    have hdw := first_drew hbw
    obtain ⟨hlf, hg2⟩ := (hl1.after hdw).goes hl2 ho2
    have hg2 := (Goes.of_below (own := own1) (S := (· = x.gl)) hdw).trans hg2
    have hed2 := hed1.apart hg2 h.ne
    have R := Lib.hid (undo_yes x.ge t p.B B p.t _ w2 (fun k hk => hk.1) (by omega) (by omega) hed2)
    clear T S
    go_wp2_with fail
    refine R.out.mono ?_
    rintro e w3 ⟨rfl, hed3, hk3⟩
    obtain ⟨hed3, hg3⟩ := EdIn.kept hed3 hk3
    rw [← hB] at hed3
    have hlf3 := hlf.apart hg3 (fun e => h.ne e.symm)
    go_wp2
    go_ret
    exact ⟨_, rfl, ⟨hed3, hlf3, h.ne, h.ok⟩, ((hg1.wide fun k hk => .inl hk).trans (hg2.wide fun k hk => .inr hk)).trans (hg3.wide fun k hk => .inl hk)⟩
end Go.Proofs.YtigbnldmjafgmaaDoor

/- The walk of a page's pack. -/
namespace Go.Proofs.YtigbnldmjafgmaaDoor
open Go.RowKit
set_option linter.unusedVariables false

theorem leafPack_arg (a : Value) (n : Int) (hn : n < 0 ∨ 3 < n) (w : World) : Calls Tryd.prog 64 #[a, .int .i64 n] w fun e w' => e = .returned (.int .i64 1) ∧ w = w' := by
  by_cases h0 : n < 0
  · have q1 : decide (n < 0) = true := decide_eq_true h0
    go_enter Tryd.func64, Tryd.ntmps64
    go_wp2
    go_ret
    exact ⟨rfl, rfl⟩
  · have q1 : decide (n < 0) = false := decide_eq_false h0
    have q2 : decide (3 < n) = true := decide_eq_true (by omega)
    go_enter Tryd.func64, Tryd.ntmps64
    go_wp2
    go_ret
    exact ⟨rfl, rfl⟩
/-- What a page's operation comes to: the page's parts, and the one cell of the row that may turn. -/
def PageTo (own : Nat → Nat) (w : World) (gp o : Nat) (x : Pl) (p' : Pg) (w' : World) : Prop :=
  ∃ own' x' w1, PageAt own' w' x' p' ∧ Goes own own' (ofPl x) w w1 ∧ x'.gl = x.gl ∧ (w' = w1 ∧ x'.ge = x.ge ∨ w' = w1.setCell ⟨gp, o + 1, none⟩ (.pointer (some ⟨x'.ge, 0, none⟩)) ∧ w.heap.size ≤ x'.ge)
theorem PageTo.stay {own own' : Nat → Nat} {w w' : World} {gp o : Nat} {x : Pl} {p' : Pg} (h : PageAt own' w' x p') (hg : Goes own own' (ofPl x) w w') : PageTo own w gp o x p' w' := ⟨own', x, w', h, hg, rfl, .inl ⟨rfl, rfl⟩⟩
theorem Goes.set_ {own : Nat → Nat} {w : World} (a : Addr) (u : Value) : Goes own own (· = own a.block) w (w.setCell a u) :=
  ⟨rfl, rfl, rfl, by rw [size_setCell]; exact Nat.le_refl _, fun k hk hn => Below.heap_setCell w a u k (by rintro rfl; exact hn rfl), fun _ _ => rfl⟩
/-- A new editor of what the leaf has, put into the page. -/
theorem fresh_ed {own own1 : Nat → Nat} {w w1 w2 : World} {gp o : Nat} {x x1 : Pl} {p : Pg} (hgl : x1.gl = x.gl) (hlt : gp < w.heap.size) (hgh : own gp < w.heap.size) (hne : own gp ≠ x.gl) (hg : Goes own own1 (ofPl x) w w1) (hlf : LeafIn own1 w1 x1.gl x1.g p.t p.H p.j) (hB : p.B = []) (hO : p.O = [])
    (hed : EdAt w2 (fun k => k < w1.heap.size) w1.heap.size p.t [] []) (hb : Below w1.heap.size w1 w2) :
    PageTo own w gp o x p (w2.setCell ⟨gp, o + 1, none⟩ (.pointer (some ⟨w1.heap.size, 0, none⟩))) := by
  have hg2 : Goes own1 (updO own1 w1.heap.size w1.heap.size) (ofPl x) w1 w2 := Goes.of_belowU hb _
  have hed2 : EdIn (updO own1 w1.heap.size w1.heap.size) w2 w1.heap.size p.t p.B p.O := by
    rw [hB, hO]
    refine EdAt.weak hed fun k ⟨h1, h2⟩ => .inl ?_
    rcases Nat.lt_or_ge k w1.heap.size with h | h
    · exact h
    · exact absurd (updO_ge own1 h) h2
  have hlf2 : LeafIn (updO own1 w1.heap.size w1.heap.size) w2 x1.gl x1.g p.t p.H p.j := hlf.apart (Goes.of_belowU (S := fun _ => False) hb _) (fun h => h)
  have hgp : updO own1 w1.heap.size w1.heap.size gp = own gp := by rw [updO_lt own1 (Nat.lt_of_lt_of_le hlt hg.size)]; exact hg.same gp hlt
  have hs := Goes.set_ (own := updO own1 w1.heap.size w1.heap.size) (w := w2) ⟨gp, o + 1, none⟩ (.pointer (some ⟨w1.heap.size, 0, none⟩))
  have hw := hg.size
  refine ⟨_, ⟨w1.heap.size, x1.gl, x1.g⟩, w2, ⟨hed2.apart hs (fun e => ?_), hlf2.apart hs (fun e => hne ?_), fun e => ?_, okOf hlf2.at_ (by rw [hB, hO]; simp) (by rw [hB]; simp) (by rw [hO]; simp)⟩, hg.trans hg2, hgl, .inr ⟨rfl, hg.size⟩⟩
  · have e2 : w1.heap.size = own gp := e.trans hgp
    omega
  · have e2 : x1.gl = own gp := e.trans hgp
    rw [← e2, hgl]
  · have := hlf.at_.lt.1
    have e2 : w1.heap.size = x1.gl := e
    omega

set_option maxHeartbeats 1000000 in
theorem pagePack (own : Nat → Nat) (w : World) (x : Pl) (p : Pg) (gp o : Nat) (n : Int) (hr : RowAt own w gp o x p.name) (hgh : own gp < w.heap.size) (h : PageAt own w x p) :
    Calls Tryd.prog 43 #[.pointer (some ⟨gp, o, none⟩), .int .i64 n] w fun e w' => e = .returned (.int .i64 (packP p n).1) ∧ PageTo own w gp o x (packP p n).2 w' := by
  have c2 := hr.c2
  by_cases hn : n < 0 ∨ 3 < n
  · have e1 : packP p n = (1, p) := by unfold packP; rw [if_pos hn]
    rw [e1]
    have P := Lib.hid (leafPack_arg (.pointer (some ⟨x.gl, 0, none⟩)) n hn w)
    clear e1 hn
    go_enter Tryd.func43, Tryd.ntmps43
    go_wp2_with fail
    refine P.out.mono ?_
    rintro e w1 ⟨rfl, rfl⟩
    go_wp2
    go_ret
    exact ⟨rfl, PageTo.stay h (Goes.refl _ _ _)⟩
  by_cases h12 : n = 1 ∨ n = 2
  · have e1 : packP p n = (0, fallP p p.j) := by unfold packP; rw [if_neg hn, if_pos h12]
    rw [e1]
    have P := Lib.hid (leafPack_stay x.gl x.g p.j p.t p.H n h12 w h.leaf.at_)
    have q1 : (n != 0) = true := by rw [bne_iff_ne]; omega
    clear e1 hn h12
    go_enter Tryd.func43, Tryd.ntmps43
    go_wp2_with fail
    refine P.out.mono ?_
    rintro e w1 ⟨rfl, hl1, ho⟩
    obtain ⟨hlf, hg⟩ := h.leaf.goes hl1 ho
    have hr1 := hr.apart hg hr.ne2
    have d2 := hr1.c2
    have d1 := hr1.c1
    have f1 := hr1.f1
    clear c2
    go_wp2_with fail
    refine (leafText x.gl x.g _ _ _ w1 hlf.at_).mono ?_
    rintro e w2 ⟨rfl, rfl⟩
    have N := Lib.hid (newE_ok _ hlf.at_.tsize (fun k => k < w1.heap.size) w1 (fun k hk => hk))
    generalize hT : endT ⟨#[]⟩ (p.H.take p.j) = T at *
    have HT := Lib.hid hT
    clear hT
    go_wp2_with fail
    refine N.out.mono ?_
    rintro e w3 ⟨rfl, hed, hb, hsz⟩
    have hr3 := hr1.after hb
    have d1 := hr3.c1
    have f1 := hr3.f1
    clear d2 hr1
    go_wp2
    go_ret
    have hT := HT.out
    subst hT
    exact ⟨rfl, fresh_ed (x1 := x) (p := fallP p p.j) rfl hr.lt hgh hr.ne2 (hg.wide fun k hk => .inr hk) hlf rfl rfl hed hb⟩
  have h03 : n = 0 ∨ n = 3 := by omega
  have P := Lib.hid (leafPack_new x.gl x.g p.j p.t p.H n h03 w h.leaf.at_)
  by_cases h0 : n = 0
  · have e1 : packP p n = (0, { p with H := [(98 :: p.t.data.toList, p.t)], j := 1 }) := by unfold packP; rw [if_neg hn, if_neg h12, if_pos h0]
    rw [e1]
    subst h0
    clear e1 hn h12 h03
    go_enter Tryd.func43, Tryd.ntmps43
    go_wp2_with fail
    refine P.out.mono ?_
    rintro e w1 ⟨rfl, g', hl1, hg', ho⟩
    obtain ⟨hlf, hg⟩ := h.leaf.goesU hl1 hg' ho
    go_wp2
    go_ret
    exact ⟨rfl, _, ⟨x.ge, x.gl, g'⟩, w1, ⟨h.ed.apart hg h.ne, hlf, h.ne, okOf hlf.at_ h.ok.few h.ok.back h.ok.onward⟩, hg.wide fun k hk => .inr hk, rfl, .inl ⟨rfl, rfl⟩⟩
  · have e1 : packP p n = (0, { p with B := [], O := [], H := [(98 :: p.t.data.toList, p.t)], j := 1 }) := by unfold packP; rw [if_neg hn, if_neg h12, if_neg h0]
    rw [e1]
    have q1 : (n != 0) = true := by rw [bne_iff_ne]; omega
    clear e1 hn h12 h0 h03
    go_enter Tryd.func43, Tryd.ntmps43
    go_wp2_with fail
    refine P.out.mono ?_
    rintro e w1 ⟨rfl, g', hl1, hg', ho⟩
    obtain ⟨hlf, hg⟩ := h.leaf.goesU hl1 hg' ho
    have hr1 := hr.apart hg hr.ne2
    have d2 := hr1.c2
    clear c2
    go_wp2_with fail
    refine (leafText x.gl g' _ _ _ w1 hlf.at_).mono ?_
    rintro e w2 ⟨rfl, rfl⟩
    have N := Lib.hid (newE_ok p.t hlf.at_.tsize (fun k => k < w1.heap.size) w1 (fun k hk => hk))
    go_wp2_with fail
    refine N.out.mono ?_
    rintro e w3 ⟨rfl, hed, hb, hsz⟩
    have hr3 := hr1.after hb
    have d1 := hr3.c1
    have f1 := hr3.f1
    clear d2 hr1
    go_wp2
    go_ret
    exact ⟨rfl, fresh_ed (x1 := ⟨x.ge, x.gl, g'⟩) (p := { p with B := [], O := [], H := [(98 :: p.t.data.toList, p.t)], j := 1 }) rfl hr.lt hgh hr.ne2 (hg.wide fun k hk => .inr hk) hlf rfl rfl hed hb⟩
end Go.Proofs.YtigbnldmjafgmaaDoor

/- The walk of house.name. -/
namespace Go.Proofs.YtigbnldmjafgmaaDoor
open Go.RowKit
set_option linter.unusedVariables false

def inName (c : UInt8) : Bool := decide (97 ≤ c.toNat) && decide (c.toNat ≤ 122)
theorem nameE_chars {s : ByteArray} (h1 : 1 ≤ s.size) (h8 : s.size ≤ 8) : nameE s = if s.data.toList.all inName = true then 0 else 3 := by
  unfold nameE; rw [if_neg (by omega)]; rfl

set_option maxHeartbeats 1000000 in
theorem name_any (s : ByteArray) (hs : s.size ≤ 140737488351232) (w : World) : Calls Tryd.prog 35 #[.string s] w fun e w' => e = .returned (.int .i64 (nameE s)) ∧ Below w.heap.size w w' := by
  by_cases h1 : s.size < 1
  · have e1 : nameE s = 3 := by unfold nameE; rw [if_pos (.inl h1)]
    rw [e1]
    have q1 : decide (s.size < 1) = true := decide_eq_true h1
    have q1' : decide ((s.size : Int) < 1) = true := decide_eq_true (by omega)
    clear e1
    go_enter Tryd.func35, Tryd.ntmps35
    go_wp2
    go_ret
    exact ⟨rfl, Below.refl _ _⟩
  have q1 : decide (s.size < 1) = false := decide_eq_false h1
  have q1' : decide ((s.size : Int) < 1) = false := decide_eq_false (by omega)
  by_cases h8 : 8 < s.size
  · have e1 : nameE s = 3 := by unfold nameE; rw [if_pos (.inr h8)]
    rw [e1]
    have q2 : decide (8 < s.size) = true := decide_eq_true h8
    have q2' : decide ((8 : Int) < (s.size : Int)) = true := decide_eq_true (by omega)
    clear e1
    go_enter Tryd.func35, Tryd.ntmps35
    go_wp2
    go_ret
    exact ⟨rfl, Below.refl _ _⟩
  have q2 : decide (8 < s.size) = false := decide_eq_false h8
  have q2' : decide ((8 : Int) < (s.size : Int)) = false := decide_eq_false (by omega)
  have HE := Lib.hid (nameE_chars (s := s) (by omega) (by omega))
  have hcv := fun w s => run_bytes_of_string (P := Tryd.prog) w 9 95 5 s Tryd.underlying9 Tryd.underlying95 Tryd.underlying5
  generalize nameE s = E at *
  go_enter Tryd.func35, Tryd.ntmps35
  go_wp2
  generalize hW' : World.drew _ = W1
  obtain ⟨hb0, hz0, hat⟩ := bytes_at s _ (grownCap_ge _ _ _ _) _ _ _ hW'
  clear hW' hcv
  generalize grownCap _ _ _ _ = cap
  go_loopw [4, 16] (fun _ iv wr => ∃ i : Nat, i ≤ s.size ∧ iv = .int .i64 i ∧ Hid ((s.data.toList.take i).all inName = true) ∧ BytesAt wr w.heap.size s.data.toList ∧ Below w.heap.size w wr) (fun _ iv _ => s.size - (intOf iv).toNat)
  case atStart => exact ⟨0, Nat.zero_le _, rfl, Lib.hid (by simp), hat, hb0⟩
  case round =>
    clear hat hb0
    obtain ⟨i, hi, rfl, HA, hat, hbr⟩ := hrel
    by_cases hlt : i < s.size
    · have hcb := (hat.2 i hlt).1
      have htk := take_succ_getD s.data.toList i 0 hlt
      have Htk := Lib.hid htk
      have hmem : s.data.toList.getD i 0 ∈ s.data.toList := by rw [getD_some _ _ _ hlt]; exact List.getElem_mem _
      have Hmem := Lib.hid hmem
      clear htk hmem
      generalize s.data.toList.getD i 0 = b at *
      by_cases ha : b.toNat < 97
      · have r1 : decide ((b.toNat : Int) < 97) = true := decide_eq_true (by omega)
        have hbad : s.data.toList.all inName = false := by
          rw [List.all_eq_false]
          exact ⟨b, Hmem.out, by unfold inName; simp [show ¬ 97 ≤ b.toNat by omega]⟩
        have Hbad := Lib.hid hbad
        clear hbad
        go_wp2
        go_ret
        exact ⟨by rw [HE.out, if_neg (by rw [Hbad.out]; decide)]; rfl, hbr⟩
      · have r1 : decide ((b.toNat : Int) < 97) = false := decide_eq_false (by omega)
        by_cases hz : 122 < b.toNat
        · have r2 : decide ((122 : Int) < (b.toNat : Int)) = true := decide_eq_true (by omega)
          have r2' : decide (122 < b.toNat) = true := decide_eq_true hz
          have hbad : s.data.toList.all inName = false := by
            rw [List.all_eq_false]
            exact ⟨b, Hmem.out, by unfold inName; simp [show ¬ b.toNat ≤ 122 by omega]⟩
          have Hbad := Lib.hid hbad
          clear hbad
          go_wp2
          go_ret
          exact ⟨by rw [HE.out, if_neg (by rw [Hbad.out]; decide)]; rfl, hbr⟩
        · have r2 : decide ((122 : Int) < (b.toNat : Int)) = false := decide_eq_false (by omega)
          have r2' : decide (122 < b.toNat) = false := decide_eq_false hz
          have hgd : inName b = true := by unfold inName; simp; omega
          have Hgd := Lib.hid hgd
          clear hgd
          go_wp2
          go_roundw
          case rel => exact ⟨i + 1, by omega, by go_num, Lib.hid (by rw [Htk.out, List.all_append, HA.out, List.all_cons, Hgd.out]; rfl), hat, ⟨hbr.os, hbr.tape, hbr.output, hbr.size, hbr.block⟩⟩
          case measure => simp [intOf]; omega
    · obtain rfl : i = s.size := by omega
      have hall : s.data.toList.all inName = true := by
        have := HA.out
        rwa [show s.data.toList.take s.size = s.data.toList from List.take_of_length_le (Nat.le_refl _)] at this
      have Hall := Lib.hid hall
      clear hall
      go_wp2
      go_ret
      exact ⟨by rw [HE.out, if_pos Hall.out]; rfl, hbr⟩
end Go.Proofs.YtigbnldmjafgmaaDoor

/- The walk of slices.IndexFunc over pages, by a name. -/
namespace Go.Proofs.YtigbnldmjafgmaaDoor
open Go.RowKit
set_option linter.unusedVariables false

/-- A deed's cells. -/
def cDeed (d : Dd) (A : Option Addr) (c : Nat) : Array Value := #[.int .i64 d.kind, .int .i64 d.n, .string d.name, .string d.text, .slice A d.edits.length c]

set_option maxHeartbeats 1000000 in
theorem pageIs (y : Pl × Pg) (gd : Nat) (d : Dd) (A : Option Addr) (c : Nat) (w : World) (hb : Blk w gd 25 (cDeed d A c)) :
    Calls Tryd.prog 37 #[.agg #[.string y.2.name, .pointer (some ⟨y.1.ge, 0, none⟩), .pointer (some ⟨y.1.gl, 0, none⟩)], .pointer (some ⟨gd, 0, none⟩)] w fun e w' => e = .returned (.bool (decide (y.2.name = d.name))) ∧ Below w.heap.size w w' := by
  have b2 : (w.alloc (Obj.cells #[.string y.2.name, .pointer (some ⟨y.1.ge, 0, none⟩), .pointer (some ⟨y.1.gl, 0, none⟩)] 64)).cell? ⟨gd, 2, none⟩ = some (.string d.name) := (hb.alloc _).cell 2
  have c0 : (w.alloc (Obj.cells #[.string y.2.name, .pointer (some ⟨y.1.ge, 0, none⟩), .pointer (some ⟨y.1.gl, 0, none⟩)] 64)).cell? ⟨w.heap.size, 0, none⟩ = some (.string y.2.name) := (Blk.new w _ _).cell 0
  have hba : Below w.heap.size w (w.alloc (Obj.cells #[.string y.2.name, .pointer (some ⟨y.1.ge, 0, none⟩), .pointer (some ⟨y.1.gl, 0, none⟩)] 64)) := (Below.refl _ _).alloc (Nat.le_refl _) _
  have hq : (y.2.name.toList == d.name.toList) = decide (y.2.name = d.name) := by
    by_cases h : y.2.name = d.name
    · rw [h]; simp
    · rw [decide_eq_false h, beq_eq_false_iff_ne]
      intro e
      rw [ByteArray.toList_eq, ByteArray.toList_eq] at e
      exact h (ba_ext e)
  clear hb
  go_enter Tryd.func37, Tryd.ntmps37
  go_wp2
  first
    | go_quiet (fail)
      go_wp2
    | skip
  go_ret
  exact ⟨by first | rfl | (rw [← hq]; rfl), ⟨hba.os, hba.tape, hba.output, hba.size, hba.block⟩⟩

theorem pages_map_drop (Q : List (Pl × Pg)) (k : Nat) (d : Pl × Pg) (h : k < Q.length) : (Q.map (·.2)).drop k = (Q.getD k d).2 :: (Q.map (·.2)).drop (k + 1) := by
  rw [List.drop_eq_getElem_cons (by simpa using h), List.getElem_map, getD_some _ _ _ h]
def y0 : Pl × Pg := (⟨0, 0, 0⟩, pg0)

set_option maxHeartbeats 1000000 in
theorem indexPage (gd : Nat) (d : Dd) (Ad : Option Addr) (cd : Nat) (A : Option Addr) (n c B : Nat) (Q : List (Pl × Pg)) (hl : Q.length = n) (hn : n ≤ 1000000000000000) (w : World) (r : Reads w B A n 3 (Q.flatMap cPage)) (hB : B ≤ w.heap.size) (hd : Blk w gd 25 (cDeed d Ad cd)) :
    Calls Tryd.prog 36 #[.slice A n c, .func (Fn.func 37) #[] #[.pointer (some ⟨gd, 0, none⟩)]] w
      fun e w' => e = .returned (.int .i64 (placeN d.name (Q.map (·.2)) 0)) ∧ Below w.heap.size w w' := by
  have Hl := Lib.hid hl
  have hen := enters_of Tryd.func37 (by kernel_rfl) rfl
  clear hl
  go_enter Tryd.func36, Tryd.ntmps36
  go_wp2
  go_loopw [5, 8] (fun _ i wr => ∃ k : Nat, k ≤ n ∧ i = .int .i64 k ∧ Hid (placeN d.name (Q.map (·.2)) 0 = placeN d.name ((Q.map (·.2)).drop k) k) ∧ Below w.heap.size w wr) (fun _ i _ => n - (intOf i).toNat)
  case atStart => exact ⟨0, Nat.zero_le _, rfl, Lib.hid (by simp), Below.refl _ _⟩
  case round =>
    obtain ⟨k, hk, rfl, Hf, hbr⟩ := hrel
    by_cases hlt : k < n
    · obtain ⟨b, o, rfl, hbB, hc⟩ := (r.below (hbr.mono hB)).2 (by omega)
      have c0 := hc (k * 3 + 0) (by rw [flat_length cPage 3 cPage_len, Hl.out]; omega)
      have c1 := hc (k * 3 + 1) (by rw [flat_length cPage 3 cPage_len, Hl.out]; omega)
      have c2 := hc (k * 3 + 2) (by rw [flat_length cPage 3 cPage_len, Hl.out]; omega)
      rw [flat_getD cPage 3 cPage_len y0 Q k _ (by rw [Hl.out]; omega) (by omega)] at c0 c1 c2
      simp only [cPage, List.getD_cons_zero, List.getD_cons_succ, Nat.add_zero, ← Nat.add_assoc] at c0 c1 c2
      have Hd := Lib.hid (pages_map_drop Q k y0 (by rw [Hl.out]; exact hlt))
      have Hcall := Lib.hid (pageIs (Q.getD k y0) gd d Ad cd wr (hd.after hbr))
      clear hc
      generalize Q.getD k y0 = y at *
      by_cases h0 : y.2.name = d.name
      · have hcl := Hcall.out
        rw [decide_eq_true h0] at hcl
        have Hcl := Lib.hid hcl
        have H0 := Lib.hid h0
        clear h0 hcl
        go_wp2_with fail
        refine Hcl.out.mono ?_
        rintro e w1 ⟨rfl, hb1⟩
        go_wp2
        go_ret
        exact ⟨by rw [Hf.out, Hd.out, placeN, if_pos H0.out]; rfl, chain hb1 hbr⟩
      · have hcl := Hcall.out
        rw [decide_eq_false h0] at hcl
        have Hcl := Lib.hid hcl
        have H0 := Lib.hid h0
        clear h0 hcl
        go_wp2_with fail
        refine Hcl.out.mono ?_
        rintro e w1 ⟨rfl, hb1⟩
        go_wp2
        go_roundw
        case rel => exact ⟨k + 1, by omega, by go_num, Lib.hid (by rw [Hf.out, Hd.out, placeN, if_neg H0.out]), chain hb1 hbr⟩
        case measure => simp only [intOf]; omega
    · obtain rfl : k = n := by omega
      go_wp2
      go_ret
      exact ⟨by rw [Hf.out, List.drop_of_length_le (by simp [Hl.out])]; rfl, hbr⟩
end Go.Proofs.YtigbnldmjafgmaaDoor

/- The walk of a house's begin. -/
namespace Go.Proofs.YtigbnldmjafgmaaDoor
open Go.RowKit
set_option linter.unusedVariables false

theorem infoPage : (Tryd.prog.info? 64).map (fun i => (i.zero, i.size, i.bytes)) = some (some (.agg #[.string ⟨#[]⟩, .pointer none, .pointer none]), 3, 32) := by kernel_rfl
theorem HouseAt.lt {own : Nat → Nat} {w : World} {gh : Nat} {Q : List (Pl × Pg)} (h : HouseAt own w gh Q) : ∀ i ∈ idsH gh Q, i < w.heap.size := fun i hi => by
  obtain ⟨⟨A, n, c, h1, _⟩, _, h5, _⟩ := h
  rcases List.mem_cons.1 hi with rfl | hi
  · exact h1.lt
  · obtain ⟨y, hy, hm⟩ := List.mem_flatMap.1 hi
    have hp := h5 y hy
    rcases List.mem_cons.1 hm with rfl | hm
    · exact hp.ed.lt
    · rcases List.mem_cons.1 hm with rfl | hm
      · exact hp.leaf.at_.lt.1
      · cases hm
/-- What begin answers and leaves. -/
def beginE (k : Int) (P : List Pg) (d : Dd) : Int := if 0 ≤ k then 10 else if P.length = 6 then 11 else if 200 < d.text.size then 2 else 0
def beginP (k : Int) (P : List Pg) (d : Dd) : List Pg := if beginE k P d = 0 then P ++ [newP d.name d.text] else P
/-- The house's part of a deed's post. -/
def HouseTo (own : Nat → Nat) (w : World) (gh : Nat) (Q : List (Pl × Pg)) (P' : List Pg) (w' : World) : Prop :=
  ∃ own' Q', HouseAt own' w' gh Q' ∧ Q'.map (·.2) = P' ∧ Goes own own' (fun k => k ∈ idsH gh Q) w w' ∧ ∀ i ∈ idsH gh Q', i ∈ idsH gh Q ∨ w.heap.size ≤ i
theorem HouseTo.stay {own : Nat → Nat} {w w' : World} {gh : Nat} {Q : List (Pl × Pg)} (h : HouseAt own w gh Q) (hb : Below w.heap.size w w') : HouseTo own w gh Q (Q.map (·.2)) w' :=
  ⟨own, Q, h.apart (Goes.of_below (S := fun _ => False) hb) (fun _ _ h => h), rfl, Goes.of_below hb, fun i hi => .inl hi⟩

theorem cell_grown {w3 w4 : World} {row : Option Nat} {g : Nat} (hg : w3.grownBy w4 row) (hlt : g < w3.heap.size) (hne : row ≠ some g) (i : Nat) : w4.cell? ⟨g, i, none⟩ = w3.cell? ⟨g, i, none⟩ := by
  have := hg.block g hlt (fun e => hne e.symm)
  simp only [World.cell?, this]
theorem frozen_grown {w3 w4 : World} {row : Option Nat} {g : Nat} (hg : w3.grownBy w4 row) (hlt : g < w3.heap.size) (hne : row ≠ some g) (i : Nat) : w4.frozen? ⟨g, i, none⟩ = w3.frozen? ⟨g, i, none⟩ := by
  have := hg.block g hlt (fun e => hne e.symm)
  simp only [World.frozen?, this]
theorem page_cells (w : World) (a : ByteArray) (b c : Nat) : ∀ x, x < 3 → (w.alloc (Obj.cells #[.string a, .pointer (some ⟨b, 0, none⟩), .pointer (some ⟨c, 0, none⟩)] 64)).cell? ((⟨w.heap.size, 0, none⟩ : Addr).add x) = ([.string a, .pointer (some ⟨b, 0, none⟩), .pointer (some ⟨c, 0, none⟩)] : List Value)[x]? := fun x hx => by
  have hB := Blk.new w 64 #[.string a, .pointer (some ⟨b, 0, none⟩), .pointer (some ⟨c, 0, none⟩)]
  rw [add_at, Nat.zero_add, hB.cell, ← Array.getElem?_toList]

theorem ids_ne {gh : Nat} {Q : List (Pl × Pg)} (h : (idsH gh Q).Nodup) {y : Pl × Pg} (hy : y ∈ Q) : y.1.ge ≠ gh ∧ y.1.gl ≠ gh := by
  unfold idsH at h
  have h1 := (List.nodup_cons.1 h).1
  exact ⟨fun e => h1 (List.mem_flatMap.2 ⟨y, hy, by rw [← e]; simp⟩), fun e => h1 (List.mem_flatMap.2 ⟨y, hy, by rw [← e]; simp⟩)⟩
/-- A new page is put behind the others. -/
theorem fresh_page {own own2 : Nat → Nat} {w w2 w3 w4 : World} {gh ge gl g n c2 c3 : Nat} {A2 A3 : Option Addr} {Q : List (Pl × Pg)} {name t : ByteArray} (hlt : ∀ i ∈ idsH gh Q, i < w.heap.size)
    (hG : Goes own own2 (fun k => k ∈ idsH gh Q) w w2) (hB : Blk w2 gh 66 #[.slice A2 n c2]) (hrow : OwnK 64 3 w2 (fun k => k < w2.heap.size ∧ own2 k ≠ gh) A2 n c2 (Q.flatMap cPage)) (hQ : Q.length = n) (how : own2 gh = gh)
    (hpg : ∀ y ∈ Q, PageAt own2 w2 y.1 y.2) (hids : (idsH gh Q).Nodup) (hed : EdIn own2 w2 ge t [] []) (hlf : LeafIn own2 w2 gl g t [(98 :: t.data.toList, t)] 1) (ht : t.size ≤ 200) (h1 : w.heap.size ≤ ge) (h2 : w.heap.size ≤ gl) (h12 : ge ≠ gl)
    (hb3 : Below w2.heap.size w2 w3) (hown : OwnK 64 3 w4 (fun k => k < w2.heap.size ∧ own2 k ≠ gh) A3 (n + 1) c3 (Q.flatMap cPage ++ [.string name, .pointer (some ⟨ge, 0, none⟩), .pointer (some ⟨gl, 0, none⟩)])) (hg4 : w3.grownBy w4 (Value.slice A2 n c2).ownBlock) :
    HouseTo own w gh Q (Q.map (·.2) ++ [newP name t]) (w4.setCell ⟨gh, 0, none⟩ (.slice A3 (n + 1) c3)) := by
  have hghw : gh < w.heap.size := hlt gh (List.mem_cons_self ..)
  have hne : (Value.slice A2 n c2).ownBlock ≠ some gh := hrow.ne_blk hB (by decide)
  have hB4 : Blk w4 gh 66 #[.slice A2 n c2] := (hB.after hb3).grown hg4 hne
  have hne3 : (Value.slice A3 (n + 1) c3).ownBlock ≠ some gh := hown.ne_blk hB4 (by decide)
  have hG5 : Goes own2 (updO own2 w2.heap.size gh) (· = gh) w2 (w4.setCell ⟨gh, 0, none⟩ (.slice A3 (n + 1) c3)) := by
    refine ⟨hg4.os.trans hb3.os, hg4.tape.trans hb3.tape, hg4.output.trans hb3.output, by rw [size_setCell]; exact Nat.le_trans hb3.size hg4.size, fun k hk hn => ?_, fun k hk => updO_lt own2 hk⟩
    have e1 := Below.heap_setCell w4 ⟨gh, 0, none⟩ (.slice A3 (n + 1) c3) k (fun e => hn (by rw [e]; exact how))
    have e2 := hg4.block k (Nat.lt_of_lt_of_le hk hb3.size) (fun e => (hrow.lt k e.symm).1 ⟨hk, hn⟩)
    exact e1.trans (e2.trans (hb3.block k hk))
  have hgh2 : gh < w2.heap.size := hB.lt
  refine ⟨updO own2 w2.heap.size gh, Q ++ [(⟨ge, gl, g⟩, newP name t)], ⟨⟨A3, n + 1, c3, hB4.set_ 0 _, ?_, by rw [List.length_append, hQ]; rfl, hne3⟩, by rw [updO_lt own2 hgh2]; exact how, fun y hy => ?_, ?_⟩, by rw [List.map_append]; rfl, hG.trans (hG5.wide fun k hk => by rw [hk]; exact List.mem_cons_self ..), fun i hi => ?_⟩
  · rw [List.flatMap_append]
    refine (hown.far hne3 0 _).weak fun k hk => ?_
    rintro ⟨_, hq⟩
    rcases Nat.lt_or_ge k w2.heap.size with h | h
    · exact (hown.lt k hk).1 ⟨h, by rwa [updO_lt own2 h] at hq⟩
    · exact hq (updO_ge own2 h)
  · rcases List.mem_append.1 hy with hy | hy
    · exact (hpg y hy).apart hG5 (ids_ne hids hy).1 (ids_ne hids hy).2
    · rw [List.mem_singleton.1 hy]
      exact ⟨hed.apart hG5 (fun e => by omega), hlf.apart hG5 (fun e => by omega), h12, newP_ok name ht⟩
  · have e : idsH gh (Q ++ [(⟨ge, gl, g⟩, newP name t)]) = idsH gh Q ++ [ge, gl] := by unfold idsH; rw [List.flatMap_append]; rfl
    rw [e]
    refine List.nodup_append.2 ⟨hids, by simp [h12], fun a ha b hb => ?_⟩
    have := hlt a ha
    simp only [List.mem_cons, List.not_mem_nil, or_false] at hb
    rcases hb with rfl | rfl <;> omega
  · have e : idsH gh (Q ++ [(⟨ge, gl, g⟩, newP name t)]) = idsH gh Q ++ [ge, gl] := by unfold idsH; rw [List.flatMap_append]; rfl
    rw [e] at hi
    rcases List.mem_append.1 hi with h | h
    · exact .inl h
    · simp only [List.mem_cons, List.not_mem_nil, or_false] at h
      rcases h with rfl | rfl
      · exact .inr h1
      · exact .inr h2

set_option maxHeartbeats 2000000 in
theorem begin_any (own : Nat → Nat) (w : World) (gh : Nat) (Q : List (Pl × Pg)) (h : HouseAt own w gh Q) (k : Int) (hk : -9223372036854775808 ≤ k ∧ k ≤ 9223372036854775807) (hQ : Q.length ≤ 6) (d : Dd) (Ad : Option Addr) (cd : Nat) :
    Calls Tryd.prog 38 #[.pointer (some ⟨gh, 0, none⟩), .int .i64 k, .agg (cDeed d Ad cd)] w fun e w' => e = .returned (.int .i64 (beginE k (Q.map (·.2)) d)) ∧ HouseTo own w gh Q (beginP k (Q.map (·.2)) d) w' := by
  have hba : Below w.heap.size w (w.alloc (Obj.cells (cDeed d Ad cd) 25)) := (Below.refl _ _).alloc (Nat.le_refl _) _
  have hbd := Blk.new w 25 (cDeed d Ad cd)
  have hlen : (Q.map (·.2)).length = Q.length := List.length_map ..
  have hag := h.apart (Goes.of_below (own := own) (S := fun _ => False) hba) (fun _ _ h => h)
  unfold cDeed at hba hbd hag ⊢
  by_cases hk0 : 0 ≤ k
  · have e1 : beginE k (Q.map (·.2)) d = 10 := by unfold beginE; rw [if_pos hk0]
    have e2 : beginP k (Q.map (·.2)) d = Q.map (·.2) := by unfold beginP; rw [if_neg (by rw [e1]; decide)]
    rw [e1, e2]
    have HS := Lib.hid (HouseTo.stay h hba)
    have q1 : decide (0 ≤ k) = true := decide_eq_true hk0
    clear e1 e2 hag hbd hba
    go_enter Tryd.func38, Tryd.ntmps38
    go_wp2
    go_ret
    exact ⟨rfl, HS.out⟩
  have q1 : decide (0 ≤ k) = false := decide_eq_false hk0
  obtain ⟨⟨A, n, c, hb1, hrow, hQl, hnb⟩, how, hpg, hids⟩ := hag
  have c0 := hb1.cell 0
  by_cases h6 : n = 6
  · have e1 : beginE k (Q.map (·.2)) d = 11 := by unfold beginE; rw [if_neg hk0, if_pos (by rw [hlen, hQl]; exact h6)]
    have e2 : beginP k (Q.map (·.2)) d = Q.map (·.2) := by unfold beginP; rw [if_neg (by rw [e1]; decide)]
    rw [e1, e2]
    have HS := Lib.hid (HouseTo.stay h hba)
    subst h6
    clear e1 e2 hbd hba hrow hQl hlen
    go_enter Tryd.func38, Tryd.ntmps38
    go_wp2
    go_ret
    exact ⟨rfl, HS.out⟩
  have q2 : ((n : Int) == 6) = false := by rw [beq_eq_false_iff_ne]; omega
  by_cases hz : 200 < d.text.size
  · have e1 : beginE k (Q.map (·.2)) d = 2 := by unfold beginE; rw [if_neg hk0, if_neg (by rw [hlen, hQl]; exact h6), if_pos hz]
    have e2 : beginP k (Q.map (·.2)) d = Q.map (·.2) := by unfold beginP; rw [if_neg (by rw [e1]; decide)]
    rw [e1, e2]
    have HS := Lib.hid (fun w' hb => HouseTo.stay (w' := w') h hb)
    have b3 := hbd.cell 3
    have N := Lib.hid (newE_no d.text hz)
    clear e1 e2 hbd hrow hQl hlen
    go_enter Tryd.func38, Tryd.ntmps38
    go_wp2_with fail
    refine (N.out _).mono ?_
    rintro e w1 ⟨rfl, rfl⟩
    go_wp2
    go_ret
    exact ⟨rfl, HS.out _ hba⟩
  have e1 : beginE k (Q.map (·.2)) d = 0 := by unfold beginE; rw [if_neg hk0, if_neg (by rw [hlen, hQl]; exact h6), if_neg hz]
  have e2 : beginP k (Q.map (·.2)) d = Q.map (·.2) ++ [newP d.name d.text] := by unfold beginP; rw [if_pos e1]
  rw [e1, e2]
  have hag : HouseAt own (w.alloc (Obj.cells #[.int .i64 d.kind, .int .i64 d.n, .string d.name, .string d.text, .slice Ad d.edits.length cd] 25)) gh Q := ⟨⟨A, n, c, hb1, hrow, hQl, hnb⟩, how, hpg, hids⟩
  have hlts := h.lt
  have Hlts := Lib.hid hlts
  have hwz : (w.alloc (Obj.cells #[.int .i64 d.kind, .int .i64 d.n, .string d.name, .string d.text, .slice Ad d.edits.length cd] 25)).heap.size = w.heap.size + 1 := by simp
  clear e1 e2 hlts hb1 hrow hnb hpg
  have b3 := hbd.cell 3
  have N := Lib.hid (newE_ok d.text (by omega) (fun k => k < w.heap.size + 1) (w.alloc (Obj.cells #[.int .i64 d.kind, .int .i64 d.n, .string d.name, .string d.text, .slice Ad d.edits.length cd] 25)) (fun k hk => by rw [hwz]; exact hk))
  go_enter Tryd.func38, Tryd.ntmps38
  go_wp2_with fail
  refine N.out.mono ?_
  rintro e w1 ⟨rfl, hed1, hb1, hsz1⟩
  rw [hwz] at hed1 hsz1
  have hbd1 := hbd.after hb1
  have b3' := hbd1.cell 3
  have b2' := hbd1.cell 2
  have hag1 := hag.apart (Goes.of_belowU (own := own) (S := fun _ => False) hb1 (w.heap.size + 1)) (fun _ _ h => h)
  rw [hwz] at hag1
  have hbw1 : Below w.heap.size w w1 := chain hb1 hba
  have L := Lib.hid (leafNew_ok d.text (by omega) w1)
  clear N b3 hag hba hbd c0
  go_wp2_with fail
  refine L.out.mono ?_
  rintro e w2 ⟨gl, g, rfl, hl2, hgl, hg2, hb2⟩
  have hed1 : EdIn (updO own (w.heap.size + 1) (w.heap.size + 1)) w1 (w.heap.size + 1) d.text [] [] := EdAt.weak hed1 fun k ⟨h1, h2⟩ => .inl (by
    rcases Nat.lt_or_ge k (w.heap.size + 1) with h | h
    · exact h
    · exact absurd (updO_ge own h) h2)
  have hG1 : Goes own (updO own (w.heap.size + 1) (w.heap.size + 1)) (fun k => k ∈ idsH gh Q) w w1 := ⟨hbw1.os, hbw1.tape, hbw1.output, hbw1.size, fun k hk _ => hbw1.block k hk, fun k hk => updO_lt own (by omega)⟩
  generalize updO own (w.heap.size + 1) (w.heap.size + 1) = own1 at *
  have hG2 : Goes own1 (updO own1 w1.heap.size gl) (fun _ => False) w1 w2 := Goes.of_belowU hb2 gl
  have hglw : w.heap.size ≤ gl := Nat.le_trans hbw1.size hgl
  have hgne : w.heap.size + 1 ≠ gl := by omega
  have hlf2 : LeafIn (updO own1 w1.heap.size gl) w2 gl g d.text [(98 :: d.text.data.toList, d.text)] 1 := ⟨hl2, updO_ge own1 hgl, updO_ge own1 hg2⟩
  have hed2 := hed1.apart hG2 (fun h => h)
  have hag2 := hag1.apart hG2 (fun _ _ h => h)
  have hG := hG1.trans (hG2.wide (fun _ h => h.elim))
  have hbd2 := hbd1.after hb2
  have b2 := hbd2.cell 2
  generalize updO own1 w1.heap.size gl = own2 at *
  obtain ⟨⟨A2, n2, c2, hB, hrow, hQ2, hnb2⟩, how2, hpg2, hids⟩ := hag2
  have d0 := hB.cell 0
  have f0 := hB.frozen 0
  obtain rfl : n2 = n := by rw [← hQ2, ← hQl]
  clear L hl2 hgl hg2 hed1 hag1 hG1 hG2 hbd1 hb2 b3' b2'
  have hbp : ∀ w' : World, (Instr.build 64 #[(0, .string d.name), (1, .pointer (some ⟨w.heap.size + 1, 0, none⟩)), (2, .pointer (some ⟨gl, 0, none⟩))]).run Tryd.prog w' = .ok (.agg #[.string d.name, .pointer (some ⟨w.heap.size + 1, 0, none⟩), .pointer (some ⟨gl, 0, none⟩)]) w' := fun w' => run_build w' 64 _ _ (by kernel_rfl)
  have hys : ∀ u ∈ [Value.string d.name, .pointer (some ⟨w.heap.size + 1, 0, none⟩), .pointer (some ⟨gl, 0, none⟩)], u.oneCell' = true := fun u hu => by
    simp only [List.mem_cons, List.not_mem_nil, or_false] at hu
    rcases hu with rfl | rfl | rfl <;> rfl
  have hyc := page_cells w2.drew d.name (w.heap.size + 1) gl
  have hne : (Value.slice A2 n2 c2).ownBlock ≠ some gh := hrow.ne_blk hB (by decide)
  have hneD : (Value.slice A2 n2 c2).ownBlock ≠ some w.heap.size := hrow.ne_blk hbd2 (by decide)
  have hbd3 := hbd2.alloc (Obj.cells #[.string d.name, .pointer (some ⟨w.heap.size + 1, 0, none⟩), .pointer (some ⟨gl, 0, none⟩)] 64)
  have hr3 := hrow.alloc (Obj.cells #[.string d.name, .pointer (some ⟨w.heap.size + 1, 0, none⟩), .pointer (some ⟨gl, 0, none⟩)] 64)
  have hB3 := hB.alloc (Obj.cells #[.string d.name, .pointer (some ⟨w.heap.size + 1, 0, none⟩), .pointer (some ⟨gl, 0, none⟩)] 64)
  go_wp2
  have hZ : Blk (w2.alloc (Obj.cells #[.string d.name, .pointer (some ⟨w.heap.size + 1, 0, none⟩), .pointer (some ⟨gl, 0, none⟩)] 64)).drew gh 66 #[.slice A2 n2 c2] := hB3
  have z0 := hZ.cell 0
  go_region_law ((refine step_append_K rfl (.tmp 38) (.tmp 44) 61 rfl (fun k => k < w2.heap.size ∧ own2 k ≠ gh) _ 32 infoPage Tryd.underlying61 rfl (by decide) (by decide) A2 n2 c2 _ (by simp [Act.eval]) hr3 ⟨w2.heap.size, 0, none⟩ 1 _ (by simp [Act.eval]) rfl hys hyc (by omega) (by omega) (fun k hk => by have := hk.1; simp; omega) ?_; intro A3 c3 w4 hown4 hg4 hp4; have y0 := (cell_grown hg4 hB3.lt hne 0).trans (hB3.cell 0); have yf := (frozen_grown hg4 hB3.lt hne 0).trans (hB3.frozen 0)))
  all_goals
    go_wp2
    go_ret
    exact ⟨rfl, fresh_page Hlts.out hG hB hrow hQ2 how2 hpg2 hids hed2 hlf2 (by omega) (by omega) hglw hgne ((Below.alloc (Below.refl _ _) (Nat.le_refl _) _).drew) hown4 hg4⟩
end Go.Proofs.YtigbnldmjafgmaaDoor

/- clear of the back part of a row of one's own. -/
namespace Go.Proofs.YtigbnldmjafgmaaDoor
open Go.RowKit
set_option linter.unusedVariables false

/-- clear of the back part of a row of one's own. -/
theorem run_clear_K {P : Program} {T : TypeId} {s : Nat} {K : Nat → Prop} (w : World) (t : TypeId) (z : Value) (ht : P.underlying t = some (.slice T)) (hv : ∀ w, (zeroValue T).run P w = .ok z w) (hz : z.cells.size = s) (h1 : ∀ j, j < s → (z.cells[j]!).oneCell' = true) (hs : 0 < s)
    (g o n c i : Nat) (xs : List Value) (h : OwnK T s w K (some ⟨g, o, none⟩) n c xs) (hi : i < n) :
    ∃ w', (∀ ty, (Builtin.clear_ #[t] ty #[.slice (some ⟨g, o + i * s, none⟩) (n - i) (c - i)]).run P w = .ok (.tuple #[]) w') ∧ OwnK T s w' K (some ⟨g, o, none⟩) i c (xs.take (i * s)) ∧ (∀ B w0, B ≤ g → Below B w0 w → Below B w0 w') ∧ w.grownBy w' (some g) := by
  obtain ⟨hlen, h2⟩ := h
  rcases h2 with ⟨h0, _⟩ | ⟨g', o', cur, hv', hb, hg, hnc, hcm, hcs, hx⟩
  · cases h0
  injection hv' with hv'
  injection hv' with e1 e2
  subst e1; subst e2
  obtain ⟨vs, hvs⟩ : ∃ vs, vs = (Builtin.zeroCells z.cells (n - i)).toList := ⟨_, rfl⟩
  have hvl : vs.length = (n - i) * s := by rw [hvs]; simp [Builtin.zeroCells, hz]
  have hle : i * s + (n - i) * s = n * s := by rw [← Nat.add_mul]; congr 1; omega
  have hle2 : n * s ≤ c * s := Nat.mul_le_mul_right _ hnc
  have hone : ∀ v ∈ vs, v.oneCell' = true := fun v hv => by
    rw [hvs] at hv
    simp only [Builtin.zeroCells, Array.toList_map, Array.toList_range, List.mem_map] at hv
    obtain ⟨k, hk, rfl⟩ := hv
    exact h1 _ (by rw [hz]; exact Nat.mod_lt _ hs)
  have hst := run_storeCells_T P g (o + i * s) T (0, 0) vs 0 cur w hg (fun i _ hh => by omega) (by rw [hvl]; omega) hone
  simp only [Nat.add_zero] at hst
  obtain ⟨m, hm⟩ : ∃ m, n - i = m + 1 := ⟨n - i - 1, by omega⟩
  have hrow := setRow_heap w g cur (cur.toList.take (o + i * s) ++ vs ++ cur.toList.drop (o + i * s + vs.length)).toArray T (0, 0) hg
  refine ⟨w.setRow g (cur.toList.take (o + i * s) ++ vs ++ cur.toList.drop (o + i * s + vs.length)).toArray, fun ty => ?_, ⟨by rw [List.length_take, hlen]; omega, .inr ⟨g, o, _, rfl, hb, hrow, by omega, hcm, ?_, ?_⟩⟩, fun B w0 hB hbw => ?_, ⟨rfl, rfl, rfl, by simp [World.setRow], fun k _ hk => setRow_other w g k _ (fun e => hk (by rw [e]))⟩⟩
  · rw [hm] at hvs ⊢
    simp only [Builtin.clear_, List.getElem?_toArray, List.length_cons, List.length_nil, Nat.zero_add, Nat.lt_add_one, getElem?_pos, List.getElem_cons_zero, Sem.run_bind, run_underlying ht, Result.andThen_ok, hv, ← hvs, hst, Sem.run_pure]
  · simp only [List.size_toArray, List.length_append, List.length_take, List.length_drop, Array.length_toList, hvl]
    omega
  · have hic : (cur.toList.take (o + i * s)).length = o + i * s := by rw [List.length_take, Array.length_toList]; omega
    rw [List.append_assoc, List.drop_append_of_le_length (by rw [hic]; omega), List.take_append_of_le_length (by rw [List.length_drop, hic]; omega), ← hx, List.take_take, Nat.min_eq_left (by omega), List.drop_take, List.take_take, show o + i * s - o = i * s by omega, Nat.min_self]
  · exact hbw.trans ⟨rfl, rfl, rfl, by simp, fun k hk => setRow_other w g k _ (by omega)⟩

end Go.Proofs.YtigbnldmjafgmaaDoor

