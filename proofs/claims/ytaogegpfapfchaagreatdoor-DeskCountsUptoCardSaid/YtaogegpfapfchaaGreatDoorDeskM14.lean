import Derived.Test.YtaogegpfapfchaaGreatDoorDeskM01
import Derived.Test.YtaogegpfapfchaaGreatDoorDeskM13
import Derived.Test.YtaogegpfapfchaaGreatDoorDeskM04
import Derived.Deep.DeepMust
import Derived.Test.YtaogegpfapfchaaGreatDoorRows
import Derived.Test.YtaogegpfapfchaaGreatDoorDeskM10
import Derived.Test.YtaogegpfapfchaaGreatDoorDeskM09
import Derived.Test.YtaogegpfapfchaaGreatDoorDeskM08
/- Several texts in one: XApart XSameWalk XDiffCost XPlacesWalk XKeep XEditLaws. -/
/- append(out, x..) beside another row of the same kind: where the new row lies. -/
namespace Go.Proofs.YtaogegpfapfchaaGreatDoor
open Go.RowKit
set_option linter.unusedVariables false

/-- The row behind an append lies where it lay, or in a new block. -/
theorem append_place {P : Program} {w : World} (base : Nat) (t ty e : TypeId) (i : TypeInfo) (z : Value) (ht : P.underlying t = some (.slice e)) (hi : P.info? e = some i) (hz : i.zero = some z)
    (hzs : z.cells.size = i.size) (hsz : 0 < i.size)
    (v : Value) (n : Nat) (xs : List Value) (hown : w.ownsRow base e i.size v n xs)
    (a : Addr) (m c : Nat) (news : List Value) (hl : news.length = m * i.size) (hnews : ∀ j u, news[j]? = some u → w.cell? (a.add j) = some u) (h1 : ∀ u ∈ news, u.oneCell' = true)
    (h63 : n + m ≤ maxLen) (hbytes : (n + m) * i.bytes ≤ 140737488355328) {v' : Value} {w' : World} (hrun : (Builtin.append_ #[t, t] ty #[v, .slice (some a) m c]).run P w = .ok v' w') :
    ∀ k, v'.ownBlock = some k → v.ownBlock = some k ∨ k = w.heap.size := by
  have hsmall : n + m ≤ 9223372036854775807 := by simp only [maxLen] at h63; omega
  rcases hown.2 with ⟨rfl, rfl⟩ | ⟨g, cap, cur, rfl, hbg, hg, hnc, hcm, hcs, htake⟩
  · by_cases hm : m = 0
    · subst hm
      have hn : news = [] := List.eq_nil_of_length_eq_zero (by simpa using hl)
      subst hn
      have h2 : (Builtin.append_ #[t, t] ty #[.slice none 0 0, .slice (some a) 0 c]).run P w = .ok (.slice none 0 0) w := by
        simp [Builtin.append_, run_underlying ht, sizeOf, typeInfo, hi, Builtin.lenOf, Builtin.firstCells, loadCells, loadCellsFrom]
      rw [h2] at hrun
      injection hrun with e1 _
      subst e1
      intro k hk
      exact .inl hk
    · have h2 := run_append_nil (P := P) w t ty e i z ht hi hz a m c news hl hnews (by omega) (by omega) (by have hb := hbytes; simp only [Nat.zero_add] at hb; omega)
      rw [h2] at hrun
      injection hrun with e1 _
      subst e1
      intro k hk
      right
      simp [Value.ownBlock] at hk
      exact hk.symm
  · by_cases hroom : n + m ≤ cap
    · have hfit : n * i.size + news.length ≤ cur.size := by rw [hl, hcs, ← Nat.add_mul]; exact Nat.mul_le_mul_right _ hroom
      have h2 := run_append_room (P := P) w t ty e i ht hi g n cap cur hg a m c news hl hnews h1 hroom hfit
      rw [h2] at hrun
      injection hrun with e1 _
      subst e1
      intro k hk
      exact .inl hk
    · have holds : ∀ j u, xs[j]? = some u → w.cell? ((⟨g, 0, none⟩ : Addr).add j) = some u := hown.cells (g := g) rfl
      have h2 := run_append_grow (P := P) w t ty e i z ht hi hz ⟨g, 0, none⟩ n cap xs hown.1 holds a m c news hl hnews (by omega) (by omega) (growslice_fits (by omega) hbytes)
      rw [h2] at hrun
      injection hrun with e1 _
      subst e1
      intro k hk
      right
      simp [Value.ownBlock] at hk
      exact hk.symm

/-- wpList_append_new, and where the new row lies. -/
theorem wpList_append_apart {P : Program} (wr : World) {ops : Array Oper} {rest : List Oper} {o : Oper} {a : Act} {Q : Exit → Act → World → Prop} (t : TypeId) (s x : Operand) (hgd : o.guard = none)
    (ho : o.op = .call { callee := .builtin .append, args := #[s, x], argTypes := #[t, t] }) (base : Nat) (e : TypeId) {z : Value} {size bytes : Nat}
    (hinfo : (P.info? e).map (fun i => (i.zero, i.size, i.bytes)) = some (some z, size, bytes)) (ht : P.underlying t = some (.slice e)) (hzs : z.cells.size = size) (hsz : 0 < size)
    (A : Option Addr) (n c : Nat) (xs : List Value) (hs : a.eval s = .slice A n c) (hown : wr.ownsRow base e size (.slice A n c) n xs)
    (news : Array Value) (m : Nat) (hx : a.eval x = .slice (some ⟨wr.heap.size, 0, none⟩) m m) (hm : news.size = m * size) (h1 : ∀ u ∈ news.toList, u.oneCell' = true)
    (h63 : n + m ≤ maxLen) (hbytes : (n + m) * bytes ≤ 140737488355328) (hbase : base ≤ wr.heap.size)
    (h : ∀ A' c' w1, w1.ownsRow base e size (.slice A' (n + m) c') (n + m) (xs ++ news.toList) → Below base wr w1 → wr.grownBy w1 (Value.slice A n c).ownBlock →
      (∀ k, (Value.slice A' (n + m) c').ownBlock = some k → (Value.slice A n c).ownBlock = some k ∨ wr.heap.size ≤ k) → wpList P ops Q rest (a.put o.dst (.slice A' (n + m) c')) w1) :
    wpList P ops Q (o :: rest) a (wr.alloc (.cells news e)) := by
  obtain ⟨i0, hi, hz0, hz1, hz2⟩ := info_parts hinfo
  subst hz1 hz2
  have hn : ∀ j u, news.toList[j]? = some u → (wr.alloc (.cells news e)).cell? ((⟨wr.heap.size, 0, none⟩ : Addr).add j) = some u := fun j u hj => by
    rw [add_zero, World.cell?_alloc_mark, ← Array.getElem?_toList]
    exact hj
  obtain ⟨v', w1, hr, hown', hgrow, _⟩ := run_append_own (P := P) (wr.alloc (.cells news e)) base t o.type e i0 z i0.size i0.bytes ht hi hz0 rfl rfl hzs hsz (.slice A n c) n xs (hown.alloc _) ⟨wr.heap.size, 0, none⟩ m m news.toList (by simpa using hm) hn h1 h63 hbytes (by simp; omega)
  have hpl := append_place (P := P) base t o.type e i0 z ht hi hz0 hzs hsz (.slice A n c) n xs (hown.alloc (.cells news e)) ⟨wr.heap.size, 0, none⟩ m m news.toList (by simpa using hm) hn h1 h63 hbytes hr
  refine wpList_plain hgd fun K hK => ?_
  unfold Oper.wp execOp
  simp only [ho, resolve, invoke, builtin, Sem.run_bind, Sem.run_pure, Result.andThen_ok, List.map_toArray, List.map_cons, List.map_nil, hs, hx, hr]
  refine hK _ _ ?_
  obtain ⟨A', c', rfl, _⟩ := own_shape hown'
  have hg : wr.grownBy w1 (Value.slice A n c).ownBlock := by
    refine ⟨hgrow.os, hgrow.tape, hgrow.output, ?_, fun k hk hne => ?_⟩
    · have := hgrow.size; simp at this; omega
    · rw [hgrow.block k (by simp; omega) hne]
      exact Below.heap_alloc wr _ k hk
  refine h A' c' w1 hown' ((Below.refl base wr).grown hg hbase (fun k hk => (hown.lt k hk).1)) hg fun k hk => (hpl k hk).imp id fun e => ?_
  rw [e]; simp

end Go.Proofs.YtaogegpfapfchaaGreatDoor

/- The walks of same.Long, same.Within and same.Places. -/
namespace Go.Proofs.YtaogegpfapfchaaGreatDoor
open Go.RowKit
set_option linter.unusedVariables false

set_option maxHeartbeats 1000000 in
theorem long_ok (a b : ByteArray) (ha : a.size ≤ 200) (hb : b.size ≤ 200) (w : World) :
    Calls Tryz.prog 120 #[.string a, .string b] w fun e w' => e = .returned (.tuple #[.int .i64 (lcs a.data.toList b.data.toList : Nat), .int .i64 0]) ∧ Below w.heap.size w w' := by
  go_enter Tryz.func120, Tryz.ntmps120
  go_wp2_with fail
  refine (sameCheck_ok a b ha hb _).mono ?_
  rintro e w1 ⟨rfl, rfl⟩
  go_wp2_with fail
  refine (table_ok a b ha hb _).mono ?_
  rintro e w1 ⟨rfl, hg, hb1⟩
  have r0 := hg.row 0 (Nat.zero_le _)
  have c0 := hg.cell 0 0 (Nat.zero_le _) (Nat.zero_le _)
  have e0 : pl a.data.toList b.data.toList 0 0 = lcs a.data.toList b.data.toList := rfl
  rw [e0] at c0
  clear hg e0
  go_wp2
  go_ret2
  exact ⟨rfl, hb1⟩

set_option maxHeartbeats 400000 in
theorem long_no (a b : ByteArray) (h : 200 < a.size ∨ 200 < b.size) (w : World) :
    Calls Tryz.prog 120 #[.string a, .string b] w fun e w' => e = .returned (.tuple #[.int .i64 0, .int .i64 2]) ∧ w = w' := by
  go_enter Tryz.func120, Tryz.ntmps120
  go_wp2_with fail
  refine (sameCheck_no a b h _).mono ?_
  rintro e w1 ⟨rfl, rfl⟩
  go_wp2
  go_ret2
  exact ⟨rfl, rfl⟩



end Go.Proofs.YtaogegpfapfchaaGreatDoor

/- The walk of diff.Cost. -/
namespace Go.Proofs.YtaogegpfapfchaaGreatDoor
open Go.RowKit
set_option linter.unusedVariables false

/-- What Cost answers: the number, the error. -/
def cv (a b : ByteArray) : Int := if a.size ≤ 200 ∧ b.size ≤ 200 then (a.size : Int) + b.size - 2 * (lcs a.data.toList b.data.toList : Nat) else 0
def ce (a b : ByteArray) : Int := if a.size ≤ 200 ∧ b.size ≤ 200 then 0 else 2
theorem cv_ok {a b : ByteArray} (h : a.size ≤ 200 ∧ b.size ≤ 200) : cv a b = (a.size : Int) + b.size - 2 * (lcs a.data.toList b.data.toList : Nat) := by unfold cv; rw [if_pos h]
theorem ce_ok {a b : ByteArray} (h : a.size ≤ 200 ∧ b.size ≤ 200) : ce a b = 0 := by unfold ce; rw [if_pos h]
theorem cv_bd (a b : ByteArray) : 0 ≤ cv a b ∧ cv a b ≤ 400 := by
  by_cases h : a.size ≤ 200 ∧ b.size ≤ 200
  · rw [cv_ok h]
    have h1 := lcs_le_left a.data.toList b.data.toList
    have h2 := lcs_le_right a.data.toList b.data.toList
    rw [show a.data.toList.length = a.size from rfl] at h1
    rw [show b.data.toList.length = b.size from rfl] at h2
    omega
  · unfold cv; rw [if_neg h]; omega

theorem cost_any (a b : ByteArray) (w : World) :
    Calls Tryz.prog 95 #[.string a, .string b] w fun e w' => e = .returned (.tuple #[.int .i64 (cv a b), .int .i64 (ce a b)]) ∧ Below w.heap.size w w' := by
  by_cases h : a.size ≤ 200 ∧ b.size ≤ 200
  · rw [cv_ok h, ce_ok h]
    have h1 := lcs_le_left a.data.toList b.data.toList
    rw [show a.data.toList.length = a.size from rfl] at h1
    have hlo := long_ok a b h.1 h.2
    have HL := Lib.hid hlo
    generalize lcs a.data.toList b.data.toList = L at *
    obtain ⟨ha, hb⟩ := h
    clear hlo
    go_enter Tryz.func95, Tryz.ntmps95
    go_wp2_with fail
    refine (HL.out w).mono ?_
    rintro e w1 ⟨rfl, hb1⟩
    go_wp2
    go_ret2
    exact ⟨by simp, hb1⟩
  · have hc : cv a b = 0 := by unfold cv; rw [if_neg h]
    have he : ce a b = 2 := by unfold ce; rw [if_neg h]
    rw [hc, he]
    have h' : 200 < a.size ∨ 200 < b.size := by omega
    have HL := Lib.hid (long_no a b h')
    clear hc he h h'
    go_enter Tryz.func95, Tryz.ntmps95
    go_wp2_with fail
    refine (HL.out w).mono ?_
    rintro e w1 ⟨rfl, rfl⟩
    go_wp2
    go_ret2
    exact ⟨rfl, Below.refl _ _⟩

end Go.Proofs.YtaogegpfapfchaaGreatDoor

/- The walk of same.Places. -/
namespace Go.Proofs.YtaogegpfapfchaaGreatDoor
open Go.RowKit
set_option linter.unusedVariables false

def px (R : List (Nat × Nat)) : List Int := R.map fun p => ((p.1 : Nat) : Int)
def py (R : List (Nat × Nat)) : List Int := R.map fun p => ((p.2 : Nat) : Int)
theorem px_snoc (R : List (Nat × Nat)) (i k : Nat) : px (R ++ [(i, k)]) = px R ++ [(i : Int)] := by simp [px]
theorem py_snoc (R : List (Nat × Nat)) (i k : Nat) : py (R ++ [(i, k)]) = py R ++ [(k : Int)] := by simp [py]
theorem px_length (R : List (Nat × Nat)) : (px R).length = R.length := by simp [px]
theorem py_length (R : List (Nat × Nat)) : (py R).length = R.length := by simp [py]
/-- Two rows of the call's own lie apart. -/
def ApartV (v v' : Value) : Prop := ∀ g, v.ownBlock = some g → v'.ownBlock ≠ some g
theorem ApartV.symm {v v' : Value} (h : ApartV v v') : ApartV v' v := fun g h1 h2 => h g h2 h1
theorem ApartV.or {v v' : Value} (h : ApartV v v') : v.ownBlock = none ∨ v.ownBlock ≠ v'.ownBlock := by
  cases hv : v.ownBlock with
  | none => exact .inl rfl
  | some g => exact .inr fun e => h g hv e.symm
theorem ownCap {w : World} {B size n c : Nat} {e : TypeId} {A : Option Addr} {xs : List Value} (h : w.ownsRow B e size (.slice A n c) n xs) : n ≤ c := by
  rcases h.2 with ⟨h1, h0⟩ | ⟨g, cap, cur, h1, _, _, h2, _⟩
  · omega
  · injection h1 with _ _ h3
    omega

set_option maxRecDepth 100000 in
set_option maxHeartbeats 4000000 in
theorem places_walk (a b : ByteArray) (ha : a.size ≤ 200) (hb : b.size ≤ 200) (w : World) :
    Calls Tryz.prog 96 #[.string a, .string b] w fun e w' => ∃ A c A' c', e = .returned (.tuple #[.slice A (placesOf a.data.toList b.data.toList).length c, .slice A' (placesOf a.data.toList b.data.toList).length c', .int .i64 0]) ∧
      Reads w' w'.heap.size A (placesOf a.data.toList b.data.toList).length 1 ((px (placesOf a.data.toList b.data.toList)).flatMap cInt) ∧
      Reads w' w'.heap.size A' (placesOf a.data.toList b.data.toList).length 1 ((py (placesOf a.data.toList b.data.toList)).flatMap cInt) ∧ Below w.heap.size w w' ∧
      (placesOf a.data.toList b.data.toList).length ≤ c ∧ (placesOf a.data.toList b.data.toList).length ≤ c' := by
  have hpl := places_length a.data.toList b.data.toList
  have hll := lcs_le_left a.data.toList b.data.toList
  rw [← hpl, show a.data.toList.length = a.size from rfl] at hll
  have Hll := Lib.hid hll
  clear hpl hll
  go_enter Tryz.func96, Tryz.ntmps96
  go_wp2_with fail
  refine (sameCheck_ok a b ha hb _).mono ?_
  rintro e w1 ⟨rfl, rfl⟩
  go_wp2_with fail
  refine (table_ok a b ha hb _).mono ?_
  rintro e w1 ⟨rfl, hg, hb1⟩
  obtain ⟨B, hB⟩ : ∃ B, B = w1.heap.size := ⟨_, rfl⟩
  have hgB : w.heap.size + 1 + a.size < B := by rw [hB]; exact hg.lt
  have hB1 : B ≤ w1.heap.size := by omega
  have HB := Lib.hid hB
  clear hB
  generalize hgg : w.heap.size = g at *
  have Hgg := Lib.hid hgg
  clear hgg
  go_wp2
  go_loopw [9, 10, 11, 12] (fun xv yv iv kv wr => ∃ (i k f n : Nat) (P : List (Nat × Nat)) (A A' : Option Addr) (c c' : Nat), i ≤ a.size ∧ k ≤ b.size ∧ iv = .int .i64 i ∧ kv = .int .i64 k ∧ xv = .slice A n c ∧ yv = .slice A' n c' ∧
      Hid (P.length = n) ∧ Hid (a.size + b.size ≤ f + i + k) ∧ Hid (P ++ pw a.data.toList b.data.toList f i k = placesOf a.data.toList b.data.toList) ∧ ApartV (.slice A n c) (.slice A' n c') ∧
      wr.ownsRow B 3 1 (.slice A n c) n ((px P).flatMap cInt) ∧ wr.ownsRow B 3 1 (.slice A' n c') n ((py P).flatMap cInt) ∧
      GridAt wr g a.size b.size (pl a.data.toList b.data.toList) ∧ Below g w wr ∧ B ≤ wr.heap.size) (fun _ _ iv kv _ => (a.size - (intOf iv).toNat) + (b.size - (intOf kv).toNat))
  case atStart => exact ⟨0, 0, a.size + b.size, 0, [], none, none, 0, 0, Nat.zero_le _, Nat.zero_le _, rfl, rfl, rfl, rfl, rfl, Lib.hid (by omega), rfl, fun g h => by simp [Value.ownBlock] at h, World.ownsRow_nil _ _ _ _, World.ownsRow_nil _ _ _ _, hg, hb1, hB1⟩
  case round =>
    clear hg hb1 hB1
    obtain ⟨i, k, f, n, P, A, A', c, c', hi, hk, rfl, rfl, rfl, rfl, Hn, Hf, HP, hap, hx, hy, hg, hbr, hBr⟩ := hrel
    have hn200 : n ≤ 200 := by
      have h1 := congrArg List.length HP.out
      have h2 := Hll.out
      rw [List.length_append, Hn.out] at h1
      omega
    have r0 := hg.row i hi
    have c00 := hg.cell i k hi hk
    have hi' : (i : Int) < a.size + 1 := by omega
    have hk' : (k : Int) < b.size + 1 := by omega
    have hi'' : i < a.size + 1 := by omega
    have hk'' : k < b.size + 1 := by omega
    by_cases h0 : pl a.data.toList b.data.toList i k = 0
    · have hpw : pw a.data.toList b.data.toList f i k = [] := by
        cases f with
        | zero => rfl
        | succ f => rw [pw, if_pos h0]
      have hfin : P = placesOf a.data.toList b.data.toList := by have := HP.out; rwa [hpw, List.append_nil] at this
      rw [h0] at c00
      have Hfin := Lib.hid hfin
      clear hpw hfin h0
      go_wp2
      go_ret3
      have hn := Hn.out
      subst hn
      rw [← Hfin.out]
      exact ⟨A, c, A', c', rfl, Reads.of_own hx, Reads.of_own hy, by rw [Hgg.out]; exact hbr, ownCap hx, ownCap hy⟩
    · have hpos : 0 < pl a.data.toList b.data.toList i k := by omega
      obtain ⟨hia, hkb⟩ := pl_pos hpos
      have hia : i < a.size := hia
      have hkb : k < b.size := hkb
      have hst := pl_step a.data.toList b.data.toList i k hia hkb
      obtain ⟨f', rfl⟩ : ∃ f', f = f' + 1 := ⟨f - 1, by have := Hf.out; omega⟩
      have hpw : pw a.data.toList b.data.toList (f' + 1) i k = if a[i] = b[k] then (i, k) :: pw a.data.toList b.data.toList f' (i + 1) (k + 1)
          else if pl a.data.toList b.data.toList i (k + 1) ≤ pl a.data.toList b.data.toList (i + 1) k then pw a.data.toList b.data.toList f' (i + 1) k else pw a.data.toList b.data.toList f' i (k + 1) := by
        rw [pw, if_neg h0, getD_bytes a i hia, getD_bytes b k hkb]
      have r1 := hg.row (i + 1) (by omega)
      have c01 := hg.cell i (k + 1) hi (by omega)
      have c10 := hg.cell (i + 1) k (by omega) hk
      have Hpw := Lib.hid hpw
      have q0 : decide ((0 : Int) < (pl a.data.toList b.data.toList i k : Nat)) = true := decide_eq_true (by omega)
      have q0' : decide (0 < pl a.data.toList b.data.toList i k) = true := decide_eq_true hpos
      obtain ⟨Q, hQ⟩ : ∃ Q, i + 1 = Q := ⟨_, rfl⟩
      obtain ⟨C, hC⟩ : ∃ C, k + 1 = C := ⟨_, rfl⟩
      rw [hQ] at r1 c10
      rw [hC] at c01
      have wq : IntKind.i64.wrap ((i : Int) + 1) = (Q : Int) := by rw [IntKind.wrap_i64]; omega
      have wc : IntKind.i64.wrap ((k : Int) + 1) = (C : Int) := by rw [IntKind.wrap_i64]; omega
      have bq : (Q : Int) < a.size + 1 := by omega
      have bc : (C : Int) < b.size + 1 := by omega
      have bq' : Q < a.size + 1 := by omega
      have bc' : C < b.size + 1 := by omega
      have hia' : (i : Int) < a.size := by omega
      have hkb' : (k : Int) < b.size := by omega
      rw [hQ, hC] at hpw
      have Hpw := Lib.hid hpw
      have HQ := Lib.hid hQ
      have HC := Lib.hid hC
      clear hst hpw h0 hQ hC
      generalize pl a.data.toList b.data.toList i k = V at *
      generalize pl a.data.toList b.data.toList i C = V1 at *
      generalize pl a.data.toList b.data.toList Q k = V2 at *
      by_cases heq : a[i] = b[k]
      · have q1 : ((a[i].toNat : Int) == (b[k].toNat : Int)) = true := by rw [heq]; simp
        have hP2 : (P ++ [(i, k)]) ++ pw a.data.toList b.data.toList f' Q C = placesOf a.data.toList b.data.toList := by
          have := HP.out
          rw [Hpw.out, if_pos heq] at this
          rw [List.append_assoc]; exact this
        have HP2 := Lib.hid hP2
        clear heq hP2
        go_wp2
        go_quiet (fail)
        generalize hW : World.drewN _ _ = W
        have hx2 : W.ownsRow B 3 1 (.slice A n c) n ((px P).flatMap cInt) := by rw [← hW]; exact ownsRow_drewN hx _
        have hy2 : W.ownsRow B 3 1 (.slice A' n c') n ((py P).flatMap cInt) := by rw [← hW]; exact ownsRow_drewN hy _
        have hg2 : GridAt W g a.size b.size (pl a.data.toList b.data.toList) := by rw [← hW]; exact hg.drewN _
        have hbr2 : Below g w W := by rw [← hW]; exact below_drewN hbr _
        have hBr2 : B ≤ W.heap.size := by rw [← hW]; exact hBr
        have hlt2 := hy2.lt
        clear hW hx hy hg hbr hBr r0 r1 c00 c01 c10
        go_wp2_with (first
          | (at_builtin; refine wpList_append_apart _ 76 (.tmp 40) (.tmp 42) rfl rfl B 3 infoIntT Tryz.underlying76 rfl (by decide) _ _ _ _ rfl hx2 #[.int .i64 (i : Int)] 1 rfl rfl (by simp [Value.oneCell']) (by unfold maxLen; omega) (by omega) hBr2 ?_; intro A1 c1 w1 hx3 hb3 hg3 hp3)
          | (at_builtin; refine wpList_append_apart _ 76 (.tmp 44) (.tmp 46) rfl rfl B 3 infoIntT Tryz.underlying76 rfl (by decide) _ _ _ _ rfl (hy2.kept hg3 hap.symm.or) #[.int .i64 (k : Int)] 1 rfl rfl (by simp [Value.oneCell']) (by unfold maxLen; omega) (by omega) (by have := hb3.size; omega) ?_; intro A2 c2 w2 hy4 hb4 hg4 hp4))
        have hap3 : ApartV (.slice A1 (n + 1) c1) (.slice A' n c') := fun q h1 h2 => by
          rcases hp3 q h1 with h | h
          · exact hap q h h2
          · have := (hlt2 q h2).2; omega
        have hx4 := hx3.kept hg4 hap3.or
        have hap4 : ApartV (.slice A1 (n + 1) c1) (.slice A2 (n + 1) c2) := fun q h1 h2 => by
          rcases hp4 q h2 with h | h
          · exact hap3 q h1 h
          · have := (hx3.lt q h1).2; omega
        go_roundw
        case rel =>
          refine ⟨Q, C, f', n + 1, P ++ [(i, k)], A1, A2, c1, c2, by omega, by omega, rfl, rfl, rfl, rfl, Lib.hid (by rw [List.length_append, Hn.out]; rfl), Lib.hid ?_, HP2, hap4, ?_, ?_, ?_, ?_, ?_⟩
          · have := Hf.out; have := HQ.out; have := HC.out; omega
          · rw [px_snoc, flat_snoc]; exact hx4
          · rw [py_snoc, flat_snoc]; exact hy4
          · exact (hg2.below (hb3.trans hb4) (by omega))
          · exact hbr2.trans ((hb3.trans hb4).mono (by omega))
          · exact Nat.le_trans hBr2 (Nat.le_trans hb3.size hb4.size)
        case measure => have := HQ.out; have := HC.out; simp [intOf]; omega
      · have q1 : ((a[i].toNat : Int) == (b[k].toNat : Int)) = false := by rw [beq_eq_false_iff_ne]; intro h; exact heq (UInt8.toNat_inj.1 (by omega))
        by_cases hle : V1 ≤ V2
        · have q2 : decide (V1 ≤ V2) = true := decide_eq_true hle
          have q2' : decide ((V1 : Int) ≤ (V2 : Int)) = true := decide_eq_true (by omega)
          have hP2 : P ++ pw a.data.toList b.data.toList f' Q k = placesOf a.data.toList b.data.toList := by
            have := HP.out
            rw [Hpw.out, if_neg heq, if_pos hle] at this
            exact this
          have HP2 := Lib.hid hP2
          clear heq hP2
          go_wp2
          go_quiet (fail)
          go_wp2
          go_quiet (fail)
          go_wp2
          go_roundw
          case rel =>
            refine ⟨Q, k, f', n, P, A, A', c, c', by omega, by omega, rfl, rfl, rfl, rfl, Hn, Lib.hid ?_, HP2, hap, ownsRow_drewN hx _, ownsRow_drewN hy _, hg.drewN _, below_drewN hbr _, hBr⟩
            have := Hf.out; have := HQ.out; omega
          case measure => have := HQ.out; simp [intOf]; omega
        · have q2 : decide (V1 ≤ V2) = false := decide_eq_false hle
          have q2' : decide ((V1 : Int) ≤ (V2 : Int)) = false := decide_eq_false (by omega)
          have hP2 : P ++ pw a.data.toList b.data.toList f' i C = placesOf a.data.toList b.data.toList := by
            have := HP.out
            rw [Hpw.out, if_neg heq, if_neg hle] at this
            exact this
          have HP2 := Lib.hid hP2
          clear heq hP2
          go_wp2
          go_quiet (fail)
          go_wp2
          go_quiet (fail)
          go_wp2
          go_roundw
          case rel =>
            refine ⟨i, C, f', n, P, A, A', c, c', by omega, by omega, rfl, rfl, rfl, rfl, Hn, Lib.hid ?_, HP2, hap, ownsRow_drewN hx _, ownsRow_drewN hy _, hg.drewN _, below_drewN hbr _, hBr⟩
            have := Hf.out; have := HC.out; omega
          case measure => have := HC.out; simp [intOf]; omega

set_option maxHeartbeats 400000 in
theorem places_no (a b : ByteArray) (h : 200 < a.size ∨ 200 < b.size) (w : World) :
    Calls Tryz.prog 96 #[.string a, .string b] w fun e w' => e = .returned (.tuple #[.slice none 0 0, .slice none 0 0, .int .i64 2]) ∧ w = w' := by
  go_enter Tryz.func96, Tryz.ntmps96
  go_wp2_with fail
  refine (sameCheck_no a b h _).mono ?_
  rintro e w1 ⟨rfl, rfl⟩
  go_wp2
  go_ret3
  exact ⟨rfl, rfl⟩

end Go.Proofs.YtaogegpfapfchaaGreatDoor

/- The walks of the laws' own small helpers: Within. -/
namespace Go.Proofs.YtaogegpfapfchaaGreatDoor
open Go.RowKit
set_option linter.unusedVariables false

theorem tmod_rest_neg (k n : Int) (hn : 0 < n) (h : k.tmod n < 0) : k.tmod n + n = k % n := by
  have h1 := Int.emod_nonneg k (Int.ne_of_gt hn)
  have h2 := Int.emod_lt_of_pos k hn
  have e := Int.tmod_eq_emod (a := k) (b := n)
  by_cases hc : 0 ≤ k ∨ n ∣ k
  · rw [if_pos hc] at e; omega
  · rw [if_neg hc] at e; omega
theorem tmod_rest_pos (k n : Int) (hn : 0 < n) (h : 0 ≤ k.tmod n) : k.tmod n = k % n := by
  have h1 := Int.emod_nonneg k (Int.ne_of_gt hn)
  have h2 := Int.emod_lt_of_pos k hn
  have e := Int.tmod_eq_emod (a := k) (b := n)
  by_cases hc : 0 ≤ k ∨ n ∣ k
  · rw [if_pos hc] at e; omega
  · rw [if_neg hc] at e; omega


end Go.Proofs.YtaogegpfapfchaaGreatDoor

/- The laws' helper edits, and facts on slices of edits. -/
namespace Go.Proofs.YtaogegpfapfchaaGreatDoor
open Go.RowKit
set_option linter.unusedVariables false

theorem edits_hello : checkE 5 [(0, 1, ⟨#[74]⟩), (5, 0, ⟨#[33]⟩)] = 0 ∧ app [104, 101, 108, 108, 111] 0 [(0, 1, ⟨#[74]⟩), (5, 0, ⟨#[33]⟩)] = [74, 101, 108, 108, 111, 33] := by decide +kernel


theorem sizeEdit (w : World) : (sizeOf (Tryz.prog.elem 68)).run Tryz.prog w = .ok 3 w := by
  rw [show Tryz.prog.elem 68 = 73 from by kernel_rfl]
  exact Tryz.sizeOf73 w

theorem infoEdit : (Tryz.prog.info? 73).map (fun i => (i.zero, i.size, i.bytes)) = some (some (.agg #[.int .i64 0, .int .i64 0, .string ⟨#[]⟩]), 3, 32) := by kernel_rfl

end Go.Proofs.YtaogegpfapfchaaGreatDoor

