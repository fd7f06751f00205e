import Derived.Test.YtaogegpfapfchaaGreatDoorRows
import Derived.Test.YtaogegpfapfchaaGreatDoorDeskM01
import Derived.Test.YtaogegpfapfchaaGreatDoorDeskM04
import Derived.Test.YtaogegpfapfchaaGreatDoorDeskM17
import Derived.Test.YtaogegpfapfchaaGreatDoorDeskM08
import Derived.Test.YtaogegpfapfchaaGreatDoorDeskM34
/- Several texts in one: XContains XStrs XHouseNames. -/
/- The walks of slices.Index and slices.Contains at element types of one cell. -/
namespace Go.Proofs.YtaogegpfapfchaaGreatDoor
open Go.RowKit
set_option linter.unusedVariables false

/-- Where it stands first, or -1. -/
def idxI {α : Type} [DecidableEq α] (v : α) (l : List α) : Int := if v ∈ l then (l.idxOf v : Nat) else -1
theorem idxI_found {α : Type} [DecidableEq α] {v d : α} {l : List α} {k : Nat} (hk : k < l.length) (h : l.getD k d = v) (hn : v ∉ l.take k) : idxI v l = (k : Nat) := by
  have hm : v ∈ l := by rw [← h, getD_some _ _ _ hk]; exact List.getElem_mem _
  unfold idxI
  rw [if_pos hm]
  congr 1
  have e : l = l.take k ++ v :: l.drop (k + 1) := by rw [← h, ← drop_getD l k d hk, List.take_append_drop]
  rw [e, List.idxOf_append, if_neg hn, List.idxOf_cons_self, List.length_take]
  omega
theorem idxI_none {α : Type} [DecidableEq α] {v : α} {l : List α} (h : v ∉ l) : idxI v l = -1 := by unfold idxI; rw [if_neg h]
/-- Does it stand there? -/
def hasB {α : Type} [DecidableEq α] (v : α) (l : List α) : Bool := decide (v ∈ l)
theorem hasB_iff {α : Type} [DecidableEq α] {v : α} {l : List α} : hasB v l = true ↔ v ∈ l := decide_eq_true_iff
theorem hasB_no {α : Type} [DecidableEq α] {v : α} {l : List α} : hasB v l = false ↔ v ∉ l := decide_eq_false_iff_not
theorem idxI_neg {α : Type} [DecidableEq α] (v : α) (l : List α) : decide (0 ≤ idxI v l) = hasB v l := by
  unfold idxI hasB
  by_cases h : v ∈ l
  · rw [if_pos h]; simp [h]
  · rw [if_neg h]; simp [h]
theorem idxI_le {α : Type} [DecidableEq α] (v : α) (l : List α) : -1 ≤ idxI v l ∧ idxI v l < (l.length : Int) ∨ l = [] ∧ idxI v l = -1 := by
  unfold idxI
  by_cases h : v ∈ l
  · rw [if_pos h]; have := List.idxOf_lt_length_of_mem h; left; omega
  · rw [if_neg h]
    cases l with
    | nil => right; exact ⟨rfl, rfl⟩
    | cons x l => left; simp; omega

















end Go.Proofs.YtaogegpfapfchaaGreatDoor

/- A row of strings of one's own: append, the last of them, and reading. -/
namespace Go.Proofs.YtaogegpfapfchaaGreatDoor
open Go.RowKit
set_option linter.unusedVariables false

/-- append of a string that has just been built in a block of its own. -/
theorem wpList_append_one {P : Program} (w : World) {ops : Array Oper} {rest : List Oper} {o : Oper} {a : Act} {Q : Exit → Act → World → Prop} (s x : Operand) (t : TypeId) (hgd : o.guard = none)
    (ho : o.op = .call { callee := .builtin .append, args := #[s, x], argTypes := #[t, t] }) (K : Nat → Prop)
    (hinfo : (P.info? 9).map (fun i => (i.zero, i.size, i.bytes)) = some (some (.string ⟨#[]⟩), 1, 16)) (ht : P.underlying t = some (.slice 9))
    (A : Option Addr) (n c : Nat) (l : List ByteArray) (hs : a.eval s = .slice A n c) (hown : OwnS w K A n c l)
    (c2 : Nat) (y : ByteArray) (hx : a.eval x = .slice (some ⟨w.heap.size, 0, none⟩) 1 c2)
    (h63 : n ≤ 8000000000000) (hK : ∀ k, K k → k < w.heap.size)
    (h : ∀ A' c' w1, OwnS w1 K A' (n + 1) c' (l ++ [y]) → Kept K w w1 → wpList P ops Q rest (a.put o.dst (.slice A' (n + 1) c')) w1) : wpList P ops Q (o :: rest) a (w.alloc (.cells #[.string y] 9)) := by
  have hsz : (w.alloc (Obj.cells #[.string y] 9)).heap.size = w.heap.size + 1 := by simp
  have hK2 : ∀ k, K k → k < (w.alloc (Obj.cells #[.string y] 9)).heap.size := fun k hk => by have := hK k hk; omega
  have hy : (w.alloc (Obj.cells #[.string y] 9)).cell? ⟨w.heap.size, 0, none⟩ = some (.string y) := by rw [World.cell?_alloc_mark]; rfl
  obtain ⟨A', c', w1, hr, h1, h2, h3⟩ := run_append_S (P := P) _ K t o.type ht hinfo A n c l (hown.alloc _) ⟨w.heap.size, 0, none⟩ c2 y hy rfl h63 hK2
  refine wpList_plain hgd fun Kq hKq => ?_
  unfold Oper.wp execOp
  simp only [ho, resolve, invoke, builtin, Sem.run_bind, Sem.run_pure, Result.andThen_ok, List.map_toArray, List.map_cons, List.map_nil, hs, hx, hr]
  exact hKq _ _ (h A' c' w1 h1 ((Kept.of_below ((Below.refl _ _).alloc (Nat.le_refl _) _) hK).trans (Kept.of_grown h2 hK2 (fun k hk => (hown.lt k hk).1))))
section
variable {w w' : World} {K : Nat → Prop} {A : Option Addr} {n c g o : Nat} {l : List ByteArray}
theorem OwnS.kept (h : OwnS w K A n c l) (k' : Nat → Prop) (hk : Kept k' w w') (hq : ∀ k, (Value.slice A n c).ownBlock = some k → k' k) : OwnS w' K A n c l := h.keep fun k _ h2 _ => hk.block k (hq k h2)
theorem OwnS.reads (h : OwnS w K A n c l) : Reads w w.heap.size A n 1 (l.flatMap cStr) := by
  refine ⟨by rw [flat_length cStr 1 cStr_len, h.1], fun hn => ?_⟩
  obtain ⟨g, o, rfl, hg⟩ := h.shape hn
  refine ⟨g, o, rfl, hg, fun j hj => ?_⟩
  have hj' : j < n := by rw [flat_length cStr 1 cStr_len, h.1] at hj; omega
  have e := flat_getD cStr 1 cStr_len ByteArray.empty l j 0 (by rw [h.1]; exact hj') (by omega)
  rw [Nat.mul_one, Nat.add_zero] at e
  rw [h.cell j hj', e]
  rfl
/-- All but the first k of them. -/
theorem OwnS.back (h : OwnS w K (some ⟨g, o, none⟩) n c l) (k : Nat) (hk : k ≤ n) : OwnS w K (some ⟨g, o + k, none⟩) (n - k) (c - k) (l.drop k) := by
  refine ⟨by rw [List.length_drop, h.1], ?_⟩
  rcases h.2 with ⟨h0, _⟩ | ⟨g', o', cur, hv, hb, hg, h1, h2, h3, h4⟩
  · cases h0
  · injection hv with hv
    injection hv with hv hv2
    subst hv hv2
    refine .inr ⟨g, o + k, cur, rfl, hb, hg, by omega, by omega, by omega, ?_⟩
    rw [List.map_drop, ← h4, List.drop_take, List.drop_drop]
end
end Go.Proofs.YtaogegpfapfchaaGreatDoor

/- The walk of a house's Names. -/
namespace Go.Proofs.YtaogegpfapfchaaGreatDoor
open Go.RowKit Go.Lib
set_option linter.unusedVariables false

/-- The names of pages, sorted. -/
def namesP (P : List Pg) : List (List UInt8) := (P.map fun p => p.name.data.toList).mergeSort fun x y => decide (x ≤ y)
theorem enc_name (b : ByteArray) : encStr b.data.toList = .string b := rfl
theorem pages_snoc (Q : List (Pl × Pg)) (k : Nat) (d : Pl × Pg) (h : k < Q.length) : (Q.take (k + 1)).map (fun y => Value.string y.2.name) = (Q.take k).map (fun y => Value.string y.2.name) ++ [.string (Q.getD k d).2.name] := by
  rw [List.take_succ_eq_append_getElem h, List.map_append, getD_some _ _ _ h]; rfl

set_option maxHeartbeats 2000000 in
theorem names_any (own : Nat → Nat) (w : World) (gh : Nat) (Q : List (Pl × Pg)) (h : HouseAt own w gh Q) (hQ : Q.length ≤ 6) :
    Calls Tryz.prog 20 #[.pointer (some ⟨gh, 0, none⟩)] w fun e w' => ∃ A c, e = .returned (.slice A Q.length c) ∧ OwnK 9 1 w' (· < w.heap.size) A Q.length c ((namesP (Q.map (·.2))).map encStr) ∧ Below w.heap.size w w' := by
  obtain ⟨⟨A, n, c, hB, hrow, hQl, _⟩, _⟩ := h
  have c0 := hB.cell 0
  have r := hrow.toReads
  have Hl := Lib.hid hQl
  have hn6 : n ≤ 6 := by omega
  clear hB hrow hQ
  rw [hQl]
  clear hQl
  go_enter Tryz.func20, Tryz.ntmps20
  go_wp2
  go_loopw [3, 5, 11] (fun ov _ i wr => ∃ (k : Nat) (A' : Option Addr) (c' : Nat), k ≤ n ∧ i = .int .i64 k ∧ ov = .slice A' k c' ∧ OwnK 9 1 wr (· < w.heap.size) A' k c' ((Q.take k).map fun y => Value.string y.2.name) ∧ Below w.heap.size w wr) (fun _ _ i _ => n - (intOf i).toNat)
  case atStart => exact ⟨0, none, 0, Nat.zero_le _, rfl, rfl, OwnK.nil _ _ _ _, Below.refl _ _⟩
  case round =>
    obtain ⟨k, A', c', hk, rfl, rfl, hown, hbr⟩ := hrel
    by_cases hlt : k < n
    · obtain ⟨b, o, rfl, hbB, hc⟩ := (r.below hbr).2 (by omega)
      have c0 := hc (k * 3 + 0) (by rw [flat_length cPage 3 cPage_len, Hl.out]; omega)
      have c1 := hc (k * 3 + 1) (by rw [flat_length cPage 3 cPage_len, Hl.out]; omega)
      have c2 := hc (k * 3 + 2) (by rw [flat_length cPage 3 cPage_len, Hl.out]; omega)
      rw [flat_getD cPage 3 cPage_len y0 Q k _ (by rw [Hl.out]; omega) (by omega)] at c0 c1 c2
      simp only [cPage, List.getD_cons_zero, List.getD_cons_succ, Nat.add_zero, ← Nat.add_assoc] at c0 c1 c2
      have Hs := Lib.hid (pages_snoc Q k y0 (by rw [Hl.out]; exact hlt))
      clear hc
      generalize Q.getD k y0 = y at *
      have b0 := (Blk.new wr 66 #[.string y.2.name, .pointer (some ⟨y.1.ge, 0, none⟩), .pointer (some ⟨y.1.gl, 0, none⟩)]).cell 0
      have hbs := hbr.size
      obtain ⟨W, hW⟩ : ∃ W, W = (wr.alloc (Obj.cells #[.string y.2.name, .pointer (some ⟨y.1.ge, 0, none⟩), .pointer (some ⟨y.1.gl, 0, none⟩)] 66)).alloc (Obj.cells #[.string y.2.name] 9) := ⟨_, rfl⟩
      have hoa := (hown.alloc (Obj.cells #[.string y.2.name, .pointer (some ⟨y.1.ge, 0, none⟩), .pointer (some ⟨y.1.gl, 0, none⟩)] 66)).alloc (Obj.cells #[.string y.2.name] 9)
      have hba : Below w.heap.size w ((wr.alloc (Obj.cells #[.string y.2.name, .pointer (some ⟨y.1.ge, 0, none⟩), .pointer (some ⟨y.1.gl, 0, none⟩)] 66)).alloc (Obj.cells #[.string y.2.name] 9)) := (hbr.alloc hbs _).alloc (by simp; omega) _
      have hWs : W.heap.size = wr.heap.size + 2 := by rw [hW]; simp
      have hcl : ∀ j, j < 1 → W.cell? ((⟨wr.heap.size + 1, 0, none⟩ : Addr).add j) = ([.string y.2.name] : List Value)[j]? := fun j hj => by
        obtain rfl : j = 0 := by omega
        have := (Blk.new (wr.alloc (Obj.cells #[.string y.2.name, .pointer (some ⟨y.1.ge, 0, none⟩), .pointer (some ⟨y.1.gl, 0, none⟩)] 66)) 9 #[.string y.2.name]).cell 0
        rw [show (wr.alloc (Obj.cells #[.string y.2.name, .pointer (some ⟨y.1.ge, 0, none⟩), .pointer (some ⟨y.1.gl, 0, none⟩)] 66)).heap.size = wr.heap.size + 1 from by simp, ← hW] at this
        rw [add_at]; exact this
      rw [← hW] at hoa hba
      have hk8 : k ≤ 8000000000000 := by omega
      have hk9 : (k + 1) * 16 ≤ 140737488355328 := by omega
      have hKl : ∀ j, j < w.heap.size → j < W.heap.size := fun j hj => by omega
      have HW := Lib.hid hW
      have HWs := Lib.hid hWs
      clear hW hWs hown
      go_wp2_with (first | (at_builtin; go_must (rw [← HW.out]; refine wpList_append_K rfl (.tmp 15) (.tmp 18) 22 rfl (· < w.heap.size) (.string ByteArray.empty) 16 infoStrE Tryz.underlying22 rfl (by decide) (by decide) A' k c' _ rfl hoa ⟨wr.heap.size + 1, 0, none⟩ 1 [.string y.2.name] rfl rfl (by simp [Value.oneCell']) hcl hk9 hk8 hKl ?_); intro A3 c3 w3 hown3 hg3 hp3))
      have hb3 : Below w.heap.size w w3 := hba.grown hg3 (by have := HWs.out; omega) (fun g hg => by have := (hoa.lt g hg).1; omega)
      rw [← Hs.out] at hown3
      clear hoa hcl b0 hba
      go_wp2
      go_roundw
      case rel => exact ⟨k + 1, A3, c3, by omega, by go_num, rfl, hown3, hb3⟩
      case measure => simp only [intOf]; omega
    · obtain rfl : k = n := by omega
      have hall : (Q.take k).map (fun y => Value.string y.2.name) = (Q.map fun y => y.2.name.data.toList).map encStr := by
        rw [List.take_of_length_le (by rw [Hl.out]; exact Nat.le_refl _), List.map_map]; rfl
      rw [hall] at hown
      have S := Lib.hid (strSort_any (· < w.heap.size) A' k c' (Q.map fun y => y.2.name.data.toList) wr (by rw [List.length_map]; exact Hl.out) hown (by omega))
      have Hn : Hid ((Q.map fun y => y.2.name.data.toList).mergeSort (fun x y => decide (x ≤ y)) = namesP (Q.map (·.2))) := Lib.hid (by unfold namesP; rw [List.map_map]; rfl)
      rw [Hn.out] at S
      have hlt2 := hown.lt
      have hbs := hbr.size
      clear hall hown
      go_wp2_with fail
      refine S.out.mono ?_
      rintro e w3 ⟨rfl, hown3, hg3⟩
      have hb3 : Below w.heap.size w w3 := hbr.grown hg3 hbs (fun g hg => by have := (hlt2 g hg).1; omega)
      go_wp2
      go_ret
      exact ⟨A', c', rfl, hown3, hb3⟩
end Go.Proofs.YtaogegpfapfchaaGreatDoor

