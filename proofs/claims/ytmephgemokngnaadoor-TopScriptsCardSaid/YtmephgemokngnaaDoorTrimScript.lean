/- The walk of trim.script. -/
import Derived.Test.YtmephgemokngnaaDoorOwnLow
import Derived.Test.YtmephgemokngnaaDoorTrimWalk
import Derived.BigRegion
namespace Go.Proofs.YtmephgemokngnaaDoor
open Go.RowKit
set_option linter.unusedVariables false

theorem own_row {w : World} {B size n c : Nat} {e : TypeId} {A : Option Addr} {xs : List Value} (h : w.ownsRow B e size (.slice A n c) n xs) (hn : 0 < n) : ∃ g cur, A = some ⟨g, 0, none⟩ ∧ B ≤ g ∧ w.heap[g]? = some (.cells cur e (0, 0)) := by
  rcases h.2 with ⟨_, h0⟩ | ⟨g, cap, cur, hv, hb, hg, _⟩
  · omega
  · injection hv with hv
    exact ⟨g, cur, hv, hb, hg⟩
theorem infoB1 : (Tryd.prog.info? 5).map (fun i => (i.zero, i.size, i.bytes)) = some (some (.int .u8 0), 1, 1) := by kernel_rfl

theorem own_apart {w : World} {B B' size size' n n' : Nat} {e t : TypeId} {v v' : Value} {xs ys : List Value} (h : w.ownsRow B e size v n xs) (h' : w.ownsRow B' t size' v' n' ys) (ht : e ≠ t) : v.ownBlock = none ∨ v.ownBlock ≠ v'.ownBlock := by
  rcases h'.2 with ⟨rfl, _⟩ | ⟨g', cap, cur, rfl, _, hg, _⟩
  · cases hv : v.ownBlock with
    | none => exact .inl rfl
    | some k => exact .inr (by simp [Value.ownBlock])
  · exact .inr (own_ne_type h hg ht)
theorem own_far' {w : World} {B size n : Nat} {e : TypeId} {v : Value} {xs : List Value} {g : Nat} (h : w.ownsRow B e size v n xs) (hne : v.ownBlock ≠ some g) (i : Nat) (u : Value) : (w.setCell ⟨g, i, none⟩ u).ownsRow B e size v n xs := by
  refine ⟨h.1, ?_⟩
  rcases h.2 with h0 | ⟨g', cap, cur, hv, hb, hg, rest⟩
  · exact .inl h0
  · exact .inr ⟨g', cap, cur, hv, hb, by rw [Below.heap_setCell w ⟨g, i, none⟩ u g' (by rintro rfl; exact hne (by rw [hv]; rfl))]; exact hg, rest⟩
abbrev OkL (l : List Ed) : Prop := ∀ x ∈ l, (-9223372036854775808 ≤ x.1 ∧ x.1 ≤ 9223372036854775807) ∧ (-9223372036854775808 ≤ x.2.1 ∧ x.2.1 ≤ 9223372036854775807) ∧ (x.2.2).size ≤ 140737488351232
/-- What script tells. -/
def ToldScript (n : Nat) (l : List Cell) (B : Nat) (w : World) (e : Ending) (w' : World) : Prop :=
  Below B w w' ∧ ((checkE n (scr 0 [] (l ++ [((n : Int), (0 : UInt8))])) ≠ 0 ∧ e = .returned (.tuple #[.slice none 0 0, .int .i64 (checkE n (scr 0 [] (l ++ [((n : Int), (0 : UInt8))])))])) ∨
    (checkE n (scr 0 [] (l ++ [((n : Int), (0 : UInt8))])) = 0 ∧ ∃ A c, e = .returned (.tuple #[.slice A (scr 0 [] (l ++ [((n : Int), (0 : UInt8))])).length c, .int .i64 0]) ∧
      w'.ownsRow B 37 3 (.slice A (scr 0 [] (l ++ [((n : Int), (0 : UInt8))])).length c) (scr 0 [] (l ++ [((n : Int), (0 : UInt8))])).length ((scr 0 [] (l ++ [((n : Int), (0 : UInt8))])).flatMap cEdit)))

set_option maxRecDepth 100000 in
set_option maxHeartbeats 8000000 in
theorem script_ok (n : Nat) (hn : n ≤ 200) (A : Option Addr) (m c B : Nat) (l : List Cell) (hm : m ≤ 1000000) (hl : l.length = m) (hlb : ∀ x ∈ l, -1 ≤ x.1 ∧ x.1 ≤ 200) (w : World) (hown : w.ownsRow B 65 2 (.slice A m c) m (l.flatMap cCell)) (hB : B ≤ w.heap.size) :
    Calls Tryd.prog 32 #[.int .i64 (n : Int), .slice A m c] w (ToldScript n l B w) := by
  unfold ToldScript
  have hRl : (l ++ [((n : Int), (0 : UInt8))]).length = m + 1 := by rw [List.length_append, hl]; rfl
  have hRb : ∀ x ∈ l ++ [((n : Int), (0 : UInt8))], -1 ≤ x.1 ∧ x.1 ≤ 200 := fun x hx => by
    rcases List.mem_append.1 hx with hx | hx
    · exact hlb x hx
    · rw [List.mem_singleton.1 hx]; simp only; omega
  have hRf : (l ++ [((n : Int), (0 : UInt8))]).flatMap cCell = l.flatMap cCell ++ [.int .i64 (n : Int), .int .u8 0] := by rw [flat_snoc]; rfl
  have hfl : ∀ v, l.flatMap cCell = v → v = l.flatMap cCell := fun v h => h.symm
  generalize l ++ [((n : Int), (0 : UInt8))] = R at *
  have HRl := Lib.hid hRl
  have HRb := Lib.hid hRb
  have HRf := Lib.hid hRf
  have hX0 := Blk.new w 37 #[.int .i64 0, .int .i64 0, .string ⟨#[]⟩]
  have hb0 := (Below.refl B w).alloc hB (Obj.cells #[.int .i64 0, .int .i64 0, .string ⟨#[]⟩] 37)
  have hown0 := hown.alloc (Obj.cells #[.int .i64 0, .int .i64 0, .string ⟨#[]⟩] 37)
  have hsz0 : (w.alloc (Obj.cells #[.int .i64 0, .int .i64 0, .string ⟨#[]⟩] 37)).heap.size = w.heap.size + 1 := by simp
  have hbdc := buildCell
  have hbd := buildEdit
  have hneA : (Value.slice A m c).ownBlock ≠ some w.heap.size := fun hh => by have := (hown.lt _ hh).2; omega
  have HneA := Lib.hid hneA
  clear hRl hRb hRf hfl hl hlb hown hneA
  go_enter Tryd.func32, Tryd.ntmps32
  go_wp2_with (first | (at_builtin; go_must (refine wpList_append_new _ 63 (.tmp 13) (.tmp 16) rfl rfl B 65 infoCell Tryd.underlying63 rfl (by decide) A m c _ rfl hown0 #[.int .i64 (n : Int), .int .u8 0] 1 (by rw [hsz0]; rfl) rfl (by simp [Value.oneCell']) (by unfold maxLen; omega) (by omega) (by simp; omega) ?_); intro A1 c1 w1 hown1 hb1 hg1))
  have hX1 := Blk.grown hX0 hg1 HneA.out
  have hb1' : Below B w w1 := hb0.trans hb1
  rw [← HRf.out] at hown1
  have hrd := Reads.of_own hown1
  obtain ⟨hr, cur, rfl, hBr, hheap⟩ := own_row hown1 (Nat.succ_pos m)
  have hw1 : w.heap.size < w1.heap.size := hX1.lt
  have hhr1 : hr < w1.heap.size := (hown1.lt hr rfl).2
  generalize hg0 : w.heap.size = g0 at *
  have hB0 : B ≤ g0 := hB
  have Hheap := Lib.hid hheap
  have hBB0 : B ≤ g0 + 1 := by omega
  clear hX0 hb0 hown0 hsz0 hb1 hg1 hB hown1 hheap HneA
  go_loopw [6, 8, 10, 19] (fun ov iv _ kv wr => ∃ (k no co ni ci : Nat) (Ao Ai : Option Addr) (at_ : Int) (ins : List UInt8) (out : List Ed), k ≤ m + 1 ∧ kv = .int .i64 (k : Int) ∧ ov = .slice Ao no co ∧ iv = .slice Ai ni ci ∧ no ≤ k ∧ ni ≤ k ∧ 0 ≤ at_ ∧ at_ ≤ 201 ∧
      Hid (out.length = no) ∧ Hid (ins.length = ni) ∧ Hid (OkL out) ∧ Hid (out ++ scr at_ ins (R.drop k) = scr 0 [] R) ∧ wr.ownsRow (g0 + 1) 37 3 (.slice Ao no co) no (out.flatMap cEdit) ∧ wr.ownsRow (g0 + 1) 5 1 (.slice Ai ni ci) ni (ins.map b8) ∧
      Blk wr g0 37 #[.int .i64 at_, .int .i64 0, .string ⟨#[]⟩] ∧ wr.heap[hr]? = w1.heap[hr]? ∧ Below B w wr ∧ w1.heap.size ≤ wr.heap.size) (fun _ _ _ kv _ => m + 1 - (intOf kv).toNat)
  case atStart => exact ⟨0, 0, 0, 0, 0, none, none, 0, [], [], Nat.zero_le _, rfl, rfl, rfl, Nat.le_refl _, Nat.le_refl _, Int.le_refl _, by decide, Lib.hid rfl, Lib.hid rfl, Lib.hid (fun x hx => by cases hx), Lib.hid rfl, World.ownsRow_nil _ _ _ _, World.ownsRow_nil _ _ _ _, hX1, rfl, hb1', Nat.le_refl _⟩
  case round =>
    clear hX1 hb1'
    obtain ⟨k, no, co, ni, ci, Ao, Ai, at_, ins, out, hk, rfl, rfl, rfl, hno, hni, ha0, ha1, Hno, Hni, Hok, Hsc, hout, hins, hX, hhk, hbr, hwr⟩ := hrel
    by_cases hlt : k < m + 1
    · obtain ⟨hr', o', e', hlt', hc⟩ := hrd.2 (Nat.succ_pos m)
      injection e' with e'
      injection e' with e1 e2 _
      subst e1 e2
      have c0' := hc (k * 2 + 0) (by rw [flat_length cCell 2 cCell_len, HRl.out]; omega)
      have c1' := hc (k * 2 + 1) (by rw [flat_length cCell 2 cCell_len, HRl.out]; omega)
      have dC : Cell := (0, 0)
      rw [flat_getD cCell 2 cCell_len dC R k _ (by rw [HRl.out]; omega) (by omega)] at c0' c1'
      simp only [cCell, List.getD_cons_zero, List.getD_cons_succ, Nat.add_zero, Nat.zero_add] at c0' c1'
      have c0 := (cell_heap hhk _).trans c0'
      have c1 := (cell_heap hhk _).trans c1'
      have hxb := HRb.out (R.getD k dC) (by rw [getD_some _ _ _ (by rw [HRl.out]; omega)]; exact List.getElem_mem _)
      have hsc := Hsc.out
      rw [drop_getD R k dC (by rw [HRl.out]; omega), scr] at hsc
      generalize R.getD k dC = x at *
      obtain ⟨f, b⟩ := x
      simp only at c0 c1 hxb hsc
      have hhr : hr < wr.heap.size := by omega
      have hg0r : g0 < wr.heap.size := hX.lt
      have hC := Blk.new wr 65 #[.int .i64 f, .int .u8 (b.toNat : Int)]
      have hXc := hX.alloc (Obj.cells #[.int .i64 f, .int .u8 (b.toNat : Int)] 65)
      have houtc := hout.alloc (Obj.cells #[.int .i64 f, .int .u8 (b.toNat : Int)] 65)
      have hinsc := hins.alloc (Obj.cells #[.int .i64 f, .int .u8 (b.toNat : Int)] 65)
      have hbc := hbr.alloc (show B ≤ wr.heap.size by omega) (Obj.cells #[.int .i64 f, .int .u8 (b.toNat : Int)] 65)
      have hhc : (wr.alloc (Obj.cells #[.int .i64 f, .int .u8 (b.toNat : Int)] 65)).heap[hr]? = w1.heap[hr]? := (Below.heap_alloc wr _ hr hhr).trans hhk
      have hszc : (wr.alloc (Obj.cells #[.int .i64 f, .int .u8 (b.toNat : Int)] 65)).heap.size = wr.heap.size + 1 := by simp
      clear c0' c1' hc hlt' hout hins hX hhk hbr
      by_cases hf : f < 0
      · have q1 : decide (f < 0) = true := decide_eq_true hf
        rw [if_pos hf] at hsc
        have Hsc2 := Lib.hid hsc
        have hn1 : (Value.slice Ai ni ci).ownBlock ≠ some hr := own_ne_type hinsc (hhc.trans Hheap.out) (by decide)
        have hn2 : (Value.slice Ai ni ci).ownBlock ≠ some g0 := fun hh => by have := (hinsc.lt _ hh).1; omega
        have hn3 := own_apart houtc hinsc (by decide)
        have Hn1 := Lib.hid hn1
        have Hn2 := Lib.hid hn2
        have Hn3 := Lib.hid hn3
        have hrc : hr < (wr.alloc (Obj.cells #[.int .i64 f, .int .u8 (b.toNat : Int)] 65)).heap.size := by omega
        have hgB : g0 + 1 ≤ (wr.alloc (Obj.cells #[.int .i64 f, .int .u8 (b.toNat : Int)] 65)).heap.size := by omega
        clear hsc hn1 hn2 hn3 Hsc
        go_wp2_with (first | (at_builtin; go_must (refine wpList_append_new (wr.alloc (Obj.cells #[.int .i64 f, .int .u8 (b.toNat : Int)] 65)) 61 (.tmp 26) (.tmp 29) rfl rfl (g0 + 1) 5 infoB1 Tryd.underlying61 rfl (by decide) Ai ni ci _ rfl hinsc #[.int .u8 (b.toNat : Int)] 1 (by rw [hszc]; rfl) rfl (by simp [Value.oneCell']) (by unfold maxLen; omega) (by omega) hgB ?_); intro A4 c4 w4 hins4 hb4 hg4))
        go_roundw
        case rel =>
          refine ⟨k + 1, no, co, ni + 1, c4, Ao, A4, at_, ins ++ [b], out, by omega, by go_num, rfl, rfl, by omega, by omega, ha0, ha1, Hno, Lib.hid (by rw [List.length_append, Hni.out]; rfl), Hok, Hsc2, houtc.kept hg4 Hn3.out, ?_, Blk.grown hXc hg4 Hn2.out, ?_, hbc.trans (hb4.mono (by omega)), ?_⟩
          · rw [List.map_append]; exact hins4
          · rw [hg4.block hr hrc (fun e => Hn1.out e.symm)]; exact hhc
          · have := hg4.size; omega
        case measure => simp only [intOf]; omega
      · have q1 : decide (f < 0) = false := decide_eq_false hf
        rw [if_neg hf] at hsc
        have Hsc2 := Lib.hid hsc
        have x0 : (wr.alloc (Obj.cells #[.int .i64 f, .int .u8 (b.toNat : Int)] 65)).cell? ⟨g0, 0, none⟩ = some (.int .i64 at_) := hXc.cell 0
        have x1 : (wr.alloc (Obj.cells #[.int .i64 f, .int .u8 (b.toNat : Int)] 65)).cell? ⟨g0, 1, none⟩ = some (.int .i64 0) := hXc.cell 1
        have x2 : (wr.alloc (Obj.cells #[.int .i64 f, .int .u8 (b.toNat : Int)] 65)).cell? ⟨g0, 2, none⟩ = some (.string ⟨#[]⟩) := hXc.cell 2
        have y0 : (wr.alloc (Obj.cells #[.int .i64 f, .int .u8 (b.toNat : Int)] 65)).cell? ⟨wr.heap.size, 0, none⟩ = some (.int .i64 f) := hC.cell 0
        have fx0 : (wr.alloc (Obj.cells #[.int .i64 f, .int .u8 (b.toNat : Int)] 65)).frozen? ⟨g0, 0, none⟩ = false := hXc.frozen 0
        have fx1 : (wr.alloc (Obj.cells #[.int .i64 f, .int .u8 (b.toNat : Int)] 65)).frozen? ⟨g0, 1, none⟩ = false := hXc.frozen 1
        have fx2 : (wr.alloc (Obj.cells #[.int .i64 f, .int .u8 (b.toNat : Int)] 65)).frozen? ⟨g0, 2, none⟩ = false := hXc.frozen 2
        have wd : IntKind.i64.wrap (f - at_) = f - at_ := by rw [IntKind.wrap_i64]; omega
        clear hsc Hsc
        go_wp2
        generalize hwc : wr.alloc (Obj.cells #[.int .i64 f, .int .u8 (b.toNat : Int)] 65) = wc at *
        generalize hgc : wr.heap.size = gc at *
        have hng : (Value.slice Ai ni ci).ownBlock ≠ some g0 := fun hh => by have := (hinsc.lt _ hh).1; omega
        have hcv1 := run_string_B (P := Tryd.prog) wc.drew 61 9 5 (g0 + 1) Ai ni ci ins (OwnB.of_own hinsc).drew Tryd.underlying61 Tryd.underlying5 Tryd.underlying9
        have hcv2 := run_string_B (P := Tryd.prog) (wc.setCell ⟨g0, 1, none⟩ (.int .i64 (f - at_))).drew 61 9 5 (g0 + 1) Ai ni ci ins (OwnB.of_own (own_far' hinsc hng 1 (.int .i64 (f - at_)))).drew Tryd.underlying61 Tryd.underlying5 Tryd.underlying9
        have Hng := Lib.hid hng
        clear hng
        go_region
        have hXW : Blk ((wc.setCell ⟨g0, 1, none⟩ (.int .i64 (f - at_))).setCell ⟨g0, 2, none⟩ (.string ⟨ins.toArray⟩)).drew g0 37 #[.int .i64 at_, .int .i64 (f - at_), .string ⟨ins.toArray⟩] := (hXc.set_ 1 (.int .i64 (f - at_))).set_ 2 (.string ⟨ins.toArray⟩)
        have hgcg : gc ≠ g0 := by omega
        have hCW : Blk ((wc.setCell ⟨g0, 1, none⟩ (.int .i64 (f - at_))).setCell ⟨g0, 2, none⟩ (.string ⟨ins.toArray⟩)).drew gc 65 #[.int .i64 f, .int .u8 (b.toNat : Int)] := by
          show ((wc.setCell ⟨g0, 1, none⟩ _).setCell ⟨g0, 2, none⟩ _).heap[gc]? = _
          rw [Below.heap_setCell _ ⟨g0, 2, none⟩ _ gc hgcg, Below.heap_setCell _ ⟨g0, 1, none⟩ _ gc hgcg]
          exact hC
        have hong : (Value.slice Ao no co).ownBlock ≠ some g0 := fun hh => by have := (houtc.lt _ hh).1; omega
        have houtW : ((wc.setCell ⟨g0, 1, none⟩ (.int .i64 (f - at_))).setCell ⟨g0, 2, none⟩ (.string ⟨ins.toArray⟩)).drew.ownsRow (g0 + 1) 37 3 (.slice Ao no co) no (out.flatMap cEdit) := own_far' (own_far' houtc hong 1 (.int .i64 (f - at_))) hong 2 (.string ⟨ins.toArray⟩)
        have hhg : hr ≠ g0 := fun e => by
          have h1 := hhc.trans Hheap.out
          rw [e] at h1
          have := h1.symm.trans hXc
          injection this with this
          injection this with _ h2 _
          exact absurd h2 (by decide)
        have hhW : ((wc.setCell ⟨g0, 1, none⟩ (.int .i64 (f - at_))).setCell ⟨g0, 2, none⟩ (.string ⟨ins.toArray⟩)).drew.heap[hr]? = w1.heap[hr]? := by
          show ((wc.setCell ⟨g0, 1, none⟩ _).setCell ⟨g0, 2, none⟩ _).heap[hr]? = _
          rw [Below.heap_setCell _ ⟨g0, 2, none⟩ _ hr hhg, Below.heap_setCell _ ⟨g0, 1, none⟩ _ hr hhg]
          exact hhc
        have hbW : Below B w ((wc.setCell ⟨g0, 1, none⟩ (.int .i64 (f - at_))).setCell ⟨g0, 2, none⟩ (.string ⟨ins.toArray⟩)).drew := ((hbc.setCell hB0 _).setCell hB0 _).drew
        have hsW : ((wc.setCell ⟨g0, 1, none⟩ (.int .i64 (f - at_))).setCell ⟨g0, 2, none⟩ (.string ⟨ins.toArray⟩)).drew.heap.size = gc + 1 := by
          show ((wc.setCell ⟨g0, 1, none⟩ _).setCell ⟨g0, 2, none⟩ _).heap.size = _
          rw [size_setCell, size_setCell, hszc]
        generalize ((wc.setCell ⟨g0, 1, none⟩ (.int .i64 (f - at_))).setCell ⟨g0, 2, none⟩ (.string ⟨ins.toArray⟩)).drew = W at *
        have z0 : W.cell? ⟨g0, 0, none⟩ = some (.int .i64 at_) := hXW.cell 0
        have z1 : W.cell? ⟨g0, 1, none⟩ = some (.int .i64 (f - at_)) := hXW.cell 1
        have z2 : W.cell? ⟨g0, 2, none⟩ = some (.string ⟨ins.toArray⟩) := hXW.cell 2
        have u0 : W.cell? ⟨gc, 0, none⟩ = some (.int .i64 f) := hCW.cell 0
        have fz0 : W.frozen? ⟨g0, 0, none⟩ = false := hXW.frozen 0
        have fz1 : W.frozen? ⟨g0, 1, none⟩ = false := hXW.frozen 1
        have fz2 : W.frozen? ⟨g0, 2, none⟩ = false := hXW.frozen 2
        have hgW : g0 < W.heap.size := by omega
        have hgcW : gc < W.heap.size := by omega
        clear hcv1 hcv2 x0 x1 x2 y0 fx0 fx1 fx2 hXc hC houtc hinsc hhc hszc hbc wd hwc c0 c1 Hng
        have hogc : (Value.slice Ao no co).ownBlock ≠ some gc := own_ne_type houtW hCW (by decide)
        have hogr : (Value.slice Ao no co).ownBlock ≠ some hr := own_ne_type houtW (hhW.trans Hheap.out) (by decide)
        have Hog := Lib.hid hong
        have Hogc := Lib.hid hogc
        have Hogr := Lib.hid hogr
        have Hxb := Lib.hid hxb
        have hil : ins.length ≤ 1000001 := by rw [Hni.out]; omega
        have Hil := Lib.hid hil
        have wf : IntKind.i64.wrap (f + 1) = f + 1 := by rw [IntKind.wrap_i64]; omega
        clear hong hogc hogr hil
        by_cases hcond : 0 < f - at_ ∨ ins ≠ []
        · have hsc := Hsc2.out
          rw [if_pos hcond, ← List.append_assoc] at hsc
          have Hsc3 := Lib.hid hsc
          clear hsc Hsc2
          by_cases hd : 0 < f - at_
          · have q2 : decide (0 < f - at_) = true := decide_eq_true hd
            go_wp2_with (first | (at_builtin; go_must (refine wpList_append_new W 22 (.tmp 48) (.tmp 50) rfl rfl (g0 + 1) 37 infoEdit Tryd.underlying22 rfl (by decide) Ao no co _ rfl houtW #[.int .i64 at_, .int .i64 (f - at_), .string ⟨ins.toArray⟩] 1 (by rw [hsW]; rfl) rfl (by simp [Value.oneCell']) (by unfold maxLen; omega) (by omega) (by omega) ?_); intro A5 c5 w5 hout5 hb5 hg5; have hX5 := Blk.grown hXW hg5 Hog.out; have hC5 := Blk.grown hCW hg5 Hogc.out; have u5 : w5.cell? ⟨gc, 0, none⟩ = some (.int .i64 f) := hC5.cell 0; have v0 : w5.cell? ⟨g0, 0, none⟩ = some (.int .i64 at_) := hX5.cell 0; have v1 : w5.cell? ⟨g0, 1, none⟩ = some (.int .i64 (f - at_)) := hX5.cell 1; have v2 : w5.cell? ⟨g0, 2, none⟩ = some (.string ⟨ins.toArray⟩) := hX5.cell 2; have n0 : w5.frozen? ⟨g0, 0, none⟩ = false := hX5.frozen 0; have n1 : w5.frozen? ⟨g0, 1, none⟩ = false := hX5.frozen 1; have n2 : w5.frozen? ⟨g0, 2, none⟩ = false := hX5.frozen 2; have hg5l := hX5.lt; have hgc5 := hC5.lt))
            go_roundw
            case rel =>
              have hog5 : (Value.slice A5 (no + 1) c5).ownBlock ≠ some g0 := fun hh => by have := (hout5.lt _ hh).1; omega
              have hout6 : w5.ownsRow (g0 + 1) 37 3 (.slice A5 (no + 1) c5) (no + 1) ((out ++ ([(at_, f - at_, ⟨ins.toArray⟩)] : List Ed)).flatMap cEdit) := by rw [flat_snoc]; exact hout5
              refine ⟨k + 1, no + 1, c5, 0, 0, A5, none, f + 1, [], out ++ [(at_, f - at_, ⟨ins.toArray⟩)], by omega, by go_num, rfl, rfl, by omega, by omega, by omega, by omega, Lib.hid (by rw [List.length_append, Hno.out]; rfl), Lib.hid rfl, Lib.hid ?_, Hsc3, own_far' (own_far' (own_far' hout6 hog5 0 _) hog5 1 _) hog5 2 _, World.ownsRow_nil _ _ _ _, ((hX5.set_ 0 _).set_ 1 _).set_ 2 _, ?_, (((hbW.trans (hb5.mono (by omega))).setCell hB0 _).setCell hB0 _).setCell hB0 _, ?_⟩
              · intro z hz
                rcases List.mem_append.1 hz with hz | hz
                · exact Hok.out z hz
                · rw [List.mem_singleton.1 hz]
                  have h1 := Hil.out
                  have h2 : (ByteArray.mk ins.toArray).size = ins.length := rfl
                  exact ⟨by simp only; omega, by simp only; omega, by simp only [h2]; omega⟩
              · rw [Below.heap_setCell _ ⟨g0, 2, none⟩ _ hr hhg, Below.heap_setCell _ ⟨g0, 1, none⟩ _ hr hhg, Below.heap_setCell _ ⟨g0, 0, none⟩ _ hr hhg, hg5.block hr (by omega) (fun e => Hogr.out e.symm)]
                exact hhW
              · rw [size_setCell, size_setCell, size_setCell]; have := hg5.size; omega
            case measure => simp only [intOf]; omega
          · have q2 : decide (0 < f - at_) = false := decide_eq_false hd
            have hin : ins ≠ [] := hcond.elim (fun h => absurd h hd) id
            have q3 : ((ByteArray.mk ins.toArray).toList == []) = false := by
              rw [ByteArray.toList_eq, beq_eq_false_iff_ne]; simpa using hin
            have q4 : ((ByteArray.mk ins.toArray).toList != []) = true := by
              rw [ByteArray.toList_eq, bne_iff_ne]; simpa using hin
            have q5 : ins.isEmpty = false := by cases ins with | nil => exact absurd rfl hin | cons _ _ => rfl
            clear hin
            go_wp2_with (first | (at_builtin; go_must (refine wpList_append_new W 22 (.tmp 48) (.tmp 50) rfl rfl (g0 + 1) 37 infoEdit Tryd.underlying22 rfl (by decide) Ao no co _ rfl houtW #[.int .i64 at_, .int .i64 (f - at_), .string ⟨ins.toArray⟩] 1 (by rw [hsW]; rfl) rfl (by simp [Value.oneCell']) (by unfold maxLen; omega) (by omega) (by omega) ?_); intro A5 c5 w5 hout5 hb5 hg5; have hX5 := Blk.grown hXW hg5 Hog.out; have hC5 := Blk.grown hCW hg5 Hogc.out; have u5 : w5.cell? ⟨gc, 0, none⟩ = some (.int .i64 f) := hC5.cell 0; have v0 : w5.cell? ⟨g0, 0, none⟩ = some (.int .i64 at_) := hX5.cell 0; have v1 : w5.cell? ⟨g0, 1, none⟩ = some (.int .i64 (f - at_)) := hX5.cell 1; have v2 : w5.cell? ⟨g0, 2, none⟩ = some (.string ⟨ins.toArray⟩) := hX5.cell 2; have n0 : w5.frozen? ⟨g0, 0, none⟩ = false := hX5.frozen 0; have n1 : w5.frozen? ⟨g0, 1, none⟩ = false := hX5.frozen 1; have n2 : w5.frozen? ⟨g0, 2, none⟩ = false := hX5.frozen 2; have hg5l := hX5.lt; have hgc5 := hC5.lt))
            go_roundw
            case rel =>
              have hog5 : (Value.slice A5 (no + 1) c5).ownBlock ≠ some g0 := fun hh => by have := (hout5.lt _ hh).1; omega
              have hout6 : w5.ownsRow (g0 + 1) 37 3 (.slice A5 (no + 1) c5) (no + 1) ((out ++ ([(at_, f - at_, ⟨ins.toArray⟩)] : List Ed)).flatMap cEdit) := by rw [flat_snoc]; exact hout5
              refine ⟨k + 1, no + 1, c5, 0, 0, A5, none, f + 1, [], out ++ [(at_, f - at_, ⟨ins.toArray⟩)], by omega, by go_num, rfl, rfl, by omega, by omega, by omega, by omega, Lib.hid (by rw [List.length_append, Hno.out]; rfl), Lib.hid rfl, Lib.hid ?_, Hsc3, own_far' (own_far' (own_far' hout6 hog5 0 _) hog5 1 _) hog5 2 _, World.ownsRow_nil _ _ _ _, ((hX5.set_ 0 _).set_ 1 _).set_ 2 _, ?_, (((hbW.trans (hb5.mono (by omega))).setCell hB0 _).setCell hB0 _).setCell hB0 _, ?_⟩
              · intro z hz
                rcases List.mem_append.1 hz with hz | hz
                · exact Hok.out z hz
                · rw [List.mem_singleton.1 hz]
                  have h1 := Hil.out
                  have h2 : (ByteArray.mk ins.toArray).size = ins.length := rfl
                  exact ⟨by simp only; omega, by simp only; omega, by simp only [h2]; omega⟩
              · rw [Below.heap_setCell _ ⟨g0, 2, none⟩ _ hr hhg, Below.heap_setCell _ ⟨g0, 1, none⟩ _ hr hhg, Below.heap_setCell _ ⟨g0, 0, none⟩ _ hr hhg, hg5.block hr (by omega) (fun e => Hogr.out e.symm)]
                exact hhW
              · rw [size_setCell, size_setCell, size_setCell]; have := hg5.size; omega
            case measure => simp only [intOf]; omega
        · have hd : ¬ 0 < f - at_ := fun h => hcond (.inl h)
          have hin : ins = [] := by
            by_cases h : ins = []
            · exact h
            · exact absurd (.inr h) hcond
          have q2 : decide (0 < f - at_) = false := decide_eq_false hd
          have hsc := Hsc2.out
          rw [if_neg hcond, List.nil_append] at hsc
          have Hsc3 := Lib.hid hsc
          clear hsc Hsc2 hcond
          subst hin
          have q3 : ((ByteArray.mk #[]).toList == []) = true := by rw [ByteArray.toList_eq]; rfl
          have q4 : ((ByteArray.mk #[]).toList != []) = false := by rw [ByteArray.toList_eq]; rfl
          have q5 : decide (at_ < f) = false := decide_eq_false (by omega)
          have q6 : ([] : List UInt8).toArray = #[] := rfl
          clear hd
          go_wp2
          go_roundw
          case rel =>
            refine ⟨k + 1, no, co, 0, 0, Ao, none, f + 1, [], out, by omega, by go_num, rfl, rfl, by omega, by omega, by omega, by omega, Hno, Lib.hid rfl, Hok, Hsc3, own_far' (own_far' (own_far' houtW Hog.out 0 _) Hog.out 1 _) Hog.out 2 _, World.ownsRow_nil _ _ _ _, ((hXW.set_ 0 _).set_ 1 _).set_ 2 _, ?_, ((hbW.setCell hB0 _).setCell hB0 _).setCell hB0 _, ?_⟩
            · rw [Below.heap_setCell _ ⟨g0, 2, none⟩ _ hr hhg, Below.heap_setCell _ ⟨g0, 1, none⟩ _ hr hhg, Below.heap_setCell _ ⟨g0, 0, none⟩ _ hr hhg]
              exact hhW
            · rw [size_setCell, size_setCell, size_setCell]; omega
          case measure => simp only [intOf]; omega
    · have hkm : k = m + 1 := by omega
      have hsc := Hsc.out
      rw [List.drop_of_length_le (by rw [HRl.out]; omega), scr, List.append_nil] at hsc
      have HS := Lib.hid hsc
      have hck := check_any n (by omega) Ao no co wr.heap.size out (by omega) Hno.out Hok.out wr (Reads.of_own hout) (Nat.le_refl _)
      have HCK := Lib.hid hck
      have hrr := hout
      have hBr' : B ≤ wr.heap.size := by have := hX.lt; omega
      clear hck hsc Hsc hkm hhk hins hX hout
      generalize hEE : checkE (n : Int) out = E at *
      have HE := Lib.hid hEE
      clear hEE
      go_wp2_with fail
      refine HCK.out.mono ?_
      rintro e w5 ⟨rfl, hb5⟩
      have hb6 : Below B w w5 := hbr.trans (hb5.mono hBr')
      by_cases h0 : E = 0
      · subst h0
        go_wp2
        go_ret2
        refine ⟨hb6, ?_⟩
        rw [← HS.out, HE.out, Hno.out]
        exact .inr ⟨rfl, Ao, co, rfl, own_low (own_later hrr hb5) hBB0⟩
      · have q5 : (E != 0) = true := by simpa using h0
        have H0 := Lib.hid h0
        clear h0
        go_wp2
        go_ret2
        refine ⟨hb6, ?_⟩
        rw [← HS.out, HE.out]
        exact .inl ⟨H0.out, rfl⟩
end Go.Proofs.YtmephgemokngnaaDoor
