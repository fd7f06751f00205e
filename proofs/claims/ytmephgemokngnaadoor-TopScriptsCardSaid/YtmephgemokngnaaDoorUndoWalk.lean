/- The walk of edit.Undo. -/
import Derived.Test.YtmephgemokngnaaDoorOwnLow
import Derived.Test.YtmephgemokngnaaDoorUndoP
import Derived.Test.YtmephgemokngnaaDoorEditWalk
import Derived.Deep.RegionHeldLaw
namespace Go.Proofs.YtmephgemokngnaaDoor
open Go.RowKit
set_option linter.unusedVariables false

/-- append as one step of a region that draws. -/
theorem step_append_own {P : Program} {w : World} {ops : Array Oper} {o : Oper} {a : Act} {K : Act → World → Prop} {Q : Exit → Act → World → Prop} {E : Prop} (hgd : o.guard = none) (s x : Operand) (t : TypeId)
    (ho : o.op = .call { callee := .builtin .append, args := #[s, x], argTypes := #[t, t] })
    (base : Nat) (e : TypeId) {z : Value} {size bytes : Nat} (hinfo : (P.info? e).map (fun i => (i.zero, i.size, i.bytes)) = some (some z, size, bytes)) (ht : P.underlying t = some (.slice e)) (hzs : z.cells.size = size) (hsz : 0 < size)
    (A : Option Addr) (n c : Nat) (xs : List Value) (hs : a.eval s = .slice A n c) (hown : w.ownsRow base e size (.slice A n c) n xs)
    (ad : Addr) (m c2 : Nat) (news : List Value) (hx : a.eval x = .slice (some ad) m c2) (hl : news.length = m * size) (hnews : ∀ j u, news[j]? = some u → w.cell? (ad.add j) = some u) (h1 : ∀ u ∈ news, u.oneCell' = true)
    (h63 : n + m ≤ maxLen) (hbytes : (n + m) * bytes ≤ 140737488355328) (hbase : base ≤ w.heap.size)
    (h : ∀ A' c' w1, w1.ownsRow base e size (.slice A' (n + m) c') (n + m) (xs ++ news) → w.grownBy w1 (Value.slice A n c).ownBlock → K (a.put o.dst (.slice A' (n + m) c')) w1) :
    if Region.wanted o (yielded ops a.tmps) = true then Oper.wp P o a w K Q else E := by
  rw [if_pos (by simp [Region.wanted, hgd])]
  obtain ⟨i0, hi, hz0, hz1, hz2⟩ := info_parts hinfo
  refine wp_append_own w s x t ho base e i0 z size bytes ht hi hz0 hz1 hz2 hzs hsz (.slice A n c) n xs hs hown ad m c2 news hx hl hnews h1 h63 hbytes hbase fun v' w1 h2 h3 _ => ?_
  obtain ⟨A', c', rfl, _⟩ := own_shape h2
  exact h A' c' w1 h2 h3

theorem infoEdU : (Tryd.prog.info? 37).map (fun i => (i.zero, i.size, i.bytes)) = some (some (.agg #[.int .i64 0, .int .i64 0, .string ⟨#[]⟩]), 3, 32) := by kernel_rfl

/-- Undo's answer to right edits. -/
def ToldUndo (s : List UInt8) (l : List Ed) (w : World) (e : Ending) (w' : World) : Prop :=
  Below w.heap.size w w' ∧ (((∀ x ∈ l, x.2.1 ≤ 40) ∧ ∃ A c, e = .returned (.tuple #[.slice A l.length c, .int .i64 0]) ∧ Reads w' w'.heap.size A l.length 3 ((undoE s 0 l).flatMap cEdit) ∧ l.length ≤ c) ∨
    ((¬ ∀ x ∈ l, x.2.1 ≤ 40) ∧ e = .returned (.tuple #[.slice none 0 0, .int .i64 2])))

def ToldUndoO (s : List UInt8) (l : List Ed) (w : World) (e : Ending) (w' : World) : Prop :=
  Below w.heap.size w w' ∧ (((∀ x ∈ l, x.2.1 ≤ 40) ∧ ∃ A c, e = .returned (.tuple #[.slice A l.length c, .int .i64 0]) ∧ w'.ownsRow w.heap.size 37 3 (.slice A l.length c) l.length ((undoE s 0 l).flatMap cEdit) ∧ l.length ≤ c) ∨
    ((¬ ∀ x ∈ l, x.2.1 ≤ 40) ∧ e = .returned (.tuple #[.slice none 0 0, .int .i64 2])))

set_option maxHeartbeats 4000000 in
theorem undo_own (s : ByteArray) (A : Option Addr) (len c B0 : Nat) (l : List Ed) (hl : l.length = len) (hE : checkE s.size l = 0)
    (w : World) (h : Reads w B0 A len 3 (l.flatMap cEdit)) (hB0 : B0 ≤ w.heap.size) :
    Calls Tryd.prog 9 #[.string s, .slice A len c] w (ToldUndoO s.data.toList l w) := by
  obtain ⟨h0, h1, h2, h3, h4⟩ := checkE_ok hE
  have hck : ∀ w, Reads w B0 A len 3 (l.flatMap cEdit) → B0 ≤ w.heap.size → Calls Tryd.prog 18 #[.int .i64 (s.size : Int), .slice A len c] w fun e w' => e = .returned (.int .i64 0) ∧ Below w.heap.size w w' := fun w h hB0 => by
    have := check_any s.size (by omega) A len c B0 l (by omega) hl (ok_bounds (by omega) h3) w h hB0
    rwa [hE] at this
  have Hck := Lib.hid hck
  have hl20 : len ≤ 20 := by omega
  have Hl := Lib.hid hl
  have Hall := Lib.hid (ok_all (by omega) h3)
  have hs200 : s.size ≤ 200 := by omega
  clear hck hl hE h3 h4 h2
  go_enter Tryd.func9, Tryd.ntmps9
  go_wp2_with fail
  refine (Hck.out _ h hB0).mono ?_
  rintro e w1 ⟨rfl, hb1⟩
  go_wp2
  have hsz1 := hb1.size
  go_loopw [7, 8, 10, 20] (fun ov mv _ i wr => ∃ (k : Nat) (m : Int) (A' : Option Addr) (c' : Nat), k ≤ len ∧ i = .int .i64 k ∧ mv = .int .i64 m ∧ Hid (m = gain (l.take k)) ∧ -200 * (k : Int) ≤ m ∧ m ≤ 40 * (k : Int) ∧ ov = .slice A' k c' ∧
      wr.ownsRow w1.heap.size 37 3 (.slice A' k c') k ((undoE s.data.toList 0 (l.take k)).flatMap cEdit) ∧ Hid (∀ x ∈ l.take k, x.2.1 ≤ 40) ∧ Below w1.heap.size w1 wr)
    (fun _ _ _ i _ => len - (intOf i).toNat)
  case atStart => exact ⟨0, 0, none, 0, Nat.zero_le _, rfl, rfl, Lib.hid rfl, by omega, by omega, rfl, World.ownsRow_nil _ _ _ _, Lib.hid (by simp), Below.refl _ _⟩
  case round =>
    obtain ⟨k, m, A', c', hk, rfl, rfl, Hm, hm1, hm2, rfl, hown, Hdl, hbr⟩ := hrel
    by_cases hlt : k < len
    · have h := (h.below' hb1 hB0).below' hbr (by omega)
      obtain ⟨b, o, rfl, hbB, hc⟩ := h.2 (by omega)
      have c0 := hc (k * 3 + 0) (by rw [flat_length cEdit 3 cEdit_len, Hl.out]; omega)
      have c1 := hc (k * 3 + 1) (by rw [flat_length cEdit 3 cEdit_len, Hl.out]; omega)
      have c2 := hc (k * 3 + 2) (by rw [flat_length cEdit 3 cEdit_len, Hl.out]; omega)
      have dE : Ed := (0, 0, ByteArray.empty)
      rw [flat_getD cEdit 3 cEdit_len dE l k _ (by rw [Hl.out]; omega) (by omega)] at c0 c1 c2
      simp only [cEdit, List.getD_cons_zero, List.getD_cons_succ, Nat.add_zero, ← Nat.add_assoc] at c0 c1 c2
      have hmem : l.getD k dE ∈ l := by rw [getD_some _ _ _ (by rw [Hl.out]; omega)]; exact List.getElem_mem _
      have hx := Hall.out _ hmem
      have htake := take_succ_getD l k dE (by rw [Hl.out]; omega)
      have Hmem := Lib.hid hmem
      have Htake := Lib.hid htake
      clear htake hc hmem
      generalize l.getD k dE = x at *
      obtain ⟨at_, del, ins⟩ := x
      simp only at c0 c1 c2 hx
      obtain ⟨o1, o2, o3, o4⟩ := hx
      obtain ⟨i, rfl⟩ : ∃ i : Nat, at_ = i := ⟨at_.toNat, by omega⟩
      obtain ⟨d, rfl⟩ : ∃ i : Nat, del = i := ⟨del.toNat, by omega⟩
      obtain ⟨q, hq⟩ : ∃ q : Nat, (i : Int) + d = q := ⟨i + d, by omega⟩
      have hiq : i ≤ q := by omega
      have hqs : q ≤ s.size := by omega
      have hqs' : (q : Int) ≤ s.size := by omega
      have hiq' : (i : Int) ≤ (q : Int) := by omega
      have hbB' : b < wr.heap.size := by have := hbr.size; omega
      have wq : IntKind.i64.wrap ((i : Int) + (d : Int)) = (q : Int) := by rw [IntKind.wrap_i64]; omega
      have wq2 : IntKind.i64.wrap (q : Int) = (q : Int) := by rw [IntKind.wrap_i64]; omega
      have wm : IntKind.i64.wrap ((i : Int) + m) = (i : Int) + m := by rw [IntKind.wrap_i64]; omega
      have wg1 : IntKind.i64.wrap ((ins.size : Int) - (d : Int)) = (ins.size : Int) - (d : Int) := by rw [IntKind.wrap_i64]; omega
      have wg2 : IntKind.i64.wrap (m + ((ins.size : Int) - (d : Int))) = m + ((ins.size : Int) - (d : Int)) := by rw [IntKind.wrap_i64]; omega
      have hext : s.extract i q = e8 ((s.data.toList.drop i).take d) := by
        have : (s.extract i q).data.toList = (s.data.toList.drop i).take d := by rw [Lib.extract_data, show q - i = d from by omega]
        rw [← e8_of (s.extract i q), this]
      have Hext := Lib.hid hext
      clear hext
      by_cases hd40 : 40 < d
      · have q1 : decide ((40 : Int) < (d : Int)) = true := decide_eq_true (by omega)
        have q1n : decide (40 < d) = true := decide_eq_true hd40
        have hbad : ¬ ∀ x ∈ l, x.2.1 ≤ 40 := fun hh => by have := hh _ Hmem.out; simp only at this; omega
        have Hbad := Lib.hid hbad
        clear hbad
        rcases Nat.eq_zero_or_pos k with k0 | k0
        · subst k0
          simp only [Nat.zero_mul, Nat.add_zero] at c0 c1 c2
          go_wp2
          go_ret2
          exact ⟨chain (hbr.alloc hbr.size _) hb1, .inr ⟨Hbad.out, rfl⟩⟩
        · go_wp2
          go_ret2
          exact ⟨chain (hbr.alloc hbr.size _) hb1, .inr ⟨Hbad.out, rfl⟩⟩
      · have q1 : decide ((40 : Int) < (d : Int)) = false := decide_eq_false (by omega)
        have q1n : decide (40 < d) = false := decide_eq_false hd40
        have hX := Blk.new wr 37 #[.int .i64 (i : Int), .int .i64 (d : Int), .string ins]
        have hbx := hbr.alloc hbr.size (Obj.cells #[.int .i64 (i : Int), .int .i64 (d : Int), .string ins] 37)
        have hownx := hown.alloc (Obj.cells #[.int .i64 (i : Int), .int .i64 (d : Int), .string ins] 37)
        have hWs : (wr.alloc (Obj.cells #[.int .i64 (i : Int), .int .i64 (d : Int), .string ins] 37)).heap.size = wr.heap.size + 1 := by simp
        have ht' : undoE s.data.toList 0 (l.take (k + 1)) = undoE s.data.toList 0 (l.take k) ++ [((i : Int) + m, (ins.size : Int), s.extract i q)] := by
          rw [Htake.out, undo_snoc, ← Hm.out, Hext.out, Int.zero_add]
          rfl
        have Ht := Lib.hid ht'
        have hnews : ∀ (W : World) (j : Nat) (u : Value), ([.int .i64 ((i : Int) + m), .int .i64 (ins.size : Int), .string (s.extract i q)] : List Value)[j]? = some u → (W.alloc (Obj.cells #[.int .i64 ((i : Int) + m), .int .i64 (ins.size : Int), .string (s.extract i q)] 37)).drew.cell? ((⟨W.heap.size, 0, none⟩ : Addr).add j) = some u := fun W j u hj => by
          rw [add_zero]
          show (W.alloc _).cell? _ = _
          rw [World.cell?_alloc_mark, ← Array.getElem?_toList]
          exact hj
        have Hnews := Lib.hid hnews
        have hne : (Value.slice A' k c').ownBlock ≠ some wr.heap.size := fun hh => by have := (hown.lt _ hh).2; omega
        clear ht' hnews hbr hown
        have hbd := buildEdit
        go_wp2
        generalize wr.alloc (Obj.cells #[.int .i64 (i : Int), .int .i64 (d : Int), .string ins] 37) = W at *
        have hbase : w1.heap.size ≤ (W.alloc (Obj.cells #[.int .i64 ((i : Int) + m), .int .i64 (ins.size : Int), .string (s.extract i q)] 37)).drew.heap.size := by
          have := hbx.size
          show _ ≤ (W.alloc _).heap.size
          simp; omega
        have x0 : W.cell? ⟨wr.heap.size, 0, none⟩ = some (.int .i64 (i : Int)) := hX.cell 0
        have x1 : W.cell? ⟨wr.heap.size, 1, none⟩ = some (.int .i64 (d : Int)) := hX.cell 1
        have x2 : W.cell? ⟨wr.heap.size, 2, none⟩ = some (.string ins) := hX.cell 2
        have hZ : Blk (W.alloc (Obj.cells #[.int .i64 ((i : Int) + m), .int .i64 (ins.size : Int), .string (s.extract i q)] 37)).drew wr.heap.size 37 #[.int .i64 (i : Int), .int .i64 (d : Int), .string ins] := hX.alloc (Obj.cells #[.int .i64 ((i : Int) + m), .int .i64 (ins.size : Int), .string (s.extract i q)] 37)
        go_region_held_law (fun w' => w'.cell? ⟨wr.heap.size, 0, none⟩ = some (.int .i64 (i : Int)) ∧ w'.cell? ⟨wr.heap.size, 1, none⟩ = some (.int .i64 (d : Int)) ∧ w'.cell? ⟨wr.heap.size, 2, none⟩ = some (.string ins))
          (first | exact ⟨x0, x1, x2⟩ | exact ⟨hZ.cell 0, hZ.cell 1, hZ.cell 2⟩ | exact ⟨(Blk.grown hZ hg4 hne).cell 0, (Blk.grown hZ hg4 hne).cell 1, (Blk.grown hZ hg4 hne).cell 2⟩)
          ((refine step_append_own rfl (.tmp 27) (.tmp 45) 22 rfl w1.heap.size 37 infoEdU Tryd.underlying22 rfl (by decide) A' k c' _ (by simp [Act.eval]) (hownx.alloc _) ⟨W.heap.size, 0, none⟩ 1 1 [.int .i64 ((i : Int) + m), .int .i64 (ins.size : Int), .string (s.extract i q)] (by simp [Act.eval]) rfl (Hnews.out W) (by simp [Value.oneCell']) (by unfold maxLen; omega) (by omega) hbase ?_; intro A3 c3 w4 hown4 hg4))
        have hX4 := Blk.grown hZ hg4 hne
        have hb4 : Below w1.heap.size w1 w4 := ((hbx.alloc hbx.size (Obj.cells #[.int .i64 ((i : Int) + m), .int .i64 (ins.size : Int), .string (s.extract i q)] 37)).drew).grown hg4 hbase (fun g hg => (hownx.lt g hg).1)
        have z0 : w4.cell? ⟨wr.heap.size, 0, none⟩ = some (.int .i64 (i : Int)) := hX4.cell 0
        have z1 : w4.cell? ⟨wr.heap.size, 1, none⟩ = some (.int .i64 (d : Int)) := hX4.cell 1
        have z2 : w4.cell? ⟨wr.heap.size, 2, none⟩ = some (.string ins) := hX4.cell 2
        have hgn : m + ((ins.size : Int) - (d : Int)) = gain (l.take (k + 1)) := by rw [Htake.out, gain_append, ← Hm.out]; simp [gain]
        have Hgn := Lib.hid hgn
        clear hgn x0 x1 x2 hX hbx hownx hbase
        go_wp2
        go_roundw
        case rel =>
          refine ⟨k + 1, m + ((ins.size : Int) - (d : Int)), A3, c3, by omega, by go_num, rfl, Hgn, by omega, by omega, rfl, ?_, Lib.hid fun x hx => ?_, hb4⟩
          · rw [Ht.out, flat_snoc]; exact hown4
          · rw [Htake.out, List.mem_append, List.mem_singleton] at hx
            rcases hx with hx | rfl
            · exact Hdl.out x hx
            · show (d : Int) ≤ 40; omega
        case measure => simp only [intOf]; omega
    · obtain rfl : k = len := by omega
      have e : l.take k = l := List.take_of_length_le (by rw [Hl.out]; exact Nat.le_refl _)
      rw [e] at hown Hdl
      have hcp : k ≤ c' := by
        rcases hown.2 with ⟨hh, h0⟩ | ⟨g, cap, cur, hh, _, _, h2, _⟩
        · omega
        · injection hh with _ _ h3; omega
      go_wp2
      go_ret2
      exact ⟨chain hbr hb1, .inl ⟨Hdl.out, A', c', by rw [Hl.out]; rfl, by rw [Hl.out]; exact own_low hown hb1.size, by rw [Hl.out]; exact hcp⟩⟩
theorem undo_ok (s : ByteArray) (A : Option Addr) (len c B0 : Nat) (l : List Ed) (hl : l.length = len) (hE : checkE s.size l = 0)
    (w : World) (h : Reads w B0 A len 3 (l.flatMap cEdit)) (hB0 : B0 ≤ w.heap.size) :
    Calls Tryd.prog 9 #[.string s, .slice A len c] w (ToldUndo s.data.toList l w) :=
  (undo_own s A len c B0 l hl hE w h hB0).mono fun e w' ⟨hb, h⟩ => ⟨hb, h.imp (fun ⟨h1, A, c, h2, h3, h4⟩ => ⟨h1, A, c, h2, Reads.of_own h3, h4⟩) id⟩

set_option maxHeartbeats 1000000 in
theorem undo_no (s : ByteArray) (hs : s.size ≤ 140737488355328) (A : Option Addr) (len c B0 : Nat) (l : List Ed) (hlen : len ≤ 4398046511104) (hl : l.length = len) (ho : ∀ x ∈ l, (-9223372036854775808 ≤ x.1 ∧ x.1 ≤ 9223372036854775807) ∧ (-9223372036854775808 ≤ x.2.1 ∧ x.2.1 ≤ 9223372036854775807) ∧ (x.2.2).size ≤ 140737488351232)
    (E : Int) (hE : checkE s.size l = E) (hE0 : E ≠ 0) (w : World) (h : Reads w B0 A len 3 (l.flatMap cEdit)) (hB0 : B0 ≤ w.heap.size) :
    Calls Tryd.prog 9 #[.string s, .slice A len c] w fun e w' => e = .returned (.tuple #[.slice none 0 0, .int .i64 E]) ∧ Below w.heap.size w w' := by
  have hck := fun w h hB0 => check_any s.size (by omega) A len c B0 l hlen hl ho w h hB0
  rw [hE] at hck
  have Hck := Lib.hid hck
  clear hck hE ho hl
  have q5 : (E != 0) = true := by simpa using hE0
  go_enter Tryd.func9, Tryd.ntmps9
  go_wp2_with fail
  refine (Hck.out _ h hB0).mono ?_
  rintro e w1 ⟨rfl, hb1⟩
  go_wp2
  go_ret2
  exact ⟨rfl, hb1⟩

end Go.Proofs.YtmephgemokngnaaDoor
