/- The walks of trim.apply, trim.script and trim.Many. -/
import Derived.Test.YtmephgemokngnaaDoorTrimP
import Derived.Test.YtmephgemokngnaaDoorApply
import Derived.Test.YtmephgemokngnaaDoorEditLaws
import Derived.Test.YtmephgemokngnaaDoorAppendAll
import Derived.Test.YtmephgemokngnaaDoorSlice
import Derived.Test.YtmephgemokngnaaDoorTail
import Derived.Test.YtmephgemokngnaaDoorEqual
import Derived.Test.YtmephgemokngnaaDoorArgs
namespace Go.Proofs.YtmephgemokngnaaDoor
open Go.RowKit
set_option linter.unusedVariables false

def cCell (x : Cell) : List Value := [.int .i64 x.1, .int .u8 (x.2.toNat : Int)]
theorem cCell_len (x : Cell) : (cCell x).length = 2 := rfl
theorem one_cells (l : List Cell) : ∀ u ∈ l.flatMap cCell, u.oneCell' = true := fun u hu => by
  obtain ⟨x, _, hx⟩ := List.mem_flatMap.1 hu
  simp only [cCell, List.mem_cons, List.not_mem_nil, or_false] at hx
  rcases hx with rfl | rfl <;> rfl
theorem infoCell : (Tryd.prog.info? 65).map (fun i => (i.zero, i.size, i.bytes)) = some (some (.agg #[.int .i64 0, .int .u8 0]), 2, 16) := by kernel_rfl
theorem buildCell (a0 a1 : Int) (w : World) : (Instr.build 65 #[(0, .int .i64 a0), (1, .int .u8 a1)]).run Tryd.prog w = .ok (.agg #[.int .i64 a0, .int .u8 a1]) w := run_build w 65 _ _ (by kernel_rfl)
theorem sizeCell (w : World) : (sizeOf (Tryd.prog.elem 63)).run Tryd.prog w = .ok 2 w := by
  rw [show Tryd.prog.elem 63 = 65 from by kernel_rfl]
  exact Tryd.sizeOf65 w

section
variable {P : Program} {w : World} {α : Type} {f : α → List Value} {size B n cap : Nat} {A : Option Addr} {l : List α}
/-- 'l[a:b]'. -/
theorem slice_mid (t : TypeId) (ht : P.underlying t = some (.slice (P.elem t))) (hsz : ∀ w, (sizeOf (P.elem t)).run P w = .ok size w) (hf : ∀ x, (f x).length = size) (h : Reads w B A n size (l.flatMap f)) (hl : l.length = n) {a b : Nat} (hab : a ≤ b) (hb : b ≤ n) (hc : n ≤ cap) :
    ∃ A' c', (∀ w', (Instr.slice t (.slice A n cap) (some (.int .i64 (a : Int))) (some (.int .i64 (b : Int))) none).run P w' = .ok (.slice A' (b - a) c') w') ∧ Reads w B A' (b - a) size (((l.take b).drop a).flatMap f) := by
  refine ⟨if cap = a then A else A.map (·.add (a * size)), cap - a, fun w' => ?_, ?_⟩
  · rw [run_slice_lh w' t A n cap ht .i64 .i64 (a : Int) (b : Int) (by omega) (by omega) (by omega), hsz, Int.toNat_natCast, Int.toNat_natCast]; rfl
  · rcases Nat.eq_or_lt_of_le hab with hk | hk
    · subst hk
      rw [Nat.sub_self, List.drop_of_length_le (by rw [List.length_take]; omega)]
      exact Reads.empty
    · obtain ⟨bb, o, e, _⟩ := h.2 (by omega)
      subst e
      rw [if_neg (by omega)]
      show Reads w B (some (Addr.add ⟨bb, o, none⟩ (a * size))) (b - a) size _
      rw [add_at]
      exact (h.front hf hl hb).back hf (by rw [List.length_take]; omega) hab
end

theorem okE_at {n : Int} {es : List Ed} (h : OkE n true 0 es) (hn : 0 ≤ n) (k : Nat) (d : Ed) (hk : k < es.length) : 0 ≤ endOf 0 (es.take k) ∧ endOf 0 (es.take k) ≤ (es.getD k d).1 ∧ 0 ≤ (es.getD k d).1 ∧ 0 ≤ (es.getD k d).2.1 ∧ (es.getD k d).1 + (es.getD k d).2.1 ≤ n ∧ (es.getD k d).2.2.size ≤ 40 := by
  have e : es = es.take k ++ es.drop k := (List.take_append_drop k es).symm
  have h' := h
  rw [e] at h'
  obtain ⟨h1, h2⟩ := h'.append
  have he := h1.endOf_le (Int.le_refl 0) hn
  rw [drop_getD es k d hk] at h2
  obtain ⟨a, b, c, dd, _, f, _⟩ := h2
  refine ⟨he.1, ?_, a, b, c, dd⟩
  cases hz : (es.take k).isEmpty with
  | false => have := f (by rw [hz]; rfl); omega
  | true =>
    have : es.take k = [] := List.isEmpty_iff.1 hz
    rw [this]
    exact a

set_option maxRecDepth 100000 in
set_option maxHeartbeats 8000000 in
theorem trimApply_ok (A A' : Option Addr) (la ca le ce B : Nat) (l : List Cell) (es : List Ed) (hla : l.length = la) (hle : es.length = le) (hca : la ≤ ca) (hE : checkE (la : Nat) es = 0)
    (w : World) (rl : Reads w B A la 2 (l.flatMap cCell)) (re : Reads w B A' le 3 (es.flatMap cEdit)) (hB : B ≤ w.heap.size) :
    Calls Tryd.prog 31 #[.slice A la ca, .slice A' le ce] w fun e w' => ∃ A2 n2 c2, e = .returned (.slice A2 n2 c2) ∧ w'.ownsRow w.heap.size 65 2 (.slice A2 n2 c2) n2 ((applyC l 0 es).flatMap cCell) ∧ Below w.heap.size w w' := by
  obtain ⟨n0, n1, le20, ok, _⟩ := checkE_ok hE
  have la200 : la ≤ 200 := by omega
  have hle20 : le ≤ 20 := by omega
  have Hok := Lib.hid ok
  have Hla := Lib.hid hla
  have Hle := Lib.hid hle
  obtain ⟨BB, hBB⟩ : ∃ BB, BB = w.heap.size := ⟨_, rfl⟩
  rw [← hBB]
  have hBB2 : BB ≤ w.heap.size := by omega
  have hBBB : B ≤ BB := by omega
  have hcv := fun w s => run_bytes_of_string (P := Tryd.prog) w 9 61 5 s Tryd.underlying9 Tryd.underlying61 Tryd.underlying5
  clear hE n0 n1 le20 ok hla hle hBB hB
  go_enter Tryd.func31, Tryd.ntmps31
  go_wp2
  go_loopw [5, 6, 8, 10, 13, 28] (fun ov av _ _ iv _ wr => ∃ (k a m c3 : Nat) (A3 : Option Addr), k ≤ le ∧ iv = .int .i64 (k : Int) ∧ av = .int .i64 (a : Int) ∧ ov = .slice A3 m c3 ∧ m ≤ 240 * k ∧ a ≤ la ∧ Hid ((a : Int) = endOf 0 (es.take k)) ∧
      wr.ownsRow BB 65 2 (.slice A3 m c3) m ((frontC l 0 (es.take k)).flatMap cCell) ∧ Below BB w wr) (fun _ _ _ _ iv _ _ => le - (intOf iv).toNat)
  case atStart => exact ⟨0, 0, 0, 0, none, Nat.zero_le _, rfl, rfl, rfl, Nat.le_refl _, Nat.zero_le _, Lib.hid rfl, World.ownsRow_nil _ _ _ _, Below.refl _ _⟩
  case round =>
    obtain ⟨k, a, m, c3, A3, hk, rfl, rfl, rfl, hm, haa, Ha, hown, hbr⟩ := hrel
    have hBBr : BB ≤ wr.heap.size := Nat.le_trans hBB2 hbr.size
    by_cases hlt : k < le
    · have h := re.below (hbr.mono hBBB)
      obtain ⟨bx, o, hA0, hbB, hc⟩ := h.2 (by omega)
      have c0 := hc (k * 3 + 0) (by rw [flat_length cEdit 3 cEdit_len, Hle.out]; omega)
      have c1 := hc (k * 3 + 1) (by rw [flat_length cEdit 3 cEdit_len, Hle.out]; omega)
      have c2 := hc (k * 3 + 2) (by rw [flat_length cEdit 3 cEdit_len, Hle.out]; omega)
      have dE : Ed := (0, 0, ByteArray.empty)
      rw [flat_getD cEdit 3 cEdit_len dE es k _ (by rw [Hle.out]; omega) (by omega)] at c0 c1 c2
      simp only [cEdit, List.getD_cons_zero, List.getD_cons_succ, Nat.add_zero, ← Nat.add_assoc] at c0 c1 c2
      obtain ⟨e0, e1, e2, e3, e4, e5⟩ := okE_at Hok.out (by omega) k dE (by rw [Hle.out]; omega)
      have htk := take_succ_getD es k dE (by rw [Hle.out]; omega)
      have hfs := frontC_snoc l (es.getD k dE) (es.take k) 0
      have hes := endOf_snoc (es.getD k dE) (es.take k) 0
      rw [← htk] at hfs hes
      rw [← Ha.out] at e0 e1 hfs
      generalize es.getD k dE = x at *
      obtain ⟨x0, x1, x2⟩ := x
      simp only at c0 c1 c2 e1 e2 e3 e4 e5 hfs hes
      obtain ⟨i, rfl⟩ : ∃ i : Nat, x0 = i := ⟨x0.toNat, by omega⟩
      rw [Int.toNat_natCast, Int.toNat_natCast, Int.toNat_zero] at hfs
      obtain ⟨S, sc, hS, hrS⟩ := slice_mid (P := Tryd.prog) 63 (by kernel_rfl) sizeCell cCell_len rl Hla.out (show a ≤ i by omega) (show i ≤ la by omega) hca
      have hX := Blk.new wr 37 #[.int .i64 (i : Int), .int .i64 x1, .string x2]
      have hbx := hbr.alloc hBBr (Obj.cells #[.int .i64 (i : Int), .int .i64 x1, .string x2] 37)
      have hownx := hown.alloc (Obj.cells #[.int .i64 (i : Int), .int .i64 x1, .string x2] 37)
      have hne : (Value.slice A3 m c3).ownBlock ≠ some wr.heap.size := fun hh => by have := (hown.lt _ hh).2; omega
      have hb' : bx < wr.heap.size := by omega
      have Hfs := Lib.hid hfs
      have Hes := Lib.hid hes
      have Hne := Lib.hid hne
      have HX := Lib.hid hX
      have hgB : BB ≤ wr.heap.size := hBBr
      have hrS2 := hrS.below ((hbx).mono hBBB)
      have hBBx : BB ≤ (wr.alloc (Obj.cells #[.int .i64 (i : Int), .int .i64 x1, .string x2] 37)).heap.size := by simp; omega
      clear hc h hfs hes hne hrS hX htk
      subst hA0
      go_wp2_with (first | (at_builtin; go_must (refine wpList_append_all rfl (.tmp 17) (.tmp 22) 63 rfl BB 65 infoCell Tryd.underlying63 rfl (by decide) A3 m c3 _ rfl hownx S (i - a) sc B _ rfl hrS2 (one_cells _) (by unfold maxLen; omega) (by omega) hBBx ?_); intro A4 c4 w4 hown4 hg4; have hX4 := Blk.grown HX.out hg4 Hne.out; have z0 : w4.cell? ⟨wr.heap.size, 0, none⟩ = some (.int .i64 (i : Int)) := hX4.cell 0; have z1 : w4.cell? ⟨wr.heap.size, 1, none⟩ = some (.int .i64 x1) := hX4.cell 1; have z2 : w4.cell? ⟨wr.heap.size, 2, none⟩ = some (.string x2) := hX4.cell 2; have hgl := hX4.lt))
      have hb4 : Below BB w w4 := hbx.grown hg4 hBBx (fun g hg => (hownx.lt g hg).1)
      generalize wr.heap.size = g at *
      rw [← List.flatMap_append] at hown4
      clear z0 z1 hg4 hownx hbx hown hbr c0 c1 c2 hS hrS2 hBBx hBBr HX
      go_wp2
      generalize hW : World.drew _ = W2
      have hrow := OwnB.made (base := 0) x2 _ (grownCap_ge _ _ _ _) (grownCap_le_maxLen _ _ _ _ (by unfold maxLen; omega)) _ _ _ hW (Nat.zero_le _)
      have hb5 : Below w4.heap.size w4 W2 := by rw [← hW]; exact ((Below.refl _ _).alloc (Nat.le_refl _) _).drew
      have hty : ∃ cs fz, W2.heap[w4.heap.size]? = some (.cells cs 5 fz) := by rw [← hW]; exact ⟨_, _, heap_alloc_new w4 _⟩
      clear hW
      generalize grownCap _ _ _ _ = cap2 at *
      have hX5 := hX4.after hb5
      have hown5 := ownsRow_later hown4 hb5
      have hb6 := hb4.trans (hb5.mono (Nat.le_trans hBB2 hb4.size))
      have hcells : ∀ j, j < x2.size → W2.cell? ⟨w4.heap.size, j, none⟩ = some (.int .u8 ((x2.data.toList.getD j 0).toNat : Int)) := fun j hj => hrow.cell j hj
      have hhB : w4.heap.size < W2.heap.size := hrow.lt.2
      generalize w4.heap.size = hh at *
      generalize hL0 : frontC l 0 (es.take k) ++ (l.take i).drop a = L0 at *
      obtain ⟨M, hM⟩ : ∃ M, M = m + (i - a) := ⟨_, rfl⟩
      rw [← hM] at hown5 ⊢
      have hM2 : M ≤ 240 * k + 200 := by omega
      have Hty := Lib.hid hty
      have Hcells := Lib.hid hcells
      have HL0 := Lib.hid hL0
      have Hx2 := Lib.hid (show x2.data.toList.length = x2.size from rfl)
      have hB6 : BB ≤ W2.heap.size := Nat.le_trans hBB2 hb6.size
      have hbdc := buildCell
      clear hown4 hb4 hX4 z2 hb5 hrow hty hcells hL0 hM hcv
      go_loopw [5, 10, 28] (fun ov _ jv wr => ∃ (j c5 : Nat) (A5 : Option Addr), j ≤ x2.size ∧ jv = .int .i64 (j : Int) ∧ ov = .slice A5 (M + j) c5 ∧
          wr.ownsRow BB 65 2 (.slice A5 (M + j) c5) (M + j) ((L0 ++ (x2.data.toList.take j).map (fun b => ((-1 : Int), b))).flatMap cCell) ∧ Below BB w wr ∧ W2.heap.size ≤ wr.heap.size ∧ wr.heap[hh]? = W2.heap[hh]? ∧ wr.heap[g]? = W2.heap[g]?) (fun _ _ jv _ => x2.size - (intOf jv).toNat)
      case atStart => exact ⟨0, c4, A4, Nat.zero_le _, rfl, rfl, by simpa using hown5, hb6, Nat.le_refl _, rfl, rfl⟩
      case round =>
        clear hown5 hb6
        obtain ⟨j, c5, A5, hj, rfl, rfl, hown, hbr, hWr, hk1, hk2⟩ := hrel
        have hBBr : BB ≤ wr.heap.size := Nat.le_trans hBB2 hbr.size
        by_cases hjt : j < x2.size
        · have cj : wr.cell? ⟨hh, j, none⟩ = some (.int .u8 ((x2.data.toList.getD j 0).toNat : Int)) := (cell_heap hk1 j).trans (Hcells.out j hjt)
          have htk := take_succ_getD x2.data.toList j 0 (by rw [Hx2.out]; exact hjt)
          generalize x2.data.toList.getD j 0 = y at *
          have hlist : (L0 ++ (x2.data.toList.take (j + 1)).map (fun b => ((-1 : Int), b))) = (L0 ++ (x2.data.toList.take j).map (fun b => ((-1 : Int), b))) ++ [((-1 : Int), y)] := by rw [htk]; simp
          have Hlist := Lib.hid hlist
          have hhr : hh < wr.heap.size := by omega
          have hgr : g < wr.heap.size := by have := hX5.lt; omega
          have hn1 : (Value.slice A5 (M + j) c5).ownBlock ≠ some hh := by
            obtain ⟨cs, fz, hc⟩ := Hty.out
            exact own_ne_type hown (hk1.trans hc) (by decide)
          have hn2 : (Value.slice A5 (M + j) c5).ownBlock ≠ some g := own_ne_type hown (hk2.trans hX5) (by decide)
          have Hn1 := Lib.hid hn1
          have Hn2 := Lib.hid hn2
          clear htk hlist hn1 hn2
          go_wp2_with (first | (at_builtin; go_must (refine wpList_append_new _ 63 (.tmp 32) (.tmp 35) rfl rfl BB 65 infoCell Tryd.underlying63 rfl (by decide) A5 (M + j) c5 _ rfl hown #[.int .i64 (-1), .int .u8 (y.toNat : Int)] 1 rfl rfl (by simp [Value.oneCell']) (by unfold maxLen; omega) (by omega) hBBr ?_); intro A6 c6 w6 hown6 hb7 hg6))
          go_roundw
          case rel =>
            refine ⟨j + 1, c6, A6, by omega, by go_num, rfl, ?_, hbr.trans hb7, Nat.le_trans hWr hg6.size, ?_, ?_⟩
            · rw [Hlist.out, flat_snoc]; exact hown6
            · rw [hg6.block hh hhr (fun e => Hn1.out e.symm)]; exact hk1
            · rw [hg6.block g hgr (fun e => Hn2.out e.symm)]; exact hk2
          case measure => simp only [intOf]; omega
        · obtain rfl : j = x2.size := by omega
          have hXr : Blk wr g 37 #[.int .i64 (i : Int), .int .i64 x1, .string x2] := hk2.trans hX5
          have z0 : wr.cell? ⟨g, 0, none⟩ = some (.int .i64 (i : Int)) := hXr.cell 0
          have z1 : wr.cell? ⟨g, 1, none⟩ = some (.int .i64 x1) := hXr.cell 1
          obtain ⟨q, hq⟩ : ∃ q : Nat, (i : Int) + x1 = q := ⟨((i : Int) + x1).toNat, by omega⟩
          have wq : IntKind.i64.wrap ((i : Int) + x1) = (q : Int) := by rw [IntKind.wrap_i64]; omega
          have Hq := Lib.hid hq
          have hqa : q ≤ la := by omega
          rw [List.take_of_length_le (Nat.le_of_eq Hx2.out)] at hown
          have hsum : M + x2.size ≤ 240 * (k + 1) := by omega
          clear hXr hq
          go_wp2
          go_roundw
          case rel =>
            refine ⟨k + 1, q, M + x2.size, c5, A5, by omega, by go_num, ?_, rfl, hsum, hqa, Lib.hid (by rw [Hes.out, Hq.out]), ?_, hbr⟩
            · first | rfl | rw [Hq.out]
            · rw [Hfs.out, ← List.append_assoc, HL0.out]; exact hown
          case measure => simp only [intOf]; omega
    · have hkl : k = le := by omega
      have e1 : es.take k = es := List.take_of_length_le (by rw [Hle.out]; omega)
      have hfr := applyC_front l es 0
      rw [e1] at hown Ha
      rw [← Ha.out, Int.toNat_natCast, Int.toNat_zero] at hfr
      obtain ⟨S, sc, hsc, hS, hrS⟩ := slice_back (P := Tryd.prog) 63 (by kernel_rfl) sizeCell cCell_len (rl.below (hbr.mono hBBB)) Hla.out haa hca
      have Hfr := Lib.hid hfr
      have Hnb := Lib.hid hbr
      clear e1 hfr hkl hcv
      go_wp2_with (first | (at_builtin; go_must (refine wpList_append_all rfl (.tmp 44) (.tmp 47) 63 rfl BB 65 infoCell Tryd.underlying63 rfl (by decide) A3 m c3 _ rfl hown S (la - a) sc B _ rfl hrS (one_cells _) (by unfold maxLen; omega) (by omega) hBBr ?_); intro A4 c4 w4 hown4 hg4))
      go_ret
      refine ⟨A4, m + (la - a), c4, rfl, ?_, hbr.grown hg4 hBBr (fun g hg => (hown.lt g hg).1)⟩
      rw [Hfr.out, List.flatMap_append]
      exact hown4
end Go.Proofs.YtmephgemokngnaaDoor
