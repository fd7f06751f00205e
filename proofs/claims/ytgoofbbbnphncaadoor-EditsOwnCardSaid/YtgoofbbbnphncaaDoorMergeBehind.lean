/- The walk of merge.Behind, and of 'merges'. -/
import Derived.Test.YtgoofbbbnphncaaDoorMergeWalk
namespace Go.Proofs.YtgoofbbbnphncaaDoor
open Go.RowKit
set_option linter.unusedVariables false

theorem ownsRow_far {w : World} {B size n : Nat} {e : TypeId} {v : Value} {xs : List Value} {g : Nat} (h : w.ownsRow B e size v n xs) (hne : v.ownBlock ≠ some g) (i : Nat) (u : Value) : (w.setCell ⟨g, i, none⟩ u).ownsRow B e size v n xs := by
  refine ⟨h.1, ?_⟩
  rcases h.2 with h0 | ⟨g', cap, cur, hv, hb, hg, rest⟩
  · exact .inl h0
  · exact .inr ⟨g', cap, cur, hv, hb, by rw [Below.heap_setCell w ⟨g, i, none⟩ u g' (by rintro rfl; exact hne (by rw [hv]; rfl))]; exact hg, rest⟩

theorem ownsRow_below {w w' : World} {B size n : Nat} {e : TypeId} {v : Value} {xs : List Value} (h : w.ownsRow B e size v n xs) (hb : Below w.heap.size w w') : w'.ownsRow B e size v n xs := by
  have hlt := h.lt
  refine ⟨h.1, ?_⟩
  rcases h.2 with h0 | ⟨g', cap, cur, hv, hB, hg, rest⟩
  · exact .inl h0
  · exact .inr ⟨g', cap, cur, hv, hB, by rw [hb.block g' (hlt g' (by rw [hv]; rfl)).2]; exact hg, rest⟩

theorem moved_bd {n : Int} (hn : n ≤ 200) : ∀ {l : List Ed} (p : Int), (∀ x ∈ l, 0 ≤ x.1 ∧ 0 ≤ x.2.1 ∧ x.1 + x.2.1 ≤ n ∧ x.2.2.size ≤ 40) → -200 * (l.length : Int) ≤ movedE l p ∧ movedE l p ≤ 40 * l.length
  | [], p, _ => by simp [movedE]
  | x :: l, p, h => by
    obtain ⟨a, b, c, d⟩ := h x (by simp)
    have := moved_bd hn p (fun y hy => h y (by simp [hy]) : ∀ y ∈ l, _)
    rw [movedE, List.length_cons]
    split <;> omega

/-- What Behind tells. -/
def ToldBehind (n : Int) (a b : List Ed) (w : World) (e : Ending) (w' : World) : Prop :=
  Below w.heap.size w w' ∧ ((bothE n a b ≠ 0 ∧ e = .returned (.tuple #[.slice none 0 0, .int .i64 (bothE n a b)])) ∨
    (bothE n a b = 0 ∧ ∃ A c, e = .returned (.tuple #[.slice A (behindE a b).length c, .int .i64 0]) ∧ Reads w' w'.heap.size A (behindE a b).length 3 ((behindE a b).flatMap cEdit) ∧ (behindE a b).length ≤ c ∧ c ≤ maxLen))

def ToldBehindO (n : Int) (a b : List Ed) (w : World) (e : Ending) (w' : World) : Prop :=
  Below w.heap.size w w' ∧ ((bothE n a b ≠ 0 ∧ e = .returned (.tuple #[.slice none 0 0, .int .i64 (bothE n a b)])) ∨
    (bothE n a b = 0 ∧ ∃ A c, e = .returned (.tuple #[.slice A (behindE a b).length c, .int .i64 0]) ∧ w'.ownsRow w.heap.size 42 3 (.slice A (behindE a b).length c) (behindE a b).length ((behindE a b).flatMap cEdit) ∧ (behindE a b).length ≤ c ∧ c ≤ maxLen))

set_option maxRecDepth 100000 in
set_option maxHeartbeats 8000000 in
theorem behind_own (n : Int) (hn : -9223372036854775808 ≤ n ∧ n ≤ 9223372036854775807) (A A' : Option Addr) (la lb ca cb B : Nat) (a b : List Ed) (hla : la ≤ 4398046511104) (hlb : lb ≤ 4398046511104) (ha : a.length = la) (hb : b.length = lb) (oa : OkEds a) (ob : OkEds b)
    (w : World) (ra : Reads w B A la 3 (a.flatMap cEdit)) (rb : Reads w B A' lb 3 (b.flatMap cEdit)) (hB : B ≤ w.heap.size) :
    Calls Tryd.prog 31 #[.int .i64 n, .slice A la ca, .slice A' lb cb] w (ToldBehindO n a b w) := by
  have H1 := Lib.hid (both_any n hn A A' la lb ca cb B a b hla hlb ha hb oa ob)
  by_cases h0 : bothE n a b = 0
  · have hcm : checkM n a b = 0 := by
      unfold bothE at h0
      by_cases h : checkM n a b = 0
      · exact h
      · rw [if_pos h] at h0; exact absurd h0 h
    have hca : checkE n a = 0 := by
      unfold checkM at hcm
      by_cases h : checkE n a = 0
      · exact h
      · rw [if_pos h] at hcm; exact hcm
    have hcb : checkE n b = 0 := by
      unfold checkM at hcm
      rw [if_neg (by simpa using hca)] at hcm; exact hcm
    obtain ⟨n0, n1, la20, oka, _⟩ := checkE_ok hca
    obtain ⟨_, _, lb20, okb, _⟩ := checkE_ok hcb
    have Oa := Lib.hid (ok_all n1 oka)
    have Ob := Lib.hid (ok_all n1 okb)
    have Ha := Lib.hid ha
    have Hb := Lib.hid hb
    have hla20 : la ≤ 20 := by omega
    have hlb20 : lb ≤ 20 := by omega
    have h1 : ∀ w, Reads w B A la 3 (a.flatMap cEdit) → Reads w B A' lb 3 (b.flatMap cEdit) → B ≤ w.heap.size → Calls Tryd.prog 30 #[.int .i64 n, .slice A la ca, .slice A' lb cb] w fun e w' => (∃ A c, e = .returned (.tuple #[.slice A (mergeE a b).length c, .int .i64 0])) ∧ Below w.heap.size w w' := fun w ra rb hB =>
      (H1.out w ra rb hB).mono fun e w' ⟨hb, h⟩ => by
        rcases h with ⟨h, _⟩ | ⟨_, A, c, h, _⟩
        · exact absurd h0 h
        · exact ⟨⟨A, c, h⟩, hb⟩
    have HB := Lib.hid h1
    unfold ToldBehindO
    rw [h0]
    clear H1 h1 h0 hcm hca hcb oka okb ha hb oa ob la20 lb20
    go_enter Tryd.func31, Tryd.ntmps31
    go_wp2_with fail
    refine (HB.out w ra rb hB).mono ?_
    rintro e w1 ⟨⟨A1, c1, rfl⟩, hb1⟩
    have ra := ra.below' hb1 hB
    have rb := rb.below' hb1 hB
    have hB1 : B ≤ w1.heap.size := Nat.le_trans hB hb1.size
    obtain ⟨BB, hBB⟩ : ∃ BB, BB = w1.heap.size := ⟨_, rfl⟩
    have hBB2 : BB ≤ w1.heap.size := by omega
    have hBBB : B ≤ BB := by omega
    have hwBB : w.heap.size ≤ BB := by rw [hBB]; exact hb1.size
    clear hBB HB hB hB1
    go_wp2
    go_loopw [10, 12, 13, 14, 16, 29, 35] (fun ov _ _ _ _ iv _ wr => ∃ (i m c3 : Nat) (A3 : Option Addr), i ≤ lb ∧ iv = .int .i64 (i : Int) ∧ ov = .slice A3 m c3 ∧ m ≤ i ∧ Hid (m = (behindE a (b.take i)).length) ∧
        wr.ownsRow BB 42 3 (.slice A3 m c3) m ((behindE a (b.take i)).flatMap cEdit) ∧ Below BB w1 wr) (fun _ _ _ _ _ iv _ _ => lb - (intOf iv).toNat)
    case atStart => exact ⟨0, 0, 0, none, Nat.zero_le _, rfl, rfl, Nat.le_refl _, Lib.hid rfl, World.ownsRow_nil _ _ _ _, Below.refl _ _⟩
    case round =>
      obtain ⟨i, m, c3, A3, hi, rfl, rfl, hm, Hm, hown, hbr⟩ := hrel
      have hBBr : BB ≤ wr.heap.size := Nat.le_trans hBB2 hbr.size
      by_cases hlt : i < lb
      · have h := rb.below (hbr.mono hBBB)
        obtain ⟨bx, o, hA0, hbB, hc⟩ := h.2 (by omega)
        have c0 := hc (i * 3 + 0) (by rw [flat_length cEdit 3 cEdit_len, Hb.out]; omega)
        have c1 := hc (i * 3 + 1) (by rw [flat_length cEdit 3 cEdit_len, Hb.out]; omega)
        have c2 := hc (i * 3 + 2) (by rw [flat_length cEdit 3 cEdit_len, Hb.out]; omega)
        have dE : Ed := (0, 0, ByteArray.empty)
        rw [flat_getD cEdit 3 cEdit_len dE b i _ (by rw [Hb.out]; omega) (by omega)] at c0 c1 c2
        simp only [cEdit, List.getD_cons_zero, List.getD_cons_succ, Nat.add_zero, ← Nat.add_assoc] at c0 c1 c2
        have hmem : b.getD i dE ∈ b := by rw [getD_some _ _ _ (by rw [Hb.out]; omega)]; exact List.getElem_mem _
        have htk := take_succ_getD b i dE (by rw [Hb.out]; omega)
        have hx := Ob.out _ hmem
        generalize b.getD i dE = x at *
        have HX := Lib.hid hx
        have hsn := behindE_snoc a (b.take i) x
        rw [← htk] at hsn
        have Hsn := Lib.hid hsn
        have hb' : bx < wr.heap.size := by omega
        have hX := Blk.new wr 42 #[.int .i64 (x.1), .int .i64 (x.2.1), .string (x.2.2)]
        have hbx := hbr.alloc hBBr (Obj.cells #[.int .i64 (x.1), .int .i64 (x.2.1), .string (x.2.2)] 42)
        have hownx := hown.alloc (Obj.cells #[.int .i64 (x.1), .int .i64 (x.2.1), .string (x.2.2)] 42)
        have hne : (Value.slice A3 m c3).ownBlock ≠ some wr.heap.size := fun hh => by have := (hown.lt _ hh).2; omega
        have hgB : BB ≤ wr.heap.size := hBBr
        have Hne := Lib.hid hne
        clear hmem htk hx hc h hsn hne
        subst hA0
        go_wp2
        generalize hwx : wr.alloc (Obj.cells #[.int .i64 (x.1), .int .i64 (x.2.1), .string (x.2.2)] 42) = wx at *
        generalize wr.heap.size = g at *
        clear hwx c0 c1 c2 hbr hBBr hb' hown
        have hBBx : BB ≤ wx.heap.size := Nat.le_trans hBB2 hbx.size
        clear hBBx
        go_loopw [13, 14, 16, 35] (fun mv av _ jv wr => ∃ (j : Nat) (also : Bool), j ≤ la ∧ jv = .int .i64 (j : Int) ∧ mv = .int .i64 (movedE (a.take j) x.1) ∧ av = .bool also ∧ Hid (also = true ↔ x ∈ a.take j) ∧ Below wx.heap.size wx wr) (fun _ _ _ jv _ => la - (intOf jv).toNat)
        case atStart => exact ⟨0, false, Nat.zero_le _, rfl, rfl, rfl, Lib.hid (by simp), Below.refl _ _⟩
        case round =>
          obtain ⟨j, also, hj, rfl, rfl, rfl, Hal, hbi⟩ := hrel
          have hbw : Below BB w1 wr := hbx.trans (hbi.mono (Nat.le_trans hBB2 hbx.size))
          have hBBr : BB ≤ wr.heap.size := Nat.le_trans hBB2 hbw.size
          have hXr := hX.after hbi
          have x0 : wr.cell? ⟨g, 0, none⟩ = some (.int .i64 (x.1)) := hXr.cell 0
          have x1 : wr.cell? ⟨g, 1, none⟩ = some (.int .i64 (x.2.1)) := hXr.cell 1
          have x2 : wr.cell? ⟨g, 2, none⟩ = some (.string (x.2.2)) := hXr.cell 2
          have f0 : wr.frozen? ⟨g, 0, none⟩ = false := hXr.frozen 0
          have hgr : g < wr.heap.size := hXr.lt
          obtain ⟨m1, m2⟩ := moved_bd (l := a.take j) n1 x.1 (fun y hy => Oa.out y (List.mem_of_mem_take hy))
          rw [List.length_take, Ha.out] at m1 m2
          have hxb := HX.out
          by_cases hjt : j < la
          · have h := ra.below (hbw.mono hBBB)
            obtain ⟨by_, o2, hA1, hbB2, hd⟩ := h.2 (by omega)
            have d0 := hd (j * 3 + 0) (by rw [flat_length cEdit 3 cEdit_len, Ha.out]; omega)
            have d1 := hd (j * 3 + 1) (by rw [flat_length cEdit 3 cEdit_len, Ha.out]; omega)
            have d2 := hd (j * 3 + 2) (by rw [flat_length cEdit 3 cEdit_len, Ha.out]; omega)
            have dE : Ed := (0, 0, ByteArray.empty)
            rw [flat_getD cEdit 3 cEdit_len dE a j _ (by rw [Ha.out]; omega) (by omega)] at d0 d1 d2
            simp only [cEdit, List.getD_cons_zero, List.getD_cons_succ, Nat.add_zero, ← Nat.add_assoc] at d0 d1 d2
            have hmem : a.getD j dE ∈ a := by rw [getD_some _ _ _ (by rw [Ha.out]; omega)]; exact List.getElem_mem _
            have htk := take_succ_getD a j dE (by rw [Ha.out]; omega)
            have hy := Oa.out _ hmem
            generalize a.getD j dE = y at *
            have hms := movedE_snoc (a.take j) y x.1
            rw [← htk] at hms
            have Hms := Lib.hid hms
            have Htky := Lib.hid htk
            have hb' : by_ < wr.heap.size := by omega
            have hbi2 : Below wx.heap.size wx (wr.alloc (Obj.cells #[.int .i64 (y.1), .int .i64 (y.2.1), .string (y.2.2)] 42)) := hbi.alloc hbi.size _
            have hal2 : (x ∈ a.take (j + 1)) ↔ (x ∈ a.take j ∨ x = y) := by rw [htk, List.mem_append, List.mem_singleton]
            have Hal2 := Lib.hid hal2
            have heq := eqEdit3 y x
            have hgd := guardEdit
            generalize movedE (a.take j) x.1 = mv at *
            clear hmem htk hd h hXr hms hal2 hBBr hbw
            subst hA1
            by_cases hyx : y = x
            · rw [decide_eq_true hyx] at heq
              have q1 : decide (y.1 < x.1) = false := decide_eq_false (by rw [hyx]; omega)
              have Hyx := Lib.hid hyx
              clear hyx
              go_wp2
              go_roundw
              case rel =>
                refine ⟨j + 1, true, by omega, by go_num, ?_, rfl, Lib.hid ?_, hbi2⟩
                · rw [Hms.out, Hyx.out, if_neg (by omega), Int.add_zero]
                · rw [Hal2.out]; simp [Hyx.out]
              case measure => simp only [intOf]; omega
            · rw [decide_eq_false hyx] at heq
              have Hyx := Lib.hid hyx
              clear hyx
              by_cases hlt2 : y.1 < x.1
              · have q1 : decide (y.1 < x.1) = true := decide_eq_true hlt2
                go_wp2
                go_roundw
                case rel =>
                  refine ⟨j + 1, also, by omega, by go_num, ?_, rfl, Lib.hid ?_, hbi2⟩
                  · rw [Hms.out, if_pos hlt2]
                  · rw [Hal2.out, Hal.out]; exact ⟨.inl, fun h => h.elim id (fun e => absurd e.symm Hyx.out)⟩
                case measure => simp only [intOf]; omega
              · have q1 : decide (y.1 < x.1) = false := decide_eq_false hlt2
                go_wp2
                go_roundw
                case rel =>
                  refine ⟨j + 1, also, by omega, by go_num, ?_, rfl, Lib.hid ?_, hbi2⟩
                  · rw [Hms.out, if_neg hlt2, Int.add_zero]
                  · rw [Hal2.out, Hal.out]; exact ⟨.inl, fun h => h.elim id (fun e => absurd e.symm Hyx.out)⟩
                case measure => simp only [intOf]; omega
          · have hjl : j = la := by omega
            have ea : a.take j = a := List.take_of_length_le (by rw [Ha.out]; omega)
            rw [ea] at m1 m2 Hal ⊢
            have hown := ownsRow_below hownx hbi
            have hsn := Hsn.out
            generalize hmv : movedE a x.1 = mv at *
            cases also with
            | true =>
              rw [if_pos (Hal.out.1 rfl), List.append_nil] at hsn
              have Hsn2 := Lib.hid hsn
              clear hsn hXr
              go_wp2
              go_roundw
              case rel => exact ⟨i + 1, m, c3, A3, by omega, by go_num, rfl, by omega, Lib.hid (by rw [Hsn2.out]; exact Hm.out), by rw [Hsn2.out]; exact hown, hbw⟩
              case measure => simp only [intOf]; omega
            | false =>
              rw [if_neg (fun h => by have := Hal.out.2 h; cases this)] at hsn
              have Hsn2 := Lib.hid hsn
              have hbW : Below BB w1 (wr.setCell ⟨g, 0, none⟩ (.int .i64 (x.1 + mv))) := hbw.setCell hgB _
              have hownW := ownsRow_far hown Hne.out 0 (.int .i64 (x.1 + mv))
              have hBBW : BB ≤ (wr.setCell ⟨g, 0, none⟩ (.int .i64 (x.1 + mv))).heap.size := by rw [size_setCell]; exact hBBr
              clear hsn hXr hown
              go_wp2_with (first | (at_builtin; go_must (refine wpList_append_new _ 23 (.tmp 63) (.tmp 65) rfl rfl BB 42 infoEdit Tryd.underlying23 rfl (by decide) A3 m c3 _ rfl hownW #[.int .i64 (x.1 + mv), .int .i64 (x.2.1), .string (x.2.2)] 1 (by rw [size_setCell]; rfl) rfl (by simp [Value.oneCell']) (by unfold maxLen; omega) (by omega) hBBW ?_); intro A4 c4 w4 hown4 hb4 hg4))
              go_roundw
              case rel =>
                refine ⟨i + 1, m + 1, c4, A4, by omega, by go_num, rfl, by omega, Lib.hid (by rw [Hsn2.out, List.length_append, ← Hm.out]; rfl), ?_, hbW.trans hb4⟩
                rw [Hsn2.out, flat_snoc]; exact hown4
              case measure => simp only [intOf]; omega
      · have e : b.take i = b := List.take_of_length_le (by rw [Hb.out]; omega)
        rw [e] at hown Hm
        have hcp := own_cap hown
        have hcm := own_max hown
        have hrr := own_low hown hwBB
        have hbw : Below w.heap.size w wr := hb1.trans (hbr.mono hwBB)
        clear hown e hbr hb1
        go_wp2
        go_ret2
        refine ⟨hbw, ?_⟩
        rw [← Hm.out]
        simp only [ne_eq, not_true_eq_false, false_and, true_and, false_or]
        exact ⟨A3, c3, rfl, hrr, hcp, hcm⟩
  · have h2 : ∀ w, Reads w B A la 3 (a.flatMap cEdit) → Reads w B A' lb 3 (b.flatMap cEdit) → B ≤ w.heap.size → Calls Tryd.prog 30 #[.int .i64 n, .slice A la ca, .slice A' lb cb] w fun e w' => e = .returned (.tuple #[.slice none 0 0, .int .i64 (bothE n a b)]) ∧ Below w.heap.size w w' := fun w ra rb hB =>
      (H1.out w ra rb hB).mono fun e w' ⟨hb, h⟩ => by
        rcases h with ⟨_, h⟩ | ⟨h, _⟩
        · exact ⟨h, hb⟩
        · exact absurd h h0
    have q1 : (bothE n a b != 0) = true := by simpa using h0
    unfold ToldBehindO
    generalize bothE n a b = E at *
    have H0 := Lib.hid h0
    have HB := Lib.hid h2
    clear h0 h2 H1 ha hb oa ob
    go_enter Tryd.func31, Tryd.ntmps31
    go_wp2_with fail
    refine (HB.out w ra rb hB).mono ?_
    rintro e w1 ⟨rfl, hb1⟩
    go_wp2
    go_ret2
    exact ⟨hb1, .inl ⟨H0.out, rfl⟩⟩
theorem behind_any (n : Int) (hn : -9223372036854775808 ≤ n ∧ n ≤ 9223372036854775807) (A A' : Option Addr) (la lb ca cb B : Nat) (a b : List Ed) (hla : la ≤ 4398046511104) (hlb : lb ≤ 4398046511104) (ha : a.length = la) (hb : b.length = lb) (oa : OkEds a) (ob : OkEds b)
    (w : World) (ra : Reads w B A la 3 (a.flatMap cEdit)) (rb : Reads w B A' lb 3 (b.flatMap cEdit)) (hB : B ≤ w.heap.size) :
    Calls Tryd.prog 31 #[.int .i64 n, .slice A la ca, .slice A' lb cb] w (ToldBehind n a b w) :=
  (behind_own n hn A A' la lb ca cb B a b hla hlb ha hb oa ob w ra rb hB).mono fun e w' ⟨hb, h⟩ => ⟨hb, h.imp id (fun ⟨h1, A, c, h2, h3, h4⟩ => ⟨h1, A, c, h2, Reads.of_own h3, h4⟩)⟩
end Go.Proofs.YtgoofbbbnphncaaDoor
