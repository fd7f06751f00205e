/- The walks of merge.Check, merge.clash and merge.Both. -/
import Derived.Test.YtgoofbbbnphncaaDoorOwnLow
import Derived.Test.YtgoofbbbnphncaaDoorMergeP
import Derived.Test.YtgoofbbbnphncaaDoorEditLaws
import Derived.Test.YtgoofbbbnphncaaDoorEqual
import Derived.Test.YtgoofbbbnphncaaDoorGood
import Derived.Test.YtgoofbbbnphncaaDoorArgs
namespace Go.Proofs.YtgoofbbbnphncaaDoor
open Go.RowKit
set_option linter.unusedVariables false

theorem own_max {w : World} {B size n c : Nat} {e : TypeId} {A : Option Addr} {xs : List Value} (h : w.ownsRow B e size (.slice A n c) n xs) : c ≤ maxLen := by
  rcases h.2 with ⟨h1, h0⟩ | ⟨g, cap, cur, h1, _, _, h2, h3, _⟩
  · injection h1 with _ _ h3
    subst h3
    decide
  · injection h1 with _ _ h4
    subst h4
    exact h3
theorem own_cap {w : World} {B size n c : Nat} {e : TypeId} {A : Option Addr} {xs : List Value} (h : w.ownsRow B e size (.slice A n c) n xs) : n ≤ c := by
  rcases h.2 with ⟨h1, h0⟩ | ⟨g, cap, cur, h1, _, _, h2, _⟩
  · omega
  · injection h1 with _ _ h3
    omega
/-- What is known of the edits that came in. -/
abbrev OkEds (l : List Ed) : Prop := ∀ x ∈ l, (-9223372036854775808 ≤ x.1 ∧ x.1 ≤ 9223372036854775807) ∧ (-9223372036854775808 ≤ x.2.1 ∧ x.2.1 ≤ 9223372036854775807) ∧ (x.2.2).size ≤ 140737488351232

theorem eqEdit3 (x y : Ed) (w : World) : (binOp .eql 42 (.agg #[.int .i64 (x.1), .int .i64 (x.2.1), .string (x.2.2)]) (.agg #[.int .i64 (y.1), .int .i64 (y.2.1), .string (y.2.2)])).run Tryd.prog w = .ok (.bool (decide (x = y))) w := by
  rw [run_eql_struct, eqEdit]
  refine congrArg (fun b => Result.ok (Value.bool b) w) ?_
  by_cases h : x = y
  · subst h; simp
  · rw [decide_eq_false h, nebEdit x y h]
theorem neqEdit3 (x y : Ed) (w : World) : (binOp .neq 42 (.agg #[.int .i64 (x.1), .int .i64 (x.2.1), .string (x.2.2)]) (.agg #[.int .i64 (y.1), .int .i64 (y.2.1), .string (y.2.2)])).run Tryd.prog w = .ok (.bool (!decide (x = y))) w := by
  rw [neqEdit]
  refine congrArg (fun b => Result.ok (Value.bool b) w) ?_
  by_cases h : x = y
  · subst h; simp
  · rw [decide_eq_false h, nebEdit x y h]

set_option maxHeartbeats 1000000 in
theorem clash_any (x y : Ed) (hx : 0 ≤ x.1 ∧ 0 ≤ x.2.1 ∧ x.1 + x.2.1 ≤ 200) (hy : 0 ≤ y.1 ∧ 0 ≤ y.2.1 ∧ y.1 + y.2.1 ≤ 200) (w : World) :
    Calls Tryd.prog 66 #[.agg #[.int .i64 (x.1), .int .i64 (x.2.1), .string (x.2.2)], .agg #[.int .i64 (y.1), .int .i64 (y.2.1), .string (y.2.2)]] w fun e w' => e = .returned (.bool (decide (Clash x y))) ∧ Below w.heap.size w w' := by
  have hn := neqEdit3 x y
  have hg := guardEdit
  by_cases hxy : x = y
  · have hd : decide (Clash x y) = false := decide_eq_false (fun h => h.1 hxy)
    rw [hd]
    rw [decide_eq_true hxy] at hn
    clear hxy hd
    obtain ⟨x0, x1, x2⟩ := x
    obtain ⟨y0, y1, y2⟩ := y
    simp only at *
    go_enter Tryd.func66, Tryd.ntmps66
    go_wp2
    go_ret
    exact ⟨rfl, ((Below.refl _ _).alloc (Nat.le_refl _) _).alloc (by simp) _⟩
  · have hd : decide (Clash x y) = (decide (x.1 ≤ y.1 + y.2.1) && decide (y.1 ≤ x.1 + x.2.1)) := by
      rw [Bool.eq_iff_iff, decide_eq_true_iff, Bool.and_eq_true, decide_eq_true_iff, decide_eq_true_iff]
      exact ⟨fun h => h.2, fun h => ⟨hxy, h⟩⟩
    rw [hd]
    rw [decide_eq_false hxy] at hn
    clear hxy hd
    obtain ⟨x0, x1, x2⟩ := x
    obtain ⟨y0, y1, y2⟩ := y
    simp only at *
    cases q1 : decide (x0 ≤ y0 + y1) with
    | false =>
      go_enter Tryd.func66, Tryd.ntmps66
      go_wp2
      go_ret
      exact ⟨rfl, ((Below.refl _ _).alloc (Nat.le_refl _) _).alloc (by simp) _⟩
    | true =>
      go_enter Tryd.func66, Tryd.ntmps66
      go_wp2
      go_ret
      exact ⟨by simp, ((Below.refl _ _).alloc (Nat.le_refl _) _).alloc (by simp) _⟩

/-- What Both's Check answers. -/
def checkM (n : Int) (a b : List Ed) : Int := if checkE n a ≠ 0 then checkE n a else checkE n b
theorem mergeCheck_any (n : Int) (hn : -9223372036854775808 ≤ n ∧ n ≤ 9223372036854775807) (A A' : Option Addr) (la lb ca cb B : Nat) (a b : List Ed) (hla : la ≤ 4398046511104) (hlb : lb ≤ 4398046511104) (ha : a.length = la) (hb : b.length = lb) (oa : OkEds a) (ob : OkEds b)
    (w : World) (ra : Reads w B A la 3 (a.flatMap cEdit)) (rb : Reads w B A' lb 3 (b.flatMap cEdit)) (hB : B ≤ w.heap.size) :
    Calls Tryd.prog 65 #[.int .i64 n, .slice A la ca, .slice A' lb cb] w fun e w' => e = .returned (.int .i64 (checkM n a b)) ∧ Below w.heap.size w w' := by
  have H1 := Lib.hid (check_any n hn A la ca B a hla ha oa)
  have H2 := Lib.hid (check_any n hn A' lb cb B b hlb hb ob)
  have hcm : checkM n a b = if checkE n a ≠ 0 then checkE n a else checkE n b := rfl
  rw [hcm]
  clear hcm oa ob ha hb
  by_cases h0 : checkE n a = 0
  · rw [if_neg (by simpa using h0)]
    rw [h0] at H1
    generalize checkE n b = E at *
    go_enter Tryd.func65, Tryd.ntmps65
    go_wp2_with fail
    refine (H1.out w ra hB).mono ?_
    rintro e w1 ⟨rfl, hb1⟩
    go_wp2_with fail
    refine (H2.out w1 (rb.below' hb1 hB) (Nat.le_trans hB hb1.size)).mono ?_
    rintro e w2 ⟨rfl, hb2⟩
    go_wp2
    go_ret
    exact ⟨rfl, chain hb2 hb1⟩
  · rw [if_pos h0]
    have q1 : (checkE n a != 0) = true := by simpa using h0
    generalize checkE n a = E at *
    clear h0 H2
    go_enter Tryd.func65, Tryd.ntmps65
    go_wp2_with fail
    refine (H1.out w ra hB).mono ?_
    rintro e w1 ⟨rfl, hb1⟩
    go_wp2
    go_ret
    exact ⟨rfl, hb1⟩

/-- Both's answer: the error. -/
def bothE (n : Int) (a b : List Ed) : Int := if checkM n a b ≠ 0 then checkM n a b else if ∃ x ∈ a, ∃ y ∈ b, Clash x y then 9 else checkE n (mergeE a b)
/-- What Both tells. -/
def ToldBoth (n : Int) (a b : List Ed) (w : World) (e : Ending) (w' : World) : Prop :=
  Below w.heap.size w w' ∧ ((bothE n a b ≠ 0 ∧ e = .returned (.tuple #[.slice none 0 0, .int .i64 (bothE n a b)])) ∨
    (bothE n a b = 0 ∧ ∃ A c, e = .returned (.tuple #[.slice A (mergeE a b).length c, .int .i64 0]) ∧ Reads w' w'.heap.size A (mergeE a b).length 3 ((mergeE a b).flatMap cEdit) ∧ (mergeE a b).length ≤ c ∧ c ≤ maxLen))

def ToldBothO (n : Int) (a b : List Ed) (w : World) (e : Ending) (w' : World) : Prop :=
  Below w.heap.size w w' ∧ ((bothE n a b ≠ 0 ∧ e = .returned (.tuple #[.slice none 0 0, .int .i64 (bothE n a b)])) ∨
    (bothE n a b = 0 ∧ ∃ A c, e = .returned (.tuple #[.slice A (mergeE a b).length c, .int .i64 0]) ∧ w'.ownsRow w.heap.size 42 3 (.slice A (mergeE a b).length c) (mergeE a b).length ((mergeE a b).flatMap cEdit) ∧ (mergeE a b).length ≤ c ∧ c ≤ maxLen))

set_option maxRecDepth 100000 in
set_option maxHeartbeats 8000000 in
theorem both_own (n : Int) (hn : -9223372036854775808 ≤ n ∧ n ≤ 9223372036854775807) (A A' : Option Addr) (la lb ca cb B : Nat) (a b : List Ed) (hla : la ≤ 4398046511104) (hlb : lb ≤ 4398046511104) (ha : a.length = la) (hb : b.length = lb) (oa : OkEds a) (ob : OkEds b)
    (w : World) (ra : Reads w B A la 3 (a.flatMap cEdit)) (rb : Reads w B A' lb 3 (b.flatMap cEdit)) (hB : B ≤ w.heap.size) :
    Calls Tryd.prog 30 #[.int .i64 n, .slice A la ca, .slice A' lb cb] w (ToldBothO n a b w) := by
  have H1 := Lib.hid (mergeCheck_any n hn A A' la lb ca cb B a b hla hlb ha hb oa ob)
  by_cases h0 : checkM n a b = 0
  · have hE : bothE n a b = if ∃ x ∈ a, ∃ y ∈ b, Clash x y then 9 else checkE n (mergeE a b) := by unfold bothE; rw [if_neg (by simpa using h0)]
    have hca : checkE n a = 0 := by
      unfold checkM at h0
      by_cases h : checkE n a = 0
      · exact h
      · rw [if_pos h] at h0; exact h0
    have hcb : checkE n b = 0 := by
      unfold checkM at h0
      rw [if_neg (by simpa using hca)] at h0; exact h0
    obtain ⟨n0, n1, la20, oka, _⟩ := checkE_ok hca
    obtain ⟨_, _, lb20, okb, _⟩ := checkE_ok hcb
    have Oa := Lib.hid (ok_all n1 oka)
    have Ob := Lib.hid (ok_all n1 okb)
    have Ha := Lib.hid ha
    have Hb := Lib.hid hb
    have hla20 : la ≤ 20 := by omega
    have hlb20 : lb ≤ 20 := by omega
    rw [h0] at H1
    have HE := Lib.hid hE
    have HOa := Lib.hid oa
    have HOb := Lib.hid ob
    unfold ToldBothO
    generalize bothE n a b = E at *
    clear h0 hE hca hcb oka okb ha hb oa ob la20 lb20
    go_enter Tryd.func30, Tryd.ntmps30
    go_wp2_with fail
    refine (H1.out w ra rb hB).mono ?_
    rintro e w1 ⟨rfl, hb1⟩
    have hB1 : B ≤ w1.heap.size := Nat.le_trans hB hb1.size
    have ra := ra.below' hb1 hB
    have rb := rb.below' hb1 hB
    clear H1
    go_wp2
    go_loopw [10, 12, 26, 32, 38] (fun _ _ iv _ _ wr => ∃ i : Nat, i ≤ la ∧ iv = .int .i64 (i : Int) ∧ Hid (∀ x ∈ a.take i, ∀ y ∈ b, ¬ Clash x y) ∧ Below w1.heap.size w1 wr) (fun _ _ iv _ _ _ => la - (intOf iv).toNat)
    case atStart => exact ⟨0, Nat.zero_le _, rfl, Lib.hid (by simp), Below.refl _ _⟩
    case round =>
      obtain ⟨i, hi, rfl, Hno, hbr⟩ := hrel
      have hBr : B ≤ wr.heap.size := Nat.le_trans hB1 hbr.size
      by_cases hlt : i < la
      · have h := ra.below' hbr hB1
        obtain ⟨bx, o, hA0, hbB, hc⟩ := h.2 (by omega)
        have c0 := hc (i * 3 + 0) (by rw [flat_length cEdit 3 cEdit_len, Ha.out]; omega)
        have c1 := hc (i * 3 + 1) (by rw [flat_length cEdit 3 cEdit_len, Ha.out]; omega)
        have c2 := hc (i * 3 + 2) (by rw [flat_length cEdit 3 cEdit_len, Ha.out]; omega)
        have dE : Ed := (0, 0, ByteArray.empty)
        rw [flat_getD cEdit 3 cEdit_len dE a i _ (by rw [Ha.out]; omega) (by omega)] at c0 c1 c2
        simp only [cEdit, List.getD_cons_zero, List.getD_cons_succ, Nat.add_zero, ← Nat.add_assoc] at c0 c1 c2
        have hmem : a.getD i dE ∈ a := by rw [getD_some _ _ _ (by rw [Ha.out]; omega)]; exact List.getElem_mem _
        have htk := take_succ_getD a i dE (by rw [Ha.out]; omega)
        have hx := Oa.out _ hmem
        generalize a.getD i dE = x at *
        have HX := Lib.hid hx
        have Hmem := Lib.hid hmem
        have Htk := Lib.hid htk
        have hb' : bx < wr.heap.size := by omega
        clear hmem htk hx hc h
        subst hA0
        have hX := Blk.new wr 42 #[.int .i64 (x.1), .int .i64 (x.2.1), .string (x.2.2)]
        have hbx := hbr.alloc hbr.size (Obj.cells #[.int .i64 (x.1), .int .i64 (x.2.1), .string (x.2.2)] 42)
        go_wp2
        generalize wr.alloc (Obj.cells #[.int .i64 (x.1), .int .i64 (x.2.1), .string (x.2.2)] 42) = wx at *
        generalize wr.heap.size = g at *
        clear c0 c1 c2 hbr hBr hb'
        go_loopw [12, 32] (fun _ jv wr => ∃ j : Nat, j ≤ lb ∧ jv = .int .i64 (j : Int) ∧ Hid (∀ y ∈ b.take j, ¬ Clash x y) ∧ Below wx.heap.size wx wr) (fun _ jv _ => lb - (intOf jv).toNat)
        case atStart => exact ⟨0, Nat.zero_le _, rfl, Lib.hid (by simp), Below.refl _ _⟩
        case round =>
          obtain ⟨j, hj, rfl, Hnj, hbi⟩ := hrel
          have hbw : Below w1.heap.size w1 wr := hbx.trans (hbi.mono hbx.size)
          have hBr : B ≤ wr.heap.size := Nat.le_trans hB1 hbw.size
          by_cases hjt : j < lb
          · have h := rb.below' hbw hB1
            obtain ⟨by_, o2, hA1, hbB2, hd⟩ := h.2 (by omega)
            have d0 := hd (j * 3 + 0) (by rw [flat_length cEdit 3 cEdit_len, Hb.out]; omega)
            have d1 := hd (j * 3 + 1) (by rw [flat_length cEdit 3 cEdit_len, Hb.out]; omega)
            have d2 := hd (j * 3 + 2) (by rw [flat_length cEdit 3 cEdit_len, Hb.out]; omega)
            have dE : Ed := (0, 0, ByteArray.empty)
            rw [flat_getD cEdit 3 cEdit_len dE b j _ (by rw [Hb.out]; omega) (by omega)] at d0 d1 d2
            simp only [cEdit, List.getD_cons_zero, List.getD_cons_succ, Nat.add_zero, ← Nat.add_assoc] at d0 d1 d2
            have hmem : b.getD j dE ∈ b := by rw [getD_some _ _ _ (by rw [Hb.out]; omega)]; exact List.getElem_mem _
            have htk := take_succ_getD b j dE (by rw [Hb.out]; omega)
            have hy := Ob.out _ hmem
            generalize b.getD j dE = y at *
            have HY := Lib.hid hy
            have Hmemy := Lib.hid hmem
            have Htky := Lib.hid htk
            have hb' : by_ < wr.heap.size := by omega
            have hXr := hX.after hbi
            have x0 : wr.cell? ⟨g, 0, none⟩ = some (.int .i64 (x.1)) := hXr.cell 0
            have x1 : wr.cell? ⟨g, 1, none⟩ = some (.int .i64 (x.2.1)) := hXr.cell 1
            have x2 : wr.cell? ⟨g, 2, none⟩ = some (.string (x.2.2)) := hXr.cell 2
            have hgr : g < wr.heap.size := hXr.lt
            have hby : Below w1.heap.size w1 (wr.alloc (Obj.cells #[.int .i64 (y.1), .int .i64 (y.2.1), .string (y.2.2)] 42)) := hbw.alloc hbw.size _
            have hbi2 : Below wx.heap.size wx (wr.alloc (Obj.cells #[.int .i64 (y.1), .int .i64 (y.2.1), .string (y.2.2)] 42)) := hbi.alloc hbi.size _
            clear hmem htk hy hd h hXr
            subst hA1
            go_wp2_with fail
            refine (clash_any x y (by have := HX.out; omega) (by have := HY.out; omega) _).mono ?_
            rintro e w5 ⟨rfl, hb5⟩
            have hbz : Below w1.heap.size w1 w5 := hby.trans (hb5.mono hby.size)
            have hbi5 : Below wx.heap.size wx w5 := hbi2.trans (hb5.mono hbi2.size)
            by_cases hcl : Clash x y
            · rw [decide_eq_true hcl]
              have hE9 : E = 9 := by rw [HE.out, if_pos ⟨x, Hmem.out, y, Hmemy.out, hcl⟩]
              have HE9 := Lib.hid hE9
              clear hE9
              go_wp2
              go_ret2
              refine ⟨chain hbz hb1, .inl ?_⟩
              rw [HE9.out]
              exact ⟨by decide, rfl⟩
            · rw [decide_eq_false hcl]
              go_wp2
              go_roundw
              case rel =>
                refine ⟨j + 1, by omega, by go_num, Lib.hid ?_, hbi5⟩
                rw [Htky.out]
                intro z hz
                rcases List.mem_append.1 hz with hz | hz
                · exact Hnj.out z hz
                · rw [List.mem_singleton.1 hz]; exact hcl
              case measure => simp only [intOf]; omega
          · obtain rfl : j = lb := by omega
            go_wp2
            go_roundw
            case rel =>
              refine ⟨i + 1, by omega, by go_num, Lib.hid ?_, hbw⟩
              rw [Htk.out]
              intro z hz y hy
              rcases List.mem_append.1 hz with hz | hz
              · exact Hno.out z hz y hy
              · rw [List.mem_singleton.1 hz]; exact Hnj.out y (by rw [List.take_of_length_le (by rw [Hb.out]; exact Nat.le_refl _)]; exact hy)
            case measure => simp only [intOf]; omega
      · have hil : i = la := by omega
        have hE2 : E = checkE n (mergeE a b) := by
          rw [HE.out, if_neg]
          rintro ⟨x, hx, y, hy, hcl⟩
          exact Hno.out x (by rw [List.take_of_length_le (by rw [Ha.out, hil]; exact Nat.le_refl _)]; exact hx) y hy hcl
        have HE2 := Lib.hid hE2
        have hra := ra.below' hbr hB1
        have hrb := rb.below' hbr hB1
        have hbw := chain hbr hb1
        have hmm : ∀ z ∈ mergeE a b, z ∈ a ∨ z ∈ b := mem_merge a b
        have hml : (mergeE a b).length ≤ la + lb := by rw [← Ha.out, ← Hb.out]; exact merge_len a b
        have Hmm := Lib.hid hmm
        have Hml := Lib.hid hml
        clear hE2 HE Hno hi ra rb hbr hb1 hmm hml hil
        obtain ⟨w2, hw2⟩ : ∃ w2, w2 = wr := ⟨_, rfl⟩
        rw [← hw2] at hra hrb hBr hbw ⊢
        obtain ⟨BB, hBB⟩ : ∃ BB, BB = w2.heap.size := ⟨_, rfl⟩
        have hBB2 : BB ≤ w2.heap.size := by omega
        have hBBB : B ≤ BB := by omega
        have hwBB : w.heap.size ≤ BB := by rw [hBB]; exact hbw.size
        clear hw2 hBB hBr hB hB1 Oa Ob
        go_wp2
        go_loopw [13, 14, 15, 62, 95] (fun ov iv kv _ _ wr => ∃ (i k m c3 : Nat) (A3 : Option Addr) (L : List Ed), i ≤ la ∧ k ≤ lb ∧ iv = .int .i64 (i : Int) ∧ kv = .int .i64 (k : Int) ∧ ov = .slice A3 m c3 ∧ m ≤ i + k ∧ Hid (L ++ mergeE (a.drop i) (b.drop k) = mergeE a b) ∧
            wr.ownsRow BB 42 3 (.slice A3 m c3) m (L.flatMap cEdit) ∧ Below BB w2 wr) (fun _ iv kv _ _ _ => la + lb - (intOf iv).toNat - (intOf kv).toNat)
        case atStart => exact ⟨0, 0, 0, 0, none, [], Nat.zero_le _, Nat.zero_le _, rfl, rfl, rfl, Nat.le_refl _, Lib.hid rfl, World.ownsRow_nil _ _ _ _, Below.refl _ _⟩
        case round =>
          clear hlt
          obtain ⟨i, k, m, c3, A3, L, hi, hk, rfl, rfl, rfl, hm, HL, hown, hbr⟩ := hrel
          have hBBr : BB ≤ wr.heap.size := Nat.le_trans hBB2 hbr.size
          have dE : Ed := (0, 0, ByteArray.empty)
          by_cases hia : i < la
          · obtain ⟨bx, o, hA0, hbB, hc⟩ := (hra.below (hbr.mono hBBB)).2 (by omega)
            have c0 := hc (i * 3 + 0) (by rw [flat_length cEdit 3 cEdit_len, Ha.out]; omega)
            have c1 := hc (i * 3 + 1) (by rw [flat_length cEdit 3 cEdit_len, Ha.out]; omega)
            have c2 := hc (i * 3 + 2) (by rw [flat_length cEdit 3 cEdit_len, Ha.out]; omega)
            rw [flat_getD cEdit 3 cEdit_len dE a i _ (by rw [Ha.out]; omega) (by omega)] at c0 c1 c2
            simp only [cEdit, List.getD_cons_zero, List.getD_cons_succ, Nat.add_zero, ← Nat.add_assoc] at c0 c1 c2
            have hda := drop_getD a i dE (by rw [Ha.out]; omega)
            generalize a.getD i dE = x at *
            have q1 : decide ((i : Int) < (la : Int)) = true := decide_eq_true (by omega)
            have q1n : decide (i < la) = true := decide_eq_true hia
            have q2 : ((i : Int) == (la : Int)) = false := by rw [beq_eq_false_iff_ne]; omega
            have hb' : bx < wr.heap.size := by omega
            clear hc
            by_cases hkb : k < lb
            · obtain ⟨by_, o2, hA1, hbB2, hd⟩ := (hrb.below (hbr.mono hBBB)).2 (by omega)
              have d0 := hd (k * 3 + 0) (by rw [flat_length cEdit 3 cEdit_len, Hb.out]; omega)
              have d1 := hd (k * 3 + 1) (by rw [flat_length cEdit 3 cEdit_len, Hb.out]; omega)
              have d2 := hd (k * 3 + 2) (by rw [flat_length cEdit 3 cEdit_len, Hb.out]; omega)
              rw [flat_getD cEdit 3 cEdit_len dE b k _ (by rw [Hb.out]; omega) (by omega)] at d0 d1 d2
              simp only [cEdit, List.getD_cons_zero, List.getD_cons_succ, Nat.add_zero, ← Nat.add_assoc] at d0 d1 d2
              have hdb := drop_getD b k dE (by rw [Hb.out]; omega)
              generalize b.getD k dE = y at *
              have q3 : decide ((k : Int) < (lb : Int)) = true := decide_eq_true (by omega)
              have q3n : decide (k < lb) = true := decide_eq_true hkb
              have q4 : ((k : Int) == (lb : Int)) = false := by rw [beq_eq_false_iff_ne]; omega
              have hb2' : by_ < wr.heap.size := by omega
              have i0 : (0 : Int) ≤ (i : Int) := by omega
              have i1 : (i : Int) < (la : Int) := by omega
              have k0 : (0 : Int) ≤ (k : Int) := by omega
              have k1 : (k : Int) < (lb : Int) := by omega
              have hmc := mergeE_cons x y (a.drop (i + 1)) (b.drop (k + 1))
              clear hd
              subst hA0 hA1
              by_cases hxy : x.1 < y.1
              · have qx : decide (x.1 < y.1) = true := decide_eq_true hxy
                rw [if_pos hxy, ← hda, ← hdb] at hmc
                have Hst := Lib.hid hmc.symm
                clear hmc hda hdb
                go_wp2
                go_quiet (fail)
                have hown := ownsRow_drewN hown nq
                have hbr := below_drewN hbr nq
                have hBBr : BB ≤ (wr.drewN nq).heap.size := hBBr
                have c0 := show (wr.drewN nq).cell? _ = some _ from c0
                have c1 := show (wr.drewN nq).cell? _ = some _ from c1
                have c2 := show (wr.drewN nq).cell? _ = some _ from c2
                have hb' : bx < (wr.drewN nq).heap.size := hb'
                have d0 := show (wr.drewN nq).cell? _ = some _ from d0
                have d1 := show (wr.drewN nq).cell? _ = some _ from d1
                have d2 := show (wr.drewN nq).cell? _ = some _ from d2
                have hb2' : by_ < (wr.drewN nq).heap.size := hb2'
                generalize wr.drewN nq = wq at *
                go_wp2_with (first | (at_builtin; go_must (refine wpList_append_new _ 23 (.tmp 86) (.tmp 91) rfl rfl BB 42 infoEdit Tryd.underlying23 rfl (by decide) A3 m c3 _ rfl hown #[.int .i64 (x.1), .int .i64 (x.2.1), .string (x.2.2)] 1 rfl rfl (by simp [Value.oneCell']) (by unfold maxLen; omega) (by omega) hBBr ?_); intro A4 c4 w4 hown4 hb4 hg4))
                go_roundw
                case rel =>
                  refine ⟨i + 1, k, m + 1, c4, A4, L ++ [x], by omega, by omega, by go_num, by go_num, rfl, by omega, Lib.hid ?_, ?_, hbr.trans hb4⟩
                  · rw [List.append_assoc, ← HL.out]; exact congrArg (L ++ ·) Hst.out
                  · rw [flat_snoc]; exact hown4
                case measure => simp only [intOf]; omega
              · have qx : decide (x.1 < y.1) = false := decide_eq_false hxy
                rw [if_neg hxy] at hmc
                by_cases hyx : y.1 < x.1
                · have qy : decide (y.1 < x.1) = true := decide_eq_true hyx
                  rw [if_pos hyx, ← hda, ← hdb] at hmc
                  have Hst := Lib.hid hmc.symm
                  clear hmc hda hdb
                  go_wp2
                  go_quiet (fail)
                  have hown := ownsRow_drewN hown nq
                  have hbr := below_drewN hbr nq
                  have hBBr : BB ≤ (wr.drewN nq).heap.size := hBBr
                  have c0 := show (wr.drewN nq).cell? _ = some _ from c0
                  have c1 := show (wr.drewN nq).cell? _ = some _ from c1
                  have c2 := show (wr.drewN nq).cell? _ = some _ from c2
                  have hb' : bx < (wr.drewN nq).heap.size := hb'
                  have d0 := show (wr.drewN nq).cell? _ = some _ from d0
                  have d1 := show (wr.drewN nq).cell? _ = some _ from d1
                  have d2 := show (wr.drewN nq).cell? _ = some _ from d2
                  have hb2' : by_ < (wr.drewN nq).heap.size := hb2'
                  generalize wr.drewN nq = wq at *
                  go_wp2
                  go_quiet (fail)
                  have hown := ownsRow_drewN hown nq
                  have hbr := below_drewN hbr nq
                  have hBBr : BB ≤ (wq.drewN nq).heap.size := hBBr
                  have c0 := show (wq.drewN nq).cell? _ = some _ from c0
                  have c1 := show (wq.drewN nq).cell? _ = some _ from c1
                  have c2 := show (wq.drewN nq).cell? _ = some _ from c2
                  have hb' : bx < (wq.drewN nq).heap.size := hb'
                  have d0 := show (wq.drewN nq).cell? _ = some _ from d0
                  have d1 := show (wq.drewN nq).cell? _ = some _ from d1
                  have d2 := show (wq.drewN nq).cell? _ = some _ from d2
                  have hb2' : by_ < (wq.drewN nq).heap.size := hb2'
                  generalize wq.drewN nq = wq2 at *
                  go_wp2_with (first | (at_builtin; go_must (refine wpList_append_new _ 23 (.tmp 113) (.tmp 118) rfl rfl BB 42 infoEdit Tryd.underlying23 rfl (by decide) A3 m c3 _ rfl hown #[.int .i64 (y.1), .int .i64 (y.2.1), .string (y.2.2)] 1 rfl rfl (by simp [Value.oneCell']) (by unfold maxLen; omega) (by omega) hBBr ?_); intro A4 c4 w4 hown4 hb4 hg4))
                  go_roundw
                  case rel =>
                    refine ⟨i, k + 1, m + 1, c4, A4, L ++ [y], by omega, by omega, by go_num, by go_num, rfl, by omega, Lib.hid ?_, ?_, hbr.trans hb4⟩
                    · rw [List.append_assoc, ← HL.out]; exact congrArg (L ++ ·) Hst.out
                    · rw [flat_snoc]; exact hown4
                  case measure => simp only [intOf]; omega
                · have qy : decide (y.1 < x.1) = false := decide_eq_false hyx
                  rw [if_neg hyx, ← hda, ← hdb] at hmc
                  have Hst := Lib.hid hmc.symm
                  clear hmc hda hdb
                  go_wp2
                  go_quiet (fail)
                  have hown := ownsRow_drewN hown nq
                  have hbr := below_drewN hbr nq
                  have hBBr : BB ≤ (wr.drewN nq).heap.size := hBBr
                  have c0 := show (wr.drewN nq).cell? _ = some _ from c0
                  have c1 := show (wr.drewN nq).cell? _ = some _ from c1
                  have c2 := show (wr.drewN nq).cell? _ = some _ from c2
                  have hb' : bx < (wr.drewN nq).heap.size := hb'
                  have d0 := show (wr.drewN nq).cell? _ = some _ from d0
                  have d1 := show (wr.drewN nq).cell? _ = some _ from d1
                  have d2 := show (wr.drewN nq).cell? _ = some _ from d2
                  have hb2' : by_ < (wr.drewN nq).heap.size := hb2'
                  generalize wr.drewN nq = wq at *
                  go_wp2
                  go_quiet (fail)
                  have hown := ownsRow_drewN hown nq
                  have hbr := below_drewN hbr nq
                  have hBBr : BB ≤ (wq.drewN nq).heap.size := hBBr
                  have c0 := show (wq.drewN nq).cell? _ = some _ from c0
                  have c1 := show (wq.drewN nq).cell? _ = some _ from c1
                  have c2 := show (wq.drewN nq).cell? _ = some _ from c2
                  have hb' : bx < (wq.drewN nq).heap.size := hb'
                  have d0 := show (wq.drewN nq).cell? _ = some _ from d0
                  have d1 := show (wq.drewN nq).cell? _ = some _ from d1
                  have d2 := show (wq.drewN nq).cell? _ = some _ from d2
                  have hb2' : by_ < (wq.drewN nq).heap.size := hb2'
                  generalize wq.drewN nq = wq2 at *
                  go_wp2_with (first | (at_builtin; go_must (refine wpList_append_new _ 23 (.tmp 51) (.tmp 56) rfl rfl BB 42 infoEdit Tryd.underlying23 rfl (by decide) A3 m c3 _ rfl hown #[.int .i64 (x.1), .int .i64 (x.2.1), .string (x.2.2)] 1 rfl rfl (by simp [Value.oneCell']) (by unfold maxLen; omega) (by omega) hBBr ?_); intro A4 c4 w4 hown4 hb4 hg4))
                  go_roundw
                  case rel =>
                    refine ⟨i + 1, k + 1, m + 1, c4, A4, L ++ [x], by omega, by omega, by go_num, by go_num, rfl, by omega, Lib.hid ?_, ?_, hbr.trans hb4⟩
                    · rw [List.append_assoc, ← HL.out]; exact congrArg (L ++ ·) Hst.out
                    · rw [flat_snoc]; exact hown4
                  case measure => simp only [intOf]; omega
            · obtain rfl : k = lb := by omega
              have q3 : decide ((k : Int) < (k : Int)) = false := decide_eq_false (by omega)
              have q4 : ((k : Int) == (k : Int)) = true := by simp
              have eb : b.drop k = [] := List.drop_of_length_le (by rw [Hb.out]; exact Nat.le_refl _)
              have hmc : x :: mergeE (a.drop (i + 1)) (b.drop k) = mergeE (a.drop i) (b.drop k) := by rw [eb, mergeE_nil_right, mergeE_nil_right, hda]
              have Hst := Lib.hid hmc
              clear hmc hda eb
              subst hA0
              go_wp2
              go_quiet (fail)
              have hown := ownsRow_drewN hown nq
              have hbr := below_drewN hbr nq
              have hBBr : BB ≤ (wr.drewN nq).heap.size := hBBr
              have c0 := show (wr.drewN nq).cell? _ = some _ from c0
              have c1 := show (wr.drewN nq).cell? _ = some _ from c1
              have c2 := show (wr.drewN nq).cell? _ = some _ from c2
              have hb' : bx < (wr.drewN nq).heap.size := hb'
              generalize wr.drewN nq = wq at *
              go_wp2_with (first | (at_builtin; go_must (refine wpList_append_new _ 23 (.tmp 86) (.tmp 91) rfl rfl BB 42 infoEdit Tryd.underlying23 rfl (by decide) A3 m c3 _ rfl hown #[.int .i64 (x.1), .int .i64 (x.2.1), .string (x.2.2)] 1 rfl rfl (by simp [Value.oneCell']) (by unfold maxLen; omega) (by omega) hBBr ?_); intro A4 c4 w4 hown4 hb4 hg4))
              go_roundw
              case rel =>
                refine ⟨i + 1, k, m + 1, c4, A4, L ++ [x], by omega, by omega, by go_num, by go_num, rfl, by omega, Lib.hid ?_, ?_, hbr.trans hb4⟩
                · rw [List.append_assoc, ← HL.out]; exact congrArg (L ++ ·) Hst.out
                · rw [flat_snoc]; exact hown4
              case measure => simp only [intOf]; omega
          · have hil : i = la := by omega
            have q1 : decide ((i : Int) < (la : Int)) = false := decide_eq_false (by omega)
            have q1n : decide (i < la) = false := decide_eq_false hia
            have q2 : ((i : Int) == (la : Int)) = true := by rw [beq_iff_eq]; omega
            have ea : a.drop i = [] := List.drop_of_length_le (by rw [Ha.out]; omega)
            clear hil
            by_cases hkb : k < lb
            · obtain ⟨by_, o2, hA1, hbB2, hd⟩ := (hrb.below (hbr.mono hBBB)).2 (by omega)
              have d0 := hd (k * 3 + 0) (by rw [flat_length cEdit 3 cEdit_len, Hb.out]; omega)
              have d1 := hd (k * 3 + 1) (by rw [flat_length cEdit 3 cEdit_len, Hb.out]; omega)
              have d2 := hd (k * 3 + 2) (by rw [flat_length cEdit 3 cEdit_len, Hb.out]; omega)
              rw [flat_getD cEdit 3 cEdit_len dE b k _ (by rw [Hb.out]; omega) (by omega)] at d0 d1 d2
              simp only [cEdit, List.getD_cons_zero, List.getD_cons_succ, Nat.add_zero, ← Nat.add_assoc] at d0 d1 d2
              have hdb := drop_getD b k dE (by rw [Hb.out]; omega)
              generalize b.getD k dE = y at *
              have q3 : decide ((k : Int) < (lb : Int)) = true := decide_eq_true (by omega)
              have q3n : decide (k < lb) = true := decide_eq_true hkb
              have q4 : ((k : Int) == (lb : Int)) = false := by rw [beq_eq_false_iff_ne]; omega
              have hb2' : by_ < wr.heap.size := by omega
              have hmc : y :: mergeE (a.drop i) (b.drop (k + 1)) = mergeE (a.drop i) (b.drop k) := by rw [ea, mergeE_nil_left, mergeE_nil_left, hdb]
              have Hst := Lib.hid hmc
              clear hmc hdb ea hd
              subst hA1
              go_wp2
              go_quiet (fail)
              have hown := ownsRow_drewN hown nq
              have hbr := below_drewN hbr nq
              have hBBr : BB ≤ (wr.drewN nq).heap.size := hBBr
              have d0 := show (wr.drewN nq).cell? _ = some _ from d0
              have d1 := show (wr.drewN nq).cell? _ = some _ from d1
              have d2 := show (wr.drewN nq).cell? _ = some _ from d2
              have hb2' : by_ < (wr.drewN nq).heap.size := hb2'
              generalize wr.drewN nq = wq at *
              go_wp2
              go_quiet (fail)
              have hown := ownsRow_drewN hown nq
              have hbr := below_drewN hbr nq
              have hBBr : BB ≤ (wq.drewN nq).heap.size := hBBr
              have d0 := show (wq.drewN nq).cell? _ = some _ from d0
              have d1 := show (wq.drewN nq).cell? _ = some _ from d1
              have d2 := show (wq.drewN nq).cell? _ = some _ from d2
              have hb2' : by_ < (wq.drewN nq).heap.size := hb2'
              generalize wq.drewN nq = wq2 at *
              go_wp2_with (first | (at_builtin; go_must (refine wpList_append_new _ 23 (.tmp 113) (.tmp 118) rfl rfl BB 42 infoEdit Tryd.underlying23 rfl (by decide) A3 m c3 _ rfl hown #[.int .i64 (y.1), .int .i64 (y.2.1), .string (y.2.2)] 1 rfl rfl (by simp [Value.oneCell']) (by unfold maxLen; omega) (by omega) hBBr ?_); intro A4 c4 w4 hown4 hb4 hg4))
              go_roundw
              case rel =>
                refine ⟨i, k + 1, m + 1, c4, A4, L ++ [y], by omega, by omega, by go_num, by go_num, rfl, by omega, Lib.hid ?_, ?_, hbr.trans hb4⟩
                · rw [List.append_assoc, ← HL.out]; exact congrArg (L ++ ·) Hst.out
                · rw [flat_snoc]; exact hown4
              case measure => simp only [intOf]; omega
            · have hkl : k = lb := by omega
              have q3 : decide ((k : Int) < (lb : Int)) = false := decide_eq_false (by omega)
              have q3n : decide (k < lb) = false := decide_eq_false hkb
              have eb : b.drop k = [] := List.drop_of_length_le (by rw [Hb.out]; omega)
              have hL : L = mergeE a b := by rw [← HL.out, ea, eb, mergeE_nil_left, List.append_nil]
              have hlm : m = (mergeE a b).length := by
                have := hown.1
                rw [flat_length cEdit 3 cEdit_len, hL] at this
                omega
              have hck := check_any n hn A3 m c3 wr.heap.size (mergeE a b) (by omega) hlm.symm (fun z hz => (Hmm.out z hz).elim (HOa.out z) (HOb.out z)) wr (by rw [← hL]; exact Reads.of_own hown) (Nat.le_refl _)
              rw [← HE2.out] at hck
              have HCK := Lib.hid hck
              have Hlm := Lib.hid hlm
              have HLm := Lib.hid hL
              clear hck hlm hL ea eb hkl
              have hcp := own_cap hown
              have hcm := own_max hown
              go_wp2_with fail
              refine HCK.out.mono ?_
              rintro e w5 ⟨rfl, hb5⟩
              have hb6 : Below w.heap.size w w5 := hbw.trans ((hbr.mono hwBB).trans (hb5.mono (Nat.le_trans hwBB hBBr)))
              by_cases h0 : E = 0
              · subst h0
                go_wp2
                go_ret2
                refine ⟨hb6, ?_⟩
                rw [← Hlm.out, ← HLm.out]
                exact ⟨A3, c3, rfl, own_low (own_later hown hb5) hwBB, hcp, hcm⟩
              · have q5 : (E != 0) = true := by simpa using h0
                have H0 := Lib.hid h0
                clear h0
                go_wp2
                go_ret2
                exact ⟨hb6, .inl ⟨H0.out, rfl⟩⟩
  · have q1 : (checkM n a b != 0) = true := by simpa using h0
    have hE : bothE n a b = checkM n a b := by unfold bothE; rw [if_pos h0]
    have h0' := h0
    unfold ToldBothO
    rw [hE]
    generalize checkM n a b = E at *
    have H0 := Lib.hid h0
    clear h0 h0' hE oa ob ha hb
    go_enter Tryd.func30, Tryd.ntmps30
    go_wp2_with fail
    refine (H1.out w ra rb hB).mono ?_
    rintro e w1 ⟨rfl, hb1⟩
    go_wp2
    go_ret2
    exact ⟨hb1, .inl ⟨H0.out, rfl⟩⟩
theorem both_any (n : Int) (hn : -9223372036854775808 ≤ n ∧ n ≤ 9223372036854775807) (A A' : Option Addr) (la lb ca cb B : Nat) (a b : List Ed) (hla : la ≤ 4398046511104) (hlb : lb ≤ 4398046511104) (ha : a.length = la) (hb : b.length = lb) (oa : OkEds a) (ob : OkEds b)
    (w : World) (ra : Reads w B A la 3 (a.flatMap cEdit)) (rb : Reads w B A' lb 3 (b.flatMap cEdit)) (hB : B ≤ w.heap.size) :
    Calls Tryd.prog 30 #[.int .i64 n, .slice A la ca, .slice A' lb cb] w (ToldBoth n a b w) :=
  (both_own n hn A A' la lb ca cb B a b hla hlb ha hb oa ob w ra rb hB).mono fun e w' ⟨hb, h⟩ => ⟨hb, h.imp id (fun ⟨h1, A, c, h2, h3, h4⟩ => ⟨h1, A, c, h2, Reads.of_own h3, h4⟩)⟩
end Go.Proofs.YtgoofbbbnphncaaDoor
