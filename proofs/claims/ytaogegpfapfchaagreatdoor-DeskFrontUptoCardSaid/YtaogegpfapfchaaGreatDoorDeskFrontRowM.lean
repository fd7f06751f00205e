import Derived.Test.YtaogegpfapfchaaGreatDoorDeskM45
import Derived.Test.YtaogegpfapfchaaGreatDoorDeskM44
import Derived.Test.YtaogegpfapfchaaGreatDoorDeskM46
import Derived.Test.YtaogegpfapfchaaGreatDoorDeskM06
import Derived.Test.YtaogegpfapfchaaGreatDoorRows
import Derived.Test.YtaogegpfapfchaaGreatDoorCards
import Derived.Test.YtaogegpfapfchaaGreatDoorTie
import Derived.WalkKit
import Derived.ProofKit
import Derived.OpenShut
import Derived.ShutString
import Derived.SizedLaws
import Derived.ChangeOld
import Derived.Below
import Derived.JoinedCond
import Derived.Deep.CondSized
import Derived.Deep.DeepHandedRow
import Derived.LaidMore
import Derived.Lay
import Derived.MakeChecks
import Derived.SevenTiedAt
import Derived.Stop.Joined
import Derived.Test.YtaogegpfapfchaaGreatDoorDeskM01
/- Several texts in one: XDeskFrontP XDeskFront XDeskFrontRow. -/
/- Plain: what the desk answers to the text that DeskFront begins with. -/
namespace Go.Proofs.YtaogegpfapfchaaGreatDoor
open Go.RowKit
set_option linter.unusedVariables false

def fT : ByteArray := ⟨#[110, 101, 119, 32, 97, 32, 104, 101, 108, 108, 111, 10, 101, 100, 105, 116, 32, 97, 32, 48, 32, 49, 32, 74, 10, 116, 101, 120, 116, 32, 97, 10, 110, 111, 10, 117, 110, 100, 111, 32, 97, 10, 116, 101, 120, 116, 32, 97, 10, 110, 97, 109, 101, 115]⟩
def fA : ByteArray := ⟨#[97]⟩
def fH : ByteArray := ⟨#[104, 101, 108, 108, 111]⟩
def fJ : ByteArray := ⟨#[74, 101, 108, 108, 111]⟩
def fE : List Ed := [(0, 1, ⟨#[74]⟩)]
def fP1 : Pg := newP fA fH
def fH2 : LH := [(98 :: fH.data.toList, fH), (101 :: writeL fE, fJ)]
def fP2 : Pg := ⟨fA, fJ, [fH], [], fH2, 1⟩
def fP3 : Pg := ⟨fA, fH, [], [fJ], fH2 ++ [(98 :: fH.data.toList, fH)], 1⟩
theorem f_rows : rowsD fT = [⟨#[110, 101, 119, 32, 97, 32, 104, 101, 108, 108, 111]⟩, ⟨#[101, 100, 105, 116, 32, 97, 32, 48, 32, 49, 32, 74]⟩, ⟨#[116, 101, 120, 116, 32, 97]⟩, ⟨#[110, 111]⟩, ⟨#[117, 110, 100, 111, 32, 97]⟩, ⟨#[116, 101, 120, 116, 32, 97]⟩, ⟨#[110, 97, 109, 101, 115]⟩] := by decide +kernel
theorem f_name : nameE fA = 0 := by decide +kernel
theorem f_edit : leafE fH [(98 :: fH.data.toList, fH)] fE = 0 ∧ leafT fH [(98 :: fH.data.toList, fH)] fE = fJ := by decide +kernel
theorem f_fits : fits fH2 fH := by unfold fits; decide +kernel
theorem fD_new : houseD [] ⟨1, 0, fA, fH, []⟩ = (⟨#[]⟩, 0, [fP1]) := by
  unfold houseD
  rw [if_neg (by decide), if_neg (by show ¬ nameE fA ≠ 0; rw [f_name]; decide), if_pos (show (⟨1, 0, fA, fH, []⟩ : Dd).kind = 1 from rfl), if_neg (by decide), if_neg (by decide), if_neg (by decide)]
  rfl
theorem fD_one {p : Pg} {d : Dd} (hn : p.name = fA) (hd : d.name = fA) (hk : 2 ≤ d.kind ∧ d.kind ≤ 10) (h9 : d.kind ≠ 9) : houseD [p] d = ((pageD p d).1, (pageD p d).2.1, [(pageD p d).2.2]) := by
  have h1 : nameE d.name = 0 := by rw [hd]; exact f_name
  have h2 : placeN d.name [p] 0 = 0 := by unfold placeN; rw [if_pos (by rw [hn, hd])]; rfl
  unfold houseD
  rw [if_neg (by omega), if_neg (by rw [h1]; decide), if_neg (by omega), h2, if_neg (by decide), if_neg h9]
  rfl
theorem fD_edit : houseD [fP1] ⟨2, 0, fA, ⟨#[]⟩, fE⟩ = (⟨#[]⟩, 0, [fP2]) := by
  have e : editP fP1 fE = (0, fP2) := by
    unfold editP
    have h1 : leafE fP1.t fP1.H fE = 0 := f_edit.1
    have h2 : leafT fP1.t fP1.H fE = fJ := f_edit.2
    rw [if_neg (by unfold fE; simp), if_neg (by rw [h1]; decide)]
    unfold leafH
    rw [if_pos h1, h2]
    rfl
  rw [fD_one rfl rfl ⟨by decide, by decide⟩ (by decide), pageD2 rfl, e]
theorem fD_text (p : Pg) (hn : p.name = fA) : houseD [p] ⟨8, 0, fA, ⟨#[]⟩, []⟩ = (p.t, 0, [p]) := by
  rw [fD_one hn rfl ⟨by decide, by decide⟩ (by decide), pageD8 rfl]
theorem fD_back : houseD [fP2] ⟨3, 0, fA, ⟨#[]⟩, []⟩ = (⟨#[]⟩, 0, [fP3]) := by
  have e : backP fP2 = (0, fP3) := by
    unfold backP
    rw [if_neg (by decide), if_pos (show fits fP2.H (fP2.B.getLastD ⟨#[]⟩) from f_fits)]
    rfl
  rw [fD_one rfl rfl ⟨by decide, by decide⟩ (by decide), pageD3 rfl, e]
theorem f_names (p : Pg) (hn : p.name = fA) : namesB [p] = [fA] := by
  unfold namesB namesP
  rw [List.map_cons, List.map_nil, hn, List.mergeSort_singleton]
  rfl
/-- A line that is a deed. -/
theorem ans_deed {P P' : List Pg} {line : ByteArray} {l : List ByteArray} {k m : Nat} {d : Dd} {T s : ByteArray} (hw : wordsD line = l) (h0 : l ≠ []) (h1 : l ≠ [kNames]) (hk : kindD (l.getD 0 ⟨#[]⟩) = some (k, m)) (hl : l.length = m) (hd : deedOf k l = some d) (hh : houseD P d = (T, 0, P'))
    (hs : (if d.kind = 8 then ⟨#[58]⟩ ++ T else ⟨#[111, 107]⟩) = s) : ansD P line = (s, P') := by
  have e : deedD P l = (.ok (some s), P') := by
    rw [deedD_yes hk hl hd, hh, doneD_ok rfl, ← hs]
  unfold ansD
  rw [hw, toldD_some h0 h1 e]
  rfl
theorem f_ans1 : ansD [] ⟨#[110, 101, 119, 32, 97, 32, 104, 101, 108, 108, 111]⟩ = (⟨#[111, 107]⟩, [fP1]) :=
  ans_deed (l := [⟨#[110, 101, 119]⟩, ⟨#[97]⟩, ⟨#[104, 101, 108, 108, 111]⟩]) (k := 1) (m := 3) (d := ⟨1, 0, fA, fH, []⟩) (by decide +kernel) (by decide) (by decide +kernel) kind_new rfl (by unfold deedOf; rw [if_pos (by decide)]; rfl) fD_new (by rfl)
theorem f_ans2 : ansD [fP1] ⟨#[101, 100, 105, 116, 32, 97, 32, 48, 32, 49, 32, 74]⟩ = (⟨#[111, 107]⟩, [fP2]) :=
  ans_deed (l := [⟨#[101, 100, 105, 116]⟩, ⟨#[97]⟩, ⟨#[48]⟩, ⟨#[49]⟩, ⟨#[74]⟩]) (k := 2) (m := 5) (d := ⟨2, 0, fA, ⟨#[]⟩, fE⟩) (by decide +kernel) (by decide) (by decide +kernel) kind_edit rfl (by unfold deedOf; rw [if_neg (by decide), if_neg (by decide), if_pos rfl, show numD _ = some 0 from by decide +kernel, show numD _ = some 1 from by decide +kernel]; rfl) fD_edit (by rfl)
theorem f_ans3 : ansD [fP2] ⟨#[116, 101, 120, 116, 32, 97]⟩ = (⟨#[58, 74, 101, 108, 108, 111]⟩, [fP2]) :=
  ans_deed (l := [⟨#[116, 101, 120, 116]⟩, ⟨#[97]⟩]) (k := 8) (m := 2) (d := ⟨8, 0, fA, ⟨#[]⟩, []⟩) (by decide +kernel) (by decide) (by decide +kernel) kind_text rfl (by unfold deedOf; rw [if_neg (by decide), if_neg (by decide), if_neg (by decide)]; rfl) (fD_text fP2 rfl) (by rfl)
theorem f_ans4 (P : List Pg) : ansD P ⟨#[110, 111]⟩ = (⟨#[101, 114, 114, 111, 114, 32, 49, 50]⟩, P) := by
  have hw : wordsD ⟨#[110, 111]⟩ = [⟨#[110, 111]⟩] := by decide +kernel
  have hk : kindD (([⟨#[110, 111]⟩] : List ByteArray).getD 0 ⟨#[]⟩) = none := by decide +kernel
  have ha : askD [⟨#[110, 111]⟩] = .error 12 := by unfold askD; rw [if_pos (by decide)]
  unfold ansD
  rw [hw, toldD_none (by decide) (by decide +kernel) (deedD_none hk), ha]
  show (errB 12, P) = _
  rw [show errB 12 = ⟨#[101, 114, 114, 111, 114, 32, 49, 50]⟩ from by decide +kernel]
theorem f_ans5 : ansD [fP2] ⟨#[117, 110, 100, 111, 32, 97]⟩ = (⟨#[111, 107]⟩, [fP3]) :=
  ans_deed (l := [⟨#[117, 110, 100, 111]⟩, ⟨#[97]⟩]) (k := 3) (m := 2) (d := ⟨3, 0, fA, ⟨#[]⟩, []⟩) (by decide +kernel) (by decide) (by decide +kernel) kind_undo rfl (by unfold deedOf; rw [if_neg (by decide), if_neg (by decide), if_neg (by decide)]; rfl) fD_back (by rfl)
theorem f_ans6 : ansD [fP3] ⟨#[116, 101, 120, 116, 32, 97]⟩ = (⟨#[58, 104, 101, 108, 108, 111]⟩, [fP3]) :=
  ans_deed (l := [⟨#[116, 101, 120, 116]⟩, ⟨#[97]⟩]) (k := 8) (m := 2) (d := ⟨8, 0, fA, ⟨#[]⟩, []⟩) (by decide +kernel) (by decide) (by decide +kernel) kind_text rfl (by unfold deedOf; rw [if_neg (by decide), if_neg (by decide), if_neg (by decide)]; rfl) (fD_text fP3 rfl) (by rfl)
theorem f_ans7 : ansD [fP3] ⟨#[110, 97, 109, 101, 115]⟩ = (⟨#[58, 97]⟩, [fP3]) := by
  have hw : wordsD ⟨#[110, 97, 109, 101, 115]⟩ = [kNames] := by decide +kernel
  unfold ansD
  rw [hw]
  have e : toldD [fP3] [kNames] = (.ok (⟨#[58]⟩ ++ joinB (namesB [fP3])), [fP3]) := by unfold toldD; rw [if_neg (by decide), if_pos rfl]
  rw [e, f_names fP3 rfl]
  rfl
theorem f_run : runE fT = 0 ∧ runR fT = [⟨#[111, 107]⟩, ⟨#[111, 107]⟩, ⟨#[58, 74, 101, 108, 108, 111]⟩, ⟨#[101, 114, 114, 111, 114, 32, 49, 50]⟩, ⟨#[111, 107]⟩, ⟨#[58, 104, 101, 108, 108, 111]⟩, ⟨#[58, 97]⟩] := by
  have h : ¬ (4096 < fT.size ∨ 60 < (rowsD fT).length) := by rw [f_rows]; decide
  unfold runE runR
  rw [if_neg h, if_neg h, f_rows]
  refine ⟨rfl, ?_⟩
  have n : ∀ (x : List ByteArray × List Pg) (line : ByteArray) (a : ByteArray) (P' : List Pg), line ≠ ⟨#[]⟩ → ansD x.2 line = (a, P') → lineD x line = (x.1 ++ [a], P') := fun x line a P' h e => by unfold lineD; rw [if_neg h, e]
  unfold linesD
  rw [List.foldl_cons, n _ _ _ _ (by decide) f_ans1, List.foldl_cons, n _ _ _ _ (by decide) f_ans2, List.foldl_cons, n _ _ _ _ (by decide) f_ans3, List.foldl_cons, n _ _ _ _ (by decide) (f_ans4 _), List.foldl_cons, n _ _ _ _ (by decide) f_ans5, List.foldl_cons, n _ _ _ _ (by decide) f_ans6, List.foldl_cons, n _ _ _ _ (by decide) f_ans7, List.foldl_nil]
  rfl
end Go.Proofs.YtaogegpfapfchaaGreatDoor

/- DeskFront's walk: later lines do not change the results of earlier ones. -/
namespace Go.Proofs.YtaogegpfapfchaaGreatDoor
open Go.RowKit
set_option linter.unusedVariables false

set_option maxRecDepth 100000 in
set_option maxHeartbeats 2000000 in
theorem deskFront_walk (a b : ByteArray) (ha : a.size ≤ 140737488351232) (hb : b.size ≤ 140737488351232) (w : World) (hk : a.size + b.size ≤ 1048576) (ht : Tab w) (hm : MaxL w) :
    Calls Tryz.prog 3 #[.string a, .string b] w fun e w' => e = .returned (.bool true) ∧ Below w.heap.size w w' := by
  have R1 := run_any fT (by decide) w ht hm
  rw [f_run.1, f_run.2] at R1
  unfold fT at R1
  have R1 := Lib.hid R1
  have hz : (a ++ ⟨#[10]⟩ ++ b).size = a.size + 1 + b.size := by rw [ByteArray.size_append, ByteArray.size_append]; rfl
  have z10 : (⟨#[10]⟩ : ByteArray).size = 1 := rfl
  have a1 : ∀ w, (Op.stringOp .add a ⟨#[10]⟩).run Tryz.prog w = .ok (.string (a ++ ⟨#[10]⟩)) w := fun w => run_string_add_sum w _ _ (by omega)
  have a2 : ∀ w, (Op.stringOp .add (a ++ ⟨#[10]⟩) b).run Tryz.prog w = .ok (.string (a ++ ⟨#[10]⟩ ++ b)) w := fun w => run_string_add_sum w _ _ (by rw [ByteArray.size_append]; omega)
  have R2 := Lib.hid (fun w1 (h : Below w.heap.size w w1) => run_any (a ++ ⟨#[10]⟩ ++ b) (by omega) w1 (ht.after h) (hm.after h))
  have R3 := Lib.hid (fun w1 (h : Below w.heap.size w w1) => run_any a (by omega) w1 (ht.after h) (hm.after h))
  obtain ⟨p1, p2⟩ := run_front a b
  have hE : runE (a ++ ⟨#[10]⟩ ++ b) = 0 ∨ runE (a ++ ⟨#[10]⟩ ++ b) ≠ 0 := by omega
  generalize a ++ ⟨#[10]⟩ ++ b = ab at *
  generalize runE ab = E2 at *
  generalize runR ab = L2 at *
  generalize runE a = E3 at *
  generalize runR a = L3 at *
  have P1 := Lib.hid p1
  have P2 := Lib.hid p2
  have HE := Lib.hid hE
  clear ha hb hk hz z10 p1 p2 hE
  go_enter Tryz.func3, Tryz.ntmps3
  go_wp2_with fail
  refine R1.out.mono ?_
  rintro e w1 ⟨A, n, c, rfl, hn, hnc, hn60, hr, hb1⟩
  obtain rfl : n = 7 := hn.symm
  have EQ := equalStr_any A (some ⟨w1.heap.size, 0, none⟩) 7 7 c 7 _ _ [⟨#[111, 107]⟩, ⟨#[111, 107]⟩, ⟨#[58, 74, 101, 108, 108, 111]⟩, ⟨#[101, 114, 114, 111, 114, 32, 49, 50]⟩, ⟨#[111, 107]⟩, ⟨#[58, 104, 101, 108, 108, 111]⟩, ⟨#[58, 97]⟩] [⟨#[111, 107]⟩, ⟨#[111, 107]⟩, ⟨#[58, 74, 101, 108, 108, 111]⟩, ⟨#[101, 114, 114, 111, 114, 32, 49, 50]⟩, ⟨#[111, 107]⟩, ⟨#[58, 104, 101, 108, 108, 111]⟩, ⟨#[58, 97]⟩] (w1.alloc (Obj.cells #[.string ⟨#[111, 107]⟩, .string ⟨#[111, 107]⟩, .string ⟨#[58, 74, 101, 108, 108, 111]⟩, .string ⟨#[101, 114, 114, 111, 114, 32, 49, 50]⟩, .string ⟨#[111, 107]⟩, .string ⟨#[58, 104, 101, 108, 108, 111]⟩, .string ⟨#[58, 97]⟩] 9)) (by decide) (by decide) rfl rfl (hr.after ((Below.refl _ _).alloc (Nat.le_refl _) _)) (Reads.made w1 #[.string ⟨#[111, 107]⟩, .string ⟨#[111, 107]⟩, .string ⟨#[58, 74, 101, 108, 108, 111]⟩, .string ⟨#[101, 114, 114, 111, 114, 32, 49, 50]⟩, .string ⟨#[111, 107]⟩, .string ⟨#[58, 104, 101, 108, 108, 111]⟩, .string ⟨#[58, 97]⟩] 9 7 1 rfl)
  rw [decide_eq_true rfl] at EQ
  have EQ := Lib.hid EQ
  have hba := hb1.alloc hb1.size (Obj.cells #[.string ⟨#[111, 107]⟩, .string ⟨#[111, 107]⟩, .string ⟨#[58, 74, 101, 108, 108, 111]⟩, .string ⟨#[101, 114, 114, 111, 114, 32, 49, 50]⟩, .string ⟨#[111, 107]⟩, .string ⟨#[58, 104, 101, 108, 108, 111]⟩, .string ⟨#[58, 97]⟩] 9)
  clear hr hn
  go_wp2_with fail
  refine EQ.out.mono ?_
  rintro e w2 ⟨rfl, hb2⟩
  have hb2 := chain hb2 hba
  clear EQ R1 hba hb1 hnc hn60
  go_wp2_with fail
  refine (R2.out _ hb2).mono ?_
  rintro e w3 ⟨A2, n2, c2, rfl, hn2, hnc2, hn62, hr2, hb3⟩
  have hb3' := chain hb3 hb2
  go_wp2_with fail
  refine (R3.out _ hb3').mono ?_
  rintro e w4 ⟨A3, n3, c3, rfl, hn3, hnc3, hn63, hr3, hb4⟩
  have hb4' := chain hb4 hb3'
  have hr2 := hr2.after hb4
  clear R2 R3 hb2 hb3 hb3' hb4
  rcases HE.out with h0 | h0
  · obtain ⟨h1, r, h2⟩ := P2.out h0
    subst h0
    subst h1
    have hle : n3 ≤ n2 := by rw [← hn2, ← hn3, h2, List.length_append]; omega
    have hle' : (n3 : Int) ≤ (n2 : Int) := by omega
    have ht := hr2.front (f := cStr) (fun _ => rfl) hn2 hle
    rw [h2, List.take_append_of_le_length (by omega), List.take_of_length_le (by omega)] at ht
    have EQ := fun cx => equalStr_any A3 A2 n3 n3 c3 cx _ _ L3 L3 w4 (by omega) (by omega) hn3 hn3 hr3 ht
    rw [show decide (L3 = L3) = true from decide_eq_true rfl] at EQ
    have EQ := Lib.hid EQ
    have hc2 : n3 ≤ c2 := by omega
    clear ht hr2 hr3 h2 hn2 hn3
    go_wp2_with fail
    refine (EQ.out _).mono ?_
    rintro e w5 ⟨rfl, hb5⟩
    go_wp2
    go_ret
    exact ⟨rfl, chain hb5 hb4'⟩
  · have h1 := P1.out h0
    obtain rfl : n2 = 0 := by rw [← hn2, h1]; rfl
    have q0 : (E2 != 0) = true := by simpa using h0
    clear P1 P2 HE
    go_wp2
    go_ret
    exact ⟨rfl, hb4'⟩
end Go.Proofs.YtaogegpfapfchaaGreatDoor

/- DeskFront: for every input the law returns true, and each argument reads afterwards as it read before. -/
namespace Go.Proofs.YtaogegpfapfchaaGreatDoor.deskFront
open Go.ChangeShapes Go.WideShapes Go.ChangeAt Go.RowKit
open Go.ChangeMaps (open_string shut_string)
set_option linter.unusedVariables false

theorem own : ownKnob Tryz.prog.godebug = none := by kernel_rfl
theorem laidOut : laidOutB Tryz.prog = true := by kernel_rfl

set_option maxRecDepth 100000 in
theorem contract (H : Type) (enc : TypeId × Value → H) (W : World) (base : Nat) (args : Array Value) (ds gs : List (DataW H)) (before : List MemPlace)
    (hval0 : ∀ (j : Nat) t v, Tryz.f3.params[j]? = some t → args[j]? = some v → Value.okWide Tryz.prog W .any base t v)
    (hW : DataW.Whole enc Tryz.prog Tryz.f3.params.toList Rows.deskFrontSpec.vars false W args.toList ds gs before) (hk : Rows.uptoSmall H (ds ++ gs) = true)
    (hsz0 : (DataW.weightsEach Tryz.prog (Tryz.f3.params.toList ++ Rows.deskFrontSpec.plain.varTypes Tryz.prog) (ds ++ gs)).all (· ≤ reachBytes) = true)
    (hL : laidMetH Tryz.prog Rows.deskFrontUptoRow.laid W) (hSh : W.ShapedOpen Tryz.prog) :
    Calls Tryz.prog 3 args W fun e W' => ∃ v, e = .returned v ∧ Rows.deskFrontSpec.post enc Tryz.prog Tryz.f3 false true false false W args v W' := by
  have hval : ∀ (j : Nat) t v, Tryz.f3.params[j]? = some t → args[j]? = some v → Value.okWide Tryz.prog W .any base t v := hval0
  have hsz : (DataW.weightsEach Tryz.prog (Tryz.f3.params.toList ++ Rows.deskFrontSpec.plain.varTypes Tryz.prog) (ds ++ gs)).all (· ≤ reachBytes) = true := hsz0
  have hW' := hW
  obtain ⟨p, q, hA0, hV, rfl, hfz, hnd⟩ := hW
  have hA : DataW.TrodAll enc Tryz.prog W 0 (fun _ => true) true Tryz.f3.params.toList args.toList ds p := hA0
  rw [Tryz.params3] at hA hval hsz
  obtain ⟨v0, vs0, d0, ds0, p0, q0, hargs, rfl, rfl, h0, r0⟩ := trodAll_cons hA
  obtain ⟨v1, vs1, d1, ds1, p1, q1, rfl, rfl, rfl, h1, r1⟩ := trodAll_cons r0
  obtain ⟨rfl, rfl, rfl⟩ := trodAll_nil r1
  obtain rfl : args = #[v0, v1] := by cases args; simp_all
  obtain ⟨rfl, rfl⟩ := trodVars_none hV
  obtain ⟨a0, rfl, rfl, rfl, w0⟩ := open_string Tryz.underlying9 (hval 0 9 v0 rfl rfl) h0
  obtain ⟨a1, rfl, rfl, rfl, w1⟩ := open_string Tryz.underlying9 (hval 1 9 v1 rfl rfl) h1
  clear hA0 hval0
  have hk2 := of_decide_eq_true hk
  simp only [Rows.uptoBulkAll, Rows.uptoBulk, List.append_nil] at hk2
  have bd0 : a0.size + a1.size ≤ 1048576 := by show a0.data.toList.length + a1.data.toList.length ≤ 1048576; omega
  have htab : Tab W := tab_of_laid hL (by kernel_rfl) (by kernel_rfl)
  have hmax : MaxL W := maxL_of hSh
  have b0 : a0.size ≤ 140737488351232 := sized_string hsz (j := 0) rfl rfl
  have b1 : a1.size ≤ 140737488351232 := sized_string hsz (j := 1) rfl rfl
  refine (deskFront_walk a0 a1 b0 b1 W bd0 htab hmax).mono fun e W' ⟨he, bel⟩ => ?_
  subst he
  exact ⟨_, rfl, _, _, _, [], _, [], hW', trodAll_mk1 (shut_bool Tryz.underlying4 _), (trodAll_cons_mk (shut_string Tryz.underlying9 w0) (trodAll_cons_mk (shut_string Tryz.underlying9 w1) trodAll_mk0)), rfl, bel.frame _, fun h => by cases h⟩

set_option maxRecDepth 100000 in
theorem lifted (os : Os) (started : os.Started) (H : Type) (enc : TypeId × Value → H) (F : Stop.Interp) :
    ReturnsInHanded {} Tryz.checked os 3 .any ((Rows.OpenSpec.upto Rows.deskFrontSpec).preRow enc Tryz.prog Tryz.f3 Rows.deskFrontUptoRow.domain false Rows.deskFrontUptoRow.laid) (((Rows.OpenSpec.upto Rows.deskFrontSpec).at F).post enc Tryz.prog Tryz.f3 false true false false) := by
  have hx : ∃ places, DataW.whole enc Tryz.prog ((World.laidAll Tryz.prog os Rows.deskFrontUptoRow.laid).forCall (fun _ _ => 0) ⟨#[], #[.string ByteArray.empty, .string ByteArray.empty], []⟩).memory Tryz.f3.params.toList Rows.deskFrontSpec.vars false (#[.string ByteArray.empty, .string ByteArray.empty] : Array Value).toList 8 = some ([.lit (.string []), .lit (.string [])], [], places) := ⟨[], by kernel_rfl⟩
  obtain ⟨places, hx⟩ := hx
  have hok : Input.okWideB Tryz.prog ((World.laidAll Tryz.prog os Rows.deskFrontUptoRow.laid).forCall (fun _ _ => 0) ⟨#[], #[.string ByteArray.empty, .string ByteArray.empty], []⟩) 3 ⟨#[], #[.string ByteArray.empty, .string ByteArray.empty], []⟩ = true := by kernel_rfl
  refine returnsInHanded_of_row (C := Tryz.checked) (s := Rows.OpenSpec.upto Rows.deskFrontSpec) own started (by kernel_rfl) Tryz.func3
    ⟨World.laidAll Tryz.prog os Rows.deskFrontUptoRow.laid, fun _ _ => 0, ⟨#[], #[.string ByteArray.empty, .string ByteArray.empty], []⟩, World.laidAll_os _ _ _, World.shaped_of_ZipB (by kernel_rfl) (by kernel_rfl), (Input.okWide_of_okWideB (base := 0) hok).1, (Input.okWide_of_okWideB hok).2,
      OpenSpec.preRow_of_cond 8 hx (by kernel_rfl) (fun k hk => by cases hk; kernel_rfl) (by kernel_rfl) (by rw [MakeChecks.laidMetH_plain _ _ _ (by kernel_rfl)]; exact laidMet_laidAll _ (by kernel_rfl) (by kernel_rfl)), by
        simp only [Assume.holds]
        exact ⟨by simp, by simp, fun _ => Modest.zero, by simp, by simp⟩⟩ ?_
  intro W base args ds gs before hval hW _ hcond hsz hL hSh _
  exact contract H enc W base args ds gs before hval hW (hcond _ rfl) hsz hL hSh

theorem holds : Rows.DeskFrontUptoSaid :=
  OpenClaim.holds_of_cond 3 Tryz.f3 rfl rfl rfl rfl rfl rfl rfl ⟨rfl, rfl, rfl, rfl, rfl⟩ rfl rfl rfl rfl rfl (by kernel_rfl) Tryz.func3 (by kernel_rfl)
    (of_decide_eq_true (by kernel_rfl)) (by unfold Func.isWrapper; first | (rw [if_pos (by decide +kernel)]; kernel_rfl) | (rw [if_neg (by decide +kernel)]; exact ⟨rfl, rfl⟩))
    (fun os started H enc _ F => by rw [OpenClaim.pre_eq_preRow]; exact lifted os started H enc F)
set_option maxRecDepth 100000 in
theorem card_holds : Rows.DeskFrontUptoCardSaid :=
  Claim7.holds_tied_plain_at .later [] Rows.deskFrontUptoCard.laidKinds true Rows.deskFrontUptoCard.stood.harness true
    holds (fun _ h => by cases h) (by kernel_rfl) (fun _ h => by cases h) deskFrontUpto_row_tie rfl ⟨rfl, rfl⟩ (by kernel_rfl) rfl
    (fun f fn hf hfn => by
      obtain rfl : f = 3 := Option.some.inj ((show Tryz.prog.funcNamed "quillward/quillkeep.DeskFront" = some 3 by kernel_rfl).symm.trans hf) |>.symm
      obtain rfl : fn = Tryz.f3 := (Option.some.inj (Tryz.func3.symm.trans hfn)).symm
      exact ⟨by kernel_rfl, fun j t ht => by
        have hall : (Tryz.f3.params.toList.all fun u => !Tryz.prog.wantsStandIn u) = true := by kernel_rfl
        exact (show Tryz.prog.wantsStandIn t = false by simpa using List.all_eq_true.1 hall t (by simpa using Array.mem_of_getElem? ht))⟩)
    (by kernel_rfl)
#print axioms card_holds
end Go.Proofs.YtaogegpfapfchaaGreatDoor.deskFront

