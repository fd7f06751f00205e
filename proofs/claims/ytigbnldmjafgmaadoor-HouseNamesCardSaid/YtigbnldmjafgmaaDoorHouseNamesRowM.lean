import Derived.Test.YtigbnldmjafgmaaDoorHouseG2
import Derived.Test.YtigbnldmjafgmaaDoorRows
import Derived.Test.YtigbnldmjafgmaaDoorCards
import Derived.Test.YtigbnldmjafgmaaDoorTie
import Derived.WalkKit
import Derived.ProofKit
import Derived.OpenShut
import Derived.ShutString
import Derived.SizedLaws
import Derived.ChangeOld
import Derived.Below
import Derived.LaidMore
import Derived.Lay
import Derived.MakeChecks
import Derived.SevenTiedAt
import Derived.Stop.Joined
import Derived.Test.YtigbnldmjafgmaaDoorTab
import Derived.Test.YtigbnldmjafgmaaDoorArgs
/- Several texts in one: XHouseNamesW XHouseNamesRow. -/
/- HouseNames' walk: names are sorted, and exactly these texts exist. -/
namespace Go.Proofs.YtigbnldmjafgmaaDoor
open Go.RowKit
set_option linter.unusedVariables false

theorem based_id (w : World) : Based (fun k => k) w := fun k hk => hk

set_option maxRecDepth 100000 in
set_option maxHeartbeats 2000000 in
theorem houseNames_walk (A : Option Addr) (len cap : Nat) (l : List DRow) (name : ByteArray) {w : World} (hl : DeedsIn w A len cap l) (hn : name.size ≤ 140737488351232) (ht : Tab w) :
    Calls Tryd.prog 7 #[.slice A len cap, .string name] w fun e w' => e = .returned (.bool true) ∧ Below w.heap.size w w' := by
  have Wk := Lib.hid (fun (w1 : World) (hb : Below w.heap.size w w1) => worked_law (based_id w1) (ht.after hb) A len cap l w hl hb)
  go_enter Tryd.func7, Tryd.ntmps7
  go_wp2_with fail
  refine (houses_any _ ht).mono ?_
  rintro e w1 ⟨rfl, hb1⟩
  go_wp2_with fail
  refine (Wk.out _ hb1).mono ?_
  rintro e w2 ⟨gh, rfl, own2, Q, h2, _⟩
  have h2 : Lone w1 gh (workP l) w2 := ⟨own2, Q, h2⟩
  clear Wk
  generalize workP l = P at *
  have hok := h2.ok
  have N := Lib.hid (names_lone h2)
  go_wp2_with fail
  refine N.out.mono ?_
  rintro e w3 ⟨A3, c3, rfl, hown, hb3⟩
  have hK3 : LoneK w1 gh P (fun b => w2.heap.size ≤ b ∧ b < w3.heap.size) w3 := ((LoneK.of h2).after hb3).weak fun b hb => .inr hb
  have Hn := Lib.hid (namesB_len P)
  have h6 := hok.few
  obtain ⟨n, hn6⟩ : ∃ n, n = P.length := ⟨_, rfl⟩
  have Hin := Lib.hid (show ∀ i, i < n → (textP P ((namesB P).getD i ByteArray.empty)).2 = true from fun i hi => by
    rw [textP_ok, hasB_iff, ← namesB_mem, getD_some _ _ _ (show i < (namesB P).length by rw [namesB_len, ← hn6]; exact hi)]
    exact List.getElem_mem _)
  have Hsz := Lib.hid (show ∀ i, ((namesB P).getD i ByteArray.empty).size ≤ 140737488351232 from fun i => by
    rw [List.getD_eq_getElem?_getD]
    cases hq : (namesB P)[i]? with
    | none => decide
    | some x =>
      have hm := namesB_mem.1 (List.mem_of_getElem? hq)
      obtain ⟨p, hp, rfl⟩ := List.mem_map.1 hm
      have h1 := hok.nm p hp
      unfold nameE at h1
      by_cases hs : p.name.size < 1 ∨ 8 < p.name.size
      · rw [if_pos hs] at h1; cases h1
      · show p.name.size ≤ _
        omega)
  have Hlt := Lib.hid (show ∀ i, i + 1 < n → Op.bytesLess ((namesB P).getD i ByteArray.empty).toList ((namesB P).getD (i + 1) ByteArray.empty).toList = true from fun i hi => namesB_less hok i (by rw [← hn6]; exact hi) _)
  have Hh := Lib.hid (show (textP P name).2 = hasB name (namesB P) by rw [textP_ok, hasB_names])
  rw [← hn6] at h6 hown Hn
  have Hown := Lib.hid hown
  have hsz3 : w1.heap.size ≤ w3.heap.size := hK3.lone.below.size
  have Ht1 := Lib.hid (ht.after hb1)
  clear N hown h2 hok
  go_wp2
  rw [← hn6]
  clear hn6
  go_loopw [7, 8, 9, 10, 23] (fun _ _ _ _ i wr => ∃ (k : Nat), k ≤ n ∧ i = .int .i64 k ∧ LoneK w1 gh P (fun b => w2.heap.size ≤ b ∧ b < w3.heap.size) wr ∧ Kept (fun b => w2.heap.size ≤ b ∧ b < w3.heap.size) w3 wr) (fun _ _ _ _ i _ => n - (intOf i).toNat)
  case atStart => exact ⟨0, Nat.zero_le _, rfl, hK3, Kept.refl _ _⟩
  case round =>
    obtain ⟨k, hk, rfl, hKr, hkr⟩ := hrel
    have hownr := Hown.out.ofKept hkr fun b h1 h2 => ⟨Nat.le_of_not_lt h1, h2⟩
    by_cases hlt : k < n
    · obtain ⟨b, o, rfl, hbB, hc⟩ := hownr.toReads.2 (by omega)
      have ck := hc (k * 1 + 0) (by rw [flat_length cStr 1 cStr_len, Hn.out]; omega)
      rw [flat_getD cStr 1 cStr_len ByteArray.empty (namesB P) k 0 (by rw [Hn.out]; omega) (by omega)] at ck
      simp only [cStr, List.getD_cons_zero, Nat.mul_one, Nat.add_zero] at ck
      have X := Lib.hid (textOf_keep hKr (Ht1.out.after hKr.lone.below) ((namesB P).getD k ByteArray.empty) (Hsz.out k))
      rw [Hin.out k hlt] at X
      have Hkk := Lib.hid hkr
      by_cases h0 : k = 0
      · subst h0
        rw [Nat.add_zero] at ck
        clear hownr hc hKr hkr
        go_wp2_with fail
        refine X.out.mono ?_
        rintro e w4 ⟨rfl, hK4, hk4⟩
        go_wp2
        go_roundw
        case rel => exact ⟨1, by omega, by go_num, hK4, Hkk.out.trans hk4⟩
        case measure => simp only [intOf]; omega
      · obtain ⟨m, rfl⟩ : ∃ m, k = m + 1 := ⟨k - 1, by omega⟩
        have Hc := Lib.hid hc
        clear hc h0
        generalize hs1 : (namesB P).getD (m + 1) ByteArray.empty = s1 at *
        have Hs1 := Lib.hid hs1
        clear hs1 hownr hKr hkr
        go_wp2_with fail
        refine X.out.mono ?_
        rintro e w4 ⟨rfl, hK4, hk4⟩
        have hkw := Hkk.out.trans hk4
        have hown4 := Hown.out.ofKept hkw fun b h1 h2 => ⟨Nat.le_of_not_lt h1, h2⟩
        have cm := (hown4.cell m (by omega)).1
        have hcm : ((namesB P).flatMap cStr)[m]? = some (.string ((namesB P).getD m ByteArray.empty)) := by
          have := flat_getD cStr 1 cStr_len ByteArray.empty (namesB P) m 0 (by rw [Hn.out]; omega) (by omega)
          simp only [cStr, List.getD_cons_zero, Nat.mul_one, Nat.add_zero] at this
          rw [← this, List.getD_eq_getElem?_getD, List.getElem?_eq_getElem (by rw [flat_length cStr 1 cStr_len, Hn.out]; omega)]
          rfl
        rw [hcm] at cm
        have hless := Hlt.out m hlt
        rw [Hs1.out] at hless
        have q1 : IntKind.i64.wrap (((m + 1 : Nat) : Int) - 1) = (m : Int) := by rw [IntKind.wrap_i64]; omega
        have q2 : (m : Int) < (n : Int) := by omega
        have q3 : (0 : Int) ≤ (m : Int) := by omega
        have q4 : decide ((0 : Int) < ((m + 1 : Nat) : Int)) = true := decide_eq_true (by omega)
        have Hm := Lib.hid hlt
        generalize (namesB P).getD m ByteArray.empty = s0 at *
        clear hcm hown4 X
        go_wp2
        go_roundw
        case rel => exact ⟨m + 2, by omega, by go_num, hK4, hkw⟩
        case measure => simp only [intOf]; omega
    · obtain rfl : k = n := by omega
      have X := Lib.hid (textOf_keep hKr (Ht1.out.after hKr.lone.below) name hn)
      have Hkk := Lib.hid hkr
      rw [Hh.out] at X
      clear hownr hKr hkr
      go_wp2_with fail
      refine X.out.mono ?_
      rintro e w4 ⟨rfl, hK4, hk4⟩
      have hkw := Hkk.out.trans hk4
      have hown4 := Hown.out.ofKept hkw fun b h1 h2 => ⟨Nat.le_of_not_lt h1, h2⟩
      have C := Lib.hid (containsStr_any name A3 k c3 _ (namesB P) w4 (by omega) Hn.out hown4.toReads)
      have hbf : Below w.heap.size w w4 := chain hK4.lone.below hb1
      have q1 : decide ((k : Int) ≤ 6) = true := decide_eq_true (by omega)
      clear hown4 X
      generalize hasB name (namesB P) = B at *
      go_wp2_with fail
      refine C.out.mono ?_
      rintro e w5 ⟨rfl, rfl⟩
      have q2 : (B == B) = true := by simp
      go_wp2
      go_ret
      exact ⟨by first | rfl | simp, hbf⟩
end Go.Proofs.YtigbnldmjafgmaaDoor

/- HouseNames: for every input the law returns true, and each argument reads afterwards as it read before. -/
namespace Go.Proofs.YtigbnldmjafgmaaDoor.houseNames
open Go.ChangeShapes Go.WideShapes Go.ChangeAt Go.RowKit
open Go.ChangeMaps (open_string shut_string)
set_option linter.unusedVariables false

theorem own : ownKnob Tryd.prog.godebug = none := by kernel_rfl
theorem laidOut : laidOutB Tryd.prog = true := by kernel_rfl

set_option maxRecDepth 100000 in
theorem lifted (os : Os) (started : os.Started) (H : Type) (enc : TypeId × Value → H) :
    ReturnsInHanded {} Tryd.checked os 7 .any (fun w args => (Rows.houseNamesSpec.pre enc Tryd.prog Tryd.f7 Rows.houseNamesRow.domain false w args ∧ laidMetH Tryd.prog Rows.houseNamesRow.laid w) ∧ sizedMet enc Tryd.prog Tryd.f7 (OpenSpec.ofChange Rows.houseNamesSpec) false w args)
      (Rows.houseNamesSpec.post enc Tryd.prog Tryd.f7 false true false false) := by
  refine returnsInHanded_of_change_and (C := Tryd.checked) (X := fun w _ => laidMetH Tryd.prog Rows.houseNamesRow.laid w) (fun _ _ _ hh h => h.of_heap hh) own started (by kernel_rfl) Tryd.func7
    (ChangeSpec.witness_shaped (enc := enc) (C := Tryd.checked) (os := os) (X := fun w _ => laidMetH Tryd.prog Rows.houseNamesRow.laid w) false (World.laidAll Tryd.prog os Rows.houseNamesRow.laid) #[.slice none 0 0, .string ByteArray.empty] 8 (World.laidAll_os _ _ _)
      (World.shaped_of_ZipB (by kernel_rfl) (by kernel_rfl)) (by kernel_rfl) (by kernel_rfl) (by kernel_rfl)
      (by rw [MakeChecks.laidMetH_plain _ _ _ (by kernel_rfl)]; exact laidMet_laidAll _ (by kernel_rfl) (by kernel_rfl))) ?_
  intro W base args ds gs before hval0 hW hcnd hsz0 hL _
  have hval : ∀ (j : Nat) t v, Tryd.f7.params[j]? = some t → args[j]? = some v → Value.okWide Tryd.prog W .any base t v := hval0
  have hsz : (DataW.weightsEach Tryd.prog (Tryd.f7.params.toList ++ Rows.houseNamesSpec.plain.varTypes Tryd.prog) (ds ++ gs)).all (· ≤ reachBytes) = true := hsz0
  have hW' := hW
  obtain ⟨p, q, hA0, hV, rfl, hfz, hnd⟩ := hW
  have hA : DataW.TrodAll enc Tryd.prog W 0 (fun _ => true) true Tryd.f7.params.toList args.toList ds p := hA0
  rw [Tryd.params7] at hA hval hsz
  obtain ⟨v0, vs0, d0, ds0, p0, q0, hargs, rfl, rfl, h0, r0⟩ := trodAll_cons hA
  obtain ⟨v1, vs1, d1, ds1, p1, q1, rfl, rfl, rfl, h1, r1⟩ := trodAll_cons r0
  obtain ⟨rfl, rfl, rfl⟩ := trodAll_nil r1
  obtain rfl : args = #[v0, v1] := by cases args; simp_all
  obtain ⟨rfl, rfl⟩ := trodVars_none hV
  obtain ⟨a0, len0, cap0, rfl⟩ := okWide_slice Tryd.underlying22 (hval 0 22 v0 rfl rfl)
  have k0 := h0
  have lt0 : ∀ x ∈ p0, x.block < W.heap.size := by obtain ⟨m, hm⟩ := k0; exact DataW.trod_lt m _ _ _ hm
  obtain ⟨z0, w0⟩ : ∃ zs, DeedsIn W a0 len0 cap0 zs := deeds_in h0 lt0 (fun n hn => of_decide_eq_true (List.all_eq_true.1 hsz n (DataW.weights_mem_each (j := 0) rfl rfl n hn)))
  obtain ⟨a1, rfl, rfl, rfl, w1⟩ := open_string Tryd.underlying9 (hval 1 9 v1 rfl rfl) h1
  clear hA0 hval0
  have b1 : a1.size ≤ 140737488351232 := sized_string hsz (j := 1) rfl rfl
  have htab : Tab W := tab_of_laid hL (by kernel_rfl) (by kernel_rfl)
  refine (houseNames_walk a0 len0 cap0 z0 a1 w0 b1 (w := W) htab).mono fun e W' ⟨he, bel⟩ => ?_
  subst he
  exact ⟨_, rfl, _, _, _, [], _, [], hW', trodAll_mk1 (shut_bool Tryd.underlying4 _), (trodAll_cons_mk (Below.trod laidOut (by kernel_rfl) (of_decide_eq_true (by kernel_rfl)) k0 bel lt0) (trodAll_cons_mk (shut_string Tryd.underlying9 w1) trodAll_mk0)), rfl, bel.frame _, fun h => by cases h⟩

theorem holds : Rows.HouseNamesSaid :=
  OpenClaim.holds_of_wide 7 Tryd.f7 rfl rfl rfl rfl rfl rfl rfl ⟨rfl, rfl, rfl, rfl, rfl⟩ rfl rfl rfl rfl rfl (by kernel_rfl) Tryd.func7 (by kernel_rfl)
    (of_decide_eq_true (by kernel_rfl)) (by unfold Func.isWrapper; first | (rw [if_pos (by decide +kernel)]; kernel_rfl) | (rw [if_neg (by decide +kernel)]; exact ⟨rfl, rfl⟩))
    (fun os started H enc _ => lifted os started H enc)
set_option maxRecDepth 100000 in
theorem card_holds : Rows.HouseNamesCardSaid :=
  Claim7.holds_tied_plain_at .later [] Rows.houseNamesCard.laidKinds true Rows.houseNamesCard.stood.harness false
    holds (fun _ h => by cases h) (by kernel_rfl) (fun _ h => by cases h) houseNames_row_tie rfl ⟨rfl, rfl⟩ (by kernel_rfl) rfl
    (fun f fn hf hfn => by
      obtain rfl : f = 7 := Option.some.inj ((show Tryd.prog.funcNamed "quillward/quillkeep.HouseNames" = some 7 by kernel_rfl).symm.trans hf) |>.symm
      obtain rfl : fn = Tryd.f7 := (Option.some.inj (Tryd.func7.symm.trans hfn)).symm
      exact ⟨by kernel_rfl, fun j t ht => by
        have hall : (Tryd.f7.params.toList.all fun u => !Tryd.prog.wantsStandIn u) = true := by kernel_rfl
        exact (show Tryd.prog.wantsStandIn t = false by simpa using List.all_eq_true.1 hall t (by simpa using Array.mem_of_getElem? ht))⟩)
    (by kernel_rfl)
#print axioms card_holds
end Go.Proofs.YtigbnldmjafgmaaDoor.houseNames

