import Derived.Test.YtigbnldmjafgmaaDoorHouseG2
import Derived.Test.YtigbnldmjafgmaaDoorRows
import Derived.Test.YtigbnldmjafgmaaDoorCards
import Derived.Test.YtigbnldmjafgmaaDoorTie
import Derived.WalkKit
import Derived.ProofKit
import Derived.OpenShut
import Derived.ShutString
import Derived.SizedLaws
import Derived.ChangeOld
import Derived.Below
import Derived.LaidMore
import Derived.Lay
import Derived.MakeChecks
import Derived.SevenTiedAt
import Derived.Stop.Joined
import Derived.Test.YtigbnldmjafgmaaDoorTab
import Derived.Test.YtigbnldmjafgmaaDoorArgs
/- Several texts in one: XDeedVal XHousePair XHouseRefuses XHouseRefusesRow. -/
/- A deed among the arguments, by itself. -/
namespace Go.Proofs.YtigbnldmjafgmaaDoor
open Go.RowKit Go.Deep Go.ChangeShapes Go.WideShapes
set_option linter.unusedVariables false

set_option maxRecDepth 100000 in
theorem deed_val {H : Type} {enc : TypeId × Value → H} {w : World} {sp : Nat → Bool} {r : Reach} {b0 : Nat} {v : Value} {d : DataW H} {p : List MemPlace} (hval : Value.okWide Tryd.prog w r b0 25 v) (h : DataW.Trod enc Tryd.prog w 0 sp true 25 v d p)
    (hw : ∀ m ∈ d.weights Tryd.prog 25, m ≤ reachBytes) : ∃ x : DRow, v = .agg (cDRow x).toArray ∧ OkDRow w x := by
  have hu : Tryd.prog.underlying 25 = some (.struct (Tryd.prog.fieldsOf 25)) := by kernel_rfl
  obtain ⟨cs, rfl, _⟩ := okWide_struct hu hval
  obtain ⟨fuel, hf⟩ := h
  obtain ⟨x, hx, hq⟩ := deed_one hf hw
  refine ⟨x, ?_, hq⟩
  have hx' : cs.toList = cDRow x := hx
  rw [← hx']
theorem deed_ok {w w' : World} {x : DRow} (h : OkDRow w x) (hb : Below w.heap.size w w') : DeedAt w' x.1 x.2.1 x.2.2 := ⟨(edsAt_of h.2.2.2.2).after hb, h.2.2.1, h.2.1⟩
end Go.Proofs.YtigbnldmjafgmaaDoor

/- Two houses in a law, beside blocks of others. -/
namespace Go.Proofs.YtigbnldmjafgmaaDoor
open Go.RowKit
set_option linter.unusedVariables false

theorem Pair.mk {w0 w w' : World} {own1 own2 : Nat → Nat} {ga gb : Nat} {Qa Qb : List (Pl × Pg)} {Pa Pb : List Pg} (h1 : InLaw w0 own1 w ga Qa Pa) (h2 : InLaw w own2 w' gb Qb Pb) (hs : ∀ k, k < w.heap.size → own2 k = own1 k) : Pair w0 ga Pa gb Pb w' := by
  have hG : Goes own1 own2 (fun _ => False) w w' := ⟨h2.below.os, h2.below.tape, h2.below.output, h2.below.size, fun k hk _ => h2.below.block k hk, hs⟩
  have hsz := h1.below.size
  have g1 := h1.apart hG (fun _ _ h => h) (fun _ h => h.elim) h2.based
  refine ⟨own2, Qa, Qb, g1, ⟨g1.below, h2.house, h2.pages, h2.ok, h2.based, g1.low, fun i hi => Nat.le_trans hsz (h2.ids i hi)⟩, fun i hi hj => ?_⟩
  have := h1.house.lt i hi
  have := h2.ids i hj
  omega
theorem based_self (w : World) : Based (fun k => k) w := fun k hk => hk
/-- Two houses, and blocks that are not theirs. -/
def PairK (w0 : World) (ga : Nat) (Pa : List Pg) (gb : Nat) (Pb : List Pg) (K : Nat → Prop) (w : World) : Prop :=
  ∃ own Qa Qb, InLaw w0 own w ga Qa Pa ∧ InLaw w0 own w gb Qb Pb ∧ (∀ i ∈ idsH ga Qa, i ∉ idsH gb Qb) ∧ ∀ b, K b → b < w.heap.size ∧ own b ∉ idsH ga Qa ∧ own b ∉ idsH gb Qb
theorem PairK.pair {w0 w : World} {ga gb : Nat} {Pa Pb : List Pg} {K : Nat → Prop} (h : PairK w0 ga Pa gb Pb K w) : Pair w0 ga Pa gb Pb w := by
  obtain ⟨own, Qa, Qb, h1, h2, h3, _⟩ := h
  exact ⟨own, Qa, Qb, h1, h2, h3⟩
theorem PairK.swap {w0 w : World} {ga gb : Nat} {Pa Pb : List Pg} {K : Nat → Prop} (h : PairK w0 ga Pa gb Pb K w) : PairK w0 gb Pb ga Pa K w := by
  obtain ⟨own, Qa, Qb, h1, h2, h3, h4⟩ := h
  exact ⟨own, Qb, Qa, h2, h1, fun i hi hj => h3 i hj hi, fun b hb => ⟨(h4 b hb).1, (h4 b hb).2.2, (h4 b hb).2.1⟩⟩
theorem Pair.fresh {w0 w w' : World} {ga gb : Nat} {Pa Pb : List Pg} (h : Pair w0 ga Pa gb Pb w) (hb : Below w.heap.size w w') : PairK w0 ga Pa gb Pb (fun b => w.heap.size ≤ b ∧ b < w'.heap.size) w' := by
  obtain ⟨own, Qa, Qb, h1, h2, h3⟩ := h
  have l1 := h1.house.lt
  have l2 := h2.house.lt
  refine ⟨_, Qa, Qb, h1.after hb, h2.after hb, h3, fun b ⟨g1, g2⟩ => ⟨g2, fun hi => ?_, fun hi => ?_⟩⟩
  · unfold newO at hi
    rw [if_neg (by omega)] at hi
    have := l1 b hi
    omega
  · unfold newO at hi
    rw [if_neg (by omega)] at hi
    have := l2 b hi
    omega
theorem PairK.do_ {w0 w : World} {ga gb : Nat} {Pa Pb : List Pg} {K : Nat → Prop} (h : PairK w0 ga Pa gb Pb K w) (ht : Tab w) (d : Dd) (Ad : Option Addr) (cd : Nat) (hd : DeedAt w d Ad cd) :
    Calls Tryd.prog 12 #[.pointer (some ⟨ga, 0, none⟩), .agg (cDeed d Ad cd)] w fun e w' => e = .returned (.tuple #[.string (houseD Pa d).1, .int .i64 (houseD Pa d).2.1]) ∧ PairK w0 ga (houseD Pa d).2.2 gb Pb K w' ∧ Kept K w w' := by
  obtain ⟨own, Qa, Qb, h1, h2, h3, h4⟩ := h
  refine (do_law h1 ht d Ad cd hd).mono fun e w' ⟨he, own', Qa', g1, g2, g3⟩ => ⟨he, ⟨own', Qa', Qb, g1, h2.apart g2 (fun k hk hs => h3 k hs hk) h1.ids g1.based, fun i hi hj => ?_, fun b hb => ?_⟩, g2.os, g2.tape, g2.output, g2.size, fun b hb => g2.block b (h4 b hb).1 (h4 b hb).2.1⟩
  · rcases g3 i hi with h | h
    · exact h3 i h hj
    · have := h2.house.lt i hj
      omega
  · obtain ⟨k1, k2, k3⟩ := h4 b hb
    rw [g2.same b k1]
    refine ⟨Nat.lt_of_lt_of_le k1 g2.size, fun hi => ?_, k3⟩
    rcases g3 _ hi with h | h
    · exact k2 h
    · have := h1.based b k1
      omega
theorem deeds_row {w w' : World} {A : Option Addr} {len cap : Nat} {l : List DRow} (h : DeedsIn w A len cap l) (hb : Below w.heap.size w w') {k : Nat} {d : Dd} {Ad : Option Addr} {cd : Nat} (hk : l[k]? = some (d, Ad, cd)) : DeedAt w' d Ad cd := by
  have hx := h.2.2.2.1 _ (List.mem_of_getElem? hk)
  exact ⟨(edsAt_of hx.2.2.2.2).after hb, hx.2.2.1, hx.2.1⟩
end Go.Proofs.YtigbnldmjafgmaaDoor

/- HouseRefuses' walk: a deed that returns an error changes nothing, now or later. -/
namespace Go.Proofs.YtigbnldmjafgmaaDoor
open Go.RowKit
set_option linter.unusedVariables false

set_option maxRecDepth 100000 in
set_option maxHeartbeats 2000000 in
theorem houseRefuses_walk (A : Option Addr) (len cap : Nat) (l : List DRow) (x : DRow) (A2 : Option Addr) (len2 cap2 : Nat) (l2 : List DRow) {w : World} (hl : DeedsIn w A len cap l) (hx : OkDRow w x) (hl2 : DeedsIn w A2 len2 cap2 l2) (ht : Tab w) :
    Calls Tryd.prog 3 #[.slice A len cap, .agg (cDRow x).toArray, .slice A2 len2 cap2] w fun e w' => e = .returned (.bool true) ∧ Below w.heap.size w w' := by
  have hlen : len2 ≤ 1954687338211 := by have := hl2.2.2.1; omega
  have Hll := Lib.hid hl2.1
  obtain ⟨d, Ad, cd⟩ := x
  have hba : Below w.heap.size w (w.alloc (Obj.cells (cDeed d Ad cd) 25)) := (Below.refl _ _).alloc (Nat.le_refl _) _
  have hbd := Blk.new w 25 (cDeed d Ad cd)
  have Wk := Lib.hid (fun (own : Nat → Nat) (w1 : World) (hbs : Based own w1) (hb : Below w.heap.size w w1) => worked_law hbs (ht.after hb) A len cap l w hl hb)
  have Hx := Lib.hid (fun (w1 : World) (hb : Below w.heap.size w w1) => deed_ok hx hb)
  have Ht := Lib.hid (fun (w1 : World) (hb : Below w.heap.size w w1) => ht.after hb)
  have Hhs := Lib.hid (houses_any _ (ht.after hba))
  have hlst : (cDRow (d, Ad, cd)).toArray = #[.int .i64 d.kind, .int .i64 d.n, .string d.name, .string d.text, .slice Ad d.edits.length cd] := rfl
  rw [hlst]
  unfold cDeed at hba hbd Hhs
  clear hl hx ht hlst
  go_enter Tryd.func3, Tryd.ntmps3
  go_wp2_with fail
  refine Hhs.out.mono ?_
  rintro e w1 ⟨rfl, hb1⟩
  have hbd1 := hbd.after hb1
  have hb1 := chain hb1 hba
  clear Hhs hbd
  go_wp2_with fail
  refine (Wk.out _ w1 (based_self w1) hb1).mono ?_
  rintro e w2 ⟨ga, rfl, own2, Qa, h2, _⟩
  have hb2 := chain h2.below hb1
  go_wp2_with fail
  refine (Wk.out own2 w2 h2.based hb2).mono ?_
  rintro e w3 ⟨gb, rfl, own3, Qb, h3, hs3⟩
  have hp := Pair.mk h2 h3 hs3
  have hbd3 := hbd1.after hp.lone.below
  clear h2 h3 hs3 Wk
  generalize workP l = P at *
  have b0 := hbd3.cell 0
  have b1 := hbd3.cell 1
  have b2 := hbd3.cell 2
  have b3 := hbd3.cell 3
  have b4 := hbd3.cell 4
  have hb3 := chain hp.lone.below hb1
  have D := hp.do_ (Ht.out _ hb3) d Ad cd (Hx.out _ hb3)
  have hone := (house_one hp.lone.ok d)
  have hsame := hone.same
  rw [← hone.err] at hsame
  have Hsame := Lib.hid hsame
  have Hp := Lib.hid hp
  clear hone hsame hp hbd1 hbd3 Hx
  generalize houseD P d = R at *
  obtain ⟨T, E, P1⟩ := R
  have D := Lib.hid D
  by_cases hE : E = 0
  · subst hE
    go_wp2_with fail
    refine D.out.mono ?_
    rintro e w4 ⟨rfl, hp4⟩
    have hb4 := chain hp4.lone.below hb1
    go_wp2
    go_ret
    exact ⟨rfl, hb4⟩
  have qE : (E == 0) = false := by simpa using hE
  have hP1 : P1 = P := Hsame.out hE
  subst hP1
  clear hE Hsame
  go_wp2_with fail
  refine D.out.mono ?_
  rintro e w4 ⟨rfl, hp4⟩
  clear D b0 b1 b2 b3 b4 Hp
  have Hb1 := Lib.hid hb1
  clear hb3 hb2 hb1 hba
  go_wp2
  go_loopw [12, 13, 14, 15, 16, 39] (fun _ _ _ _ _ i wr => ∃ (k : Nat) (Pk : List Pg), k ≤ len2 ∧ i = .int .i64 k ∧ Pair w1 ga Pk gb Pk wr) (fun _ _ _ _ _ i _ => len2 - (intOf i).toNat)
  case atStart => exact ⟨0, P1, Nat.zero_le _, rfl, hp4⟩
  case round =>
    obtain ⟨k, Pk, hk, rfl, hpk⟩ := hrel
    by_cases hlt : k < len2
    · have hbr := chain hpk.lone.below Hb1.out
      obtain ⟨b, o, d, Ad, cd, rfl, hx, hd, _, _, c0, c1, c2, c3, c4⟩ := deeds_at hl2 hbr k hlt
      have hba : Below wr.heap.size wr (wr.alloc (Obj.cells #[.int .i64 d.kind, .int .i64 d.n, .string d.name, .string d.text, .slice Ad d.edits.length cd] 25)) := (Below.refl _ _).alloc (Nat.le_refl _) _
      have hbd := Blk.new wr 25 #[.int .i64 d.kind, .int .i64 d.n, .string d.name, .string d.text, .slice Ad d.edits.length cd]
      have hpa := hpk.fresh hba
      have hsz : (wr.alloc (Obj.cells #[.int .i64 d.kind, .int .i64 d.n, .string d.name, .string d.text, .slice Ad d.edits.length cd] 25)).heap.size = wr.heap.size + 1 := by simp
      rw [hsz] at hpa
      have D := hpa.do_ (Ht.out _ (chain hba hbr)) d Ad cd (hd.after hba)
      have D2 := fun (P' : List Pg) (w2 : World) (hp : PairK w1 ga P' gb Pk (fun b => wr.heap.size ≤ b ∧ b < wr.heap.size + 1) w2) => hp.swap.do_ (Ht.out _ (chain hp.pair.lone.below Hb1.out)) d Ad cd (deeds_row hl2 (chain hp.pair.lone.below Hb1.out) hx)
      have a0 := hbd.cell 0
      have a1 := hbd.cell 1
      have a2 := hbd.cell 2
      have a3 := hbd.cell 3
      have a4 := hbd.cell 4
      generalize houseD Pk d = R at *
      obtain ⟨T, E, P1⟩ := R
      have D := Lib.hid D
      have D2 := Lib.hid D2
      clear hba hpa hpk hd hx hbr hsz
      go_wp2_with fail
      refine D.out.mono ?_
      rintro e w4 ⟨rfl, hp4, hk4⟩
      have hbd4 : Blk w4 wr.heap.size 25 #[.int .i64 d.kind, .int .i64 d.n, .string d.name, .string d.text, .slice Ad d.edits.length cd] := by unfold Blk; rw [hk4.block _ ⟨Nat.le_refl _, by omega⟩]; exact hbd
      have g0 := hbd4.cell 0
      have g1 := hbd4.cell 1
      have g2 := hbd4.cell 2
      have g3 := hbd4.cell 3
      have g4 := hbd4.cell 4
      clear D a0 a1 a2 a3 a4 hbd hbd4 hk4
      go_wp2_with fail
      refine (D2.out _ _ hp4).mono ?_
      rintro e w5 ⟨rfl, hp5, _⟩
      have q1 : (T.toList == T.toList) = true := by simp
      have q2 : (E == E) = true := by simp
      have hp5' := hp5.swap.pair
      clear D2 hp4 hp5 g0 g1 g2 g3 g4
      go_wp2
      go_roundw
      case rel => exact ⟨k + 1, P1, by omega, by go_num, hp5'⟩
      case measure => simp only [intOf]; omega
    · obtain rfl : k = len2 := by omega
      clear hlt
      have N := Lib.hid (names_lone hpk.lone)
      have hl0 := namesB_len Pk
      have h6 := hpk.lone.ok.few
      go_wp2_with fail
      refine N.out.mono ?_
      rintro e w4 ⟨A4, c4, rfl, hown4, hb4⟩
      have hp4 := hpk.after hb4
      have N2 := Lib.hid (names_lone hp4.swap.lone)
      clear N
      go_wp2_with fail
      refine N2.out.mono ?_
      rintro e w5 ⟨A5, c5, rfl, hown5, hb5⟩
      have hp5 := hp4.after hb5
      have hbf := chain hp5.lone.below Hb1.out
      have E := Lib.hid (equalStr_any A4 A5 Pk.length Pk.length c4 c5 _ _ (namesB Pk) (namesB Pk) w5 (by omega) (by omega) hl0 hl0 (hown4.after hb5).toReads hown5.toReads)
      clear N2 hown4 hown5 hp4 hp5 hpk
      go_wp2_with fail
      refine E.out.mono ?_
      rintro e w6 ⟨rfl, hb6⟩
      go_wp2
      go_ret
      exact ⟨by simp, chain hb6 hbf⟩
end Go.Proofs.YtigbnldmjafgmaaDoor

/- HouseRefuses: for every input the law returns true, and each argument reads afterwards as it read before. -/
namespace Go.Proofs.YtigbnldmjafgmaaDoor.houseRefuses
open Go.ChangeShapes Go.WideShapes Go.ChangeAt Go.RowKit
open Go.ChangeMaps (open_string shut_string)
set_option linter.unusedVariables false

theorem own : ownKnob Tryd.prog.godebug = none := by kernel_rfl
theorem laidOut : laidOutB Tryd.prog = true := by kernel_rfl

set_option maxRecDepth 100000 in
theorem lifted (os : Os) (started : os.Started) (H : Type) (enc : TypeId × Value → H) :
    ReturnsInHanded {} Tryd.checked os 3 .any (fun w args => (Rows.houseRefusesSpec.pre enc Tryd.prog Tryd.f3 Rows.houseRefusesRow.domain false w args ∧ laidMetH Tryd.prog Rows.houseRefusesRow.laid w) ∧ sizedMet enc Tryd.prog Tryd.f3 (OpenSpec.ofChange Rows.houseRefusesSpec) false w args)
      (Rows.houseRefusesSpec.post enc Tryd.prog Tryd.f3 false true false false) := by
  refine returnsInHanded_of_change_and (C := Tryd.checked) (X := fun w _ => laidMetH Tryd.prog Rows.houseRefusesRow.laid w) (fun _ _ _ hh h => h.of_heap hh) own started (by kernel_rfl) Tryd.func3
    (ChangeSpec.witness_shaped (enc := enc) (C := Tryd.checked) (os := os) (X := fun w _ => laidMetH Tryd.prog Rows.houseRefusesRow.laid w) false (World.laidAll Tryd.prog os Rows.houseRefusesRow.laid) #[.slice none 0 0, .agg #[.int .i64 0, .int .i64 0, .string ByteArray.empty, .string ByteArray.empty, .slice none 0 0], .slice none 0 0] 8 (World.laidAll_os _ _ _)
      (World.shaped_of_ZipB (by kernel_rfl) (by kernel_rfl)) (by kernel_rfl) (by kernel_rfl) (by kernel_rfl)
      (by rw [MakeChecks.laidMetH_plain _ _ _ (by kernel_rfl)]; exact laidMet_laidAll _ (by kernel_rfl) (by kernel_rfl))) ?_
  intro W base args ds gs before hval0 hW hcnd hsz0 hL _
  have hval : ∀ (j : Nat) t v, Tryd.f3.params[j]? = some t → args[j]? = some v → Value.okWide Tryd.prog W .any base t v := hval0
  have hsz : (DataW.weightsEach Tryd.prog (Tryd.f3.params.toList ++ Rows.houseRefusesSpec.plain.varTypes Tryd.prog) (ds ++ gs)).all (· ≤ reachBytes) = true := hsz0
  have hW' := hW
  obtain ⟨p, q, hA0, hV, rfl, hfz, hnd⟩ := hW
  have hA : DataW.TrodAll enc Tryd.prog W 0 (fun _ => true) true Tryd.f3.params.toList args.toList ds p := hA0
  rw [Tryd.params3] at hA hval hsz
  obtain ⟨v0, vs0, d0, ds0, p0, q0, hargs, rfl, rfl, h0, r0⟩ := trodAll_cons hA
  obtain ⟨v1, vs1, d1, ds1, p1, q1, rfl, rfl, rfl, h1, r1⟩ := trodAll_cons r0
  obtain ⟨v2, vs2, d2, ds2, p2, q2, rfl, rfl, rfl, h2, r2⟩ := trodAll_cons r1
  obtain ⟨rfl, rfl, rfl⟩ := trodAll_nil r2
  obtain rfl : args = #[v0, v1, v2] := by cases args; simp_all
  obtain ⟨rfl, rfl⟩ := trodVars_none hV
  obtain ⟨a0, len0, cap0, rfl⟩ := okWide_slice Tryd.underlying22 (hval 0 22 v0 rfl rfl)
  have k0 := h0
  have lt0 : ∀ x ∈ p0, x.block < W.heap.size := by obtain ⟨m, hm⟩ := k0; exact DataW.trod_lt m _ _ _ hm
  obtain ⟨z0, w0⟩ : ∃ zs, DeedsIn W a0 len0 cap0 zs := deeds_in h0 lt0 (fun n hn => of_decide_eq_true (List.all_eq_true.1 hsz n (DataW.weights_mem_each (j := 0) rfl rfl n hn)))
  have lt1 : ∀ x ∈ p1, x.block < W.heap.size := by obtain ⟨m, hm⟩ := h1; exact DataW.trod_lt m _ _ _ hm
  obtain ⟨a1, rfl, w1⟩ := deed_val (hval 1 25 v1 rfl rfl) h1 (fun n hn => of_decide_eq_true (List.all_eq_true.1 hsz n (DataW.weights_mem_each (j := 1) rfl rfl n hn)))
  obtain ⟨a2, len2, cap2, rfl⟩ := okWide_slice Tryd.underlying22 (hval 2 22 v2 rfl rfl)
  have k2 := h2
  have lt2 : ∀ x ∈ p2, x.block < W.heap.size := by obtain ⟨m, hm⟩ := k2; exact DataW.trod_lt m _ _ _ hm
  obtain ⟨z2, w2⟩ : ∃ zs, DeedsIn W a2 len2 cap2 zs := deeds_in h2 lt2 (fun n hn => of_decide_eq_true (List.all_eq_true.1 hsz n (DataW.weights_mem_each (j := 2) rfl rfl n hn)))
  clear hA0 hval0
  have htab : Tab W := tab_of_laid hL (by kernel_rfl) (by kernel_rfl)
  refine (houseRefuses_walk a0 len0 cap0 z0 a1 a2 len2 cap2 z2 w0 w1 w2 (w := W) htab).mono fun e W' ⟨he, bel⟩ => ?_
  subst he
  exact ⟨_, rfl, _, _, _, [], _, [], hW', trodAll_mk1 (shut_bool Tryd.underlying4 _), (trodAll_cons_mk (Below.trod laidOut (by kernel_rfl) (of_decide_eq_true (by kernel_rfl)) k0 bel lt0) (trodAll_cons_mk (Below.trod laidOut (by kernel_rfl) (of_decide_eq_true (by kernel_rfl)) h1 bel lt1) (trodAll_cons_mk (Below.trod laidOut (by kernel_rfl) (of_decide_eq_true (by kernel_rfl)) k2 bel lt2) trodAll_mk0))), rfl, bel.frame _, fun h => by cases h⟩

theorem holds : Rows.HouseRefusesSaid :=
  OpenClaim.holds_of_wide 3 Tryd.f3 rfl rfl rfl rfl rfl rfl rfl ⟨rfl, rfl, rfl, rfl, rfl⟩ rfl rfl rfl rfl rfl (by kernel_rfl) Tryd.func3 (by kernel_rfl)
    (of_decide_eq_true (by kernel_rfl)) (by unfold Func.isWrapper; first | (rw [if_pos (by decide +kernel)]; kernel_rfl) | (rw [if_neg (by decide +kernel)]; exact ⟨rfl, rfl⟩))
    (fun os started H enc _ => lifted os started H enc)
set_option maxRecDepth 100000 in
theorem card_holds : Rows.HouseRefusesCardSaid :=
  Claim7.holds_tied_plain_at .later [] Rows.houseRefusesCard.laidKinds true Rows.houseRefusesCard.stood.harness false
    holds (fun _ h => by cases h) (by kernel_rfl) (fun _ h => by cases h) houseRefuses_row_tie rfl ⟨rfl, rfl⟩ (by kernel_rfl) rfl
    (fun f fn hf hfn => by
      obtain rfl : f = 3 := Option.some.inj ((show Tryd.prog.funcNamed "quillward/quillkeep.HouseRefuses" = some 3 by kernel_rfl).symm.trans hf) |>.symm
      obtain rfl : fn = Tryd.f3 := (Option.some.inj (Tryd.func3.symm.trans hfn)).symm
      exact ⟨by kernel_rfl, fun j t ht => by
        have hall : (Tryd.f3.params.toList.all fun u => !Tryd.prog.wantsStandIn u) = true := by kernel_rfl
        exact (show Tryd.prog.wantsStandIn t = false by simpa using List.all_eq_true.1 hall t (by simpa using Array.mem_of_getElem? ht))⟩)
    (by kernel_rfl)
#print axioms card_holds
end Go.Proofs.YtigbnldmjafgmaaDoor.houseRefuses

