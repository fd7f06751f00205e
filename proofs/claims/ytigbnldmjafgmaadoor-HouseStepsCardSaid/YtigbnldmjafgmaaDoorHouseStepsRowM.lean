import Derived.Test.YtigbnldmjafgmaaDoorHouseG2
import Derived.Test.YtigbnldmjafgmaaDoorRows
import Derived.Test.YtigbnldmjafgmaaDoorCards
import Derived.Test.YtigbnldmjafgmaaDoorTie
import Derived.WalkKit
import Derived.ProofKit
import Derived.OpenShut
import Derived.ShutString
import Derived.SizedLaws
import Derived.ChangeOld
import Derived.Below
import Derived.LaidMore
import Derived.Lay
import Derived.MakeChecks
import Derived.SevenTiedAt
import Derived.Stop.Joined
import Derived.Test.YtigbnldmjafgmaaDoorTab
import Derived.Test.YtigbnldmjafgmaaDoorArgs
/- Several texts in one: XHouseStepsP XHousePair XHouseSteps XHouseStepsRow. -/
/- Plain: a text that was made is undone and redone. -/
namespace Go.Proofs.YtigbnldmjafgmaaDoor
open Go.RowKit
set_option linter.unusedVariables false

theorem textP_some {P : List Pg} {name : ByteArray} {p : Pg} (h : pageOf name P = some p) : textP P name = (p.t, true) := by unfold textP; rw [h]
theorem textP_none {P : List Pg} {name : ByteArray} (h : pageOf name P = none) : textP P name = (⟨#[]⟩, false) := by unfold textP; rw [h]
theorem oneD_some {full : Prop} [Decidable full] {p : Pg} {d : Dd} (hk : 2 ≤ d.kind ∧ d.kind ≤ 10) (h9 : d.kind ≠ 9) (hn : nameE d.name = 0) : oneD full (some p) d = ((pageD p d).1, (pageD p d).2.1, some (pageD p d).2.2) := by
  unfold oneD
  rw [if_neg (by omega), if_neg (by rw [hn]; decide)]
  show (if d.kind = 1 then _ else _) = _
  rw [if_neg (by omega), if_neg h9]
theorem oneD_none {full : Prop} [Decidable full] {d : Dd} (hk : 2 ≤ d.kind ∧ d.kind ≤ 10) : (oneD full none d).2.1 ≠ 0 := by
  unfold oneD
  rw [if_neg (by omega)]
  by_cases hn : nameE d.name ≠ 0
  · rw [if_pos hn]; exact hn
  · rw [if_neg hn]
    show (if d.kind = 1 then _ else _ : ByteArray × Int × Option Pg).2.1 ≠ 0
    rw [if_neg (by omega)]
    decide
theorem make_zero {p : Pg} {text : ByteArray} (h : (makeP p text).1 = 0) : ∃ l, checkE p.t.size l = 0 ∧ makeP p text = (0, { p with t := text, B := (p.B ++ [p.t]).drop (p.B.length + 1 - 30), O := [], H := p.H ++ [(101 :: writeL l, text)] }) := by
  unfold makeP at h ⊢
  by_cases h0 : ce p.t text ≠ 0
  · rw [if_pos h0] at h; exact absurd (show (2 : Int) = 0 from h) (by decide)
  rw [if_neg h0] at h ⊢
  by_cases h20 : 20 < cv p.t text
  · rw [if_pos h20] at h; exact absurd (show (11 : Int) = 0 from h) (by decide)
  rw [if_neg h20] at h ⊢
  have hz : ce p.t text = 0 := by simpa using h0
  obtain ⟨m1, m2, _⟩ := makes_law p.t text hz (by omega)
  unfold editP at h ⊢
  by_cases hl : makeE p.t text = []
  · rw [if_pos hl] at h; exact absurd (show (5 : Int) = 0 from h) (by decide)
  rw [if_neg hl] at h ⊢
  by_cases hE : leafE p.t p.H (makeE p.t text) ≠ 0
  · rw [if_pos hE] at h; exact absurd h hE
  rw [if_neg hE]
  have hE0 : leafE p.t p.H (makeE p.t text) = 0 := by simpa using hE
  have e2 : leafT p.t p.H (makeE p.t text) = text := by unfold leafT; rw [if_pos hE0]; exact m2
  have e3 : leafH p.t p.H (makeE p.t text) = p.H ++ [(101 :: writeL (makeE p.t text), text)] := by unfold leafH; rw [if_pos hE0, e2]
  exact ⟨makeE p.t text, m1, by rw [e2, e3]⟩
theorem last_back {B : List ByteArray} {t : ByteArray} (h : B.length ≤ 30) : (B ++ [t]).drop (B.length + 1 - 30) ≠ [] ∧ ((B ++ [t]).drop (B.length + 1 - 30)).getLastD ⟨#[]⟩ = t := by
  have e : (B ++ [t]).drop (B.length + 1 - 30) = B.drop (B.length + 1 - 30) ++ [t] := by rw [List.drop_append_of_le_length (by omega)]
  rw [e]
  exact ⟨by simp, by rw [List.getLastD_concat]⟩

theorem steps_no {P : List Pg} (hP : HOk P) (name text : ByteArray) (h : (houseD P (dd 10 0 name text)).2.1 ≠ 0 ∨ (textP P name).2 = false) : (houseD P (dd 10 0 name text)).2.1 ≠ 0 ∧ (houseD P (dd 10 0 name text)).2.2 = P := by
  have ho := house_one hP (dd 10 0 name text)
  have key : (houseD P (dd 10 0 name text)).2.1 ≠ 0 := by
    rcases h with h | h
    · exact h
    · rw [ho.err]
      have hnone : pageOf name P = none := by
        cases hp : pageOf name P with
        | none => rfl
        | some p => rw [textP_some hp] at h; cases h
      show (oneD (P.length = 6) (pageOf name P) (dd 10 0 name text)).2.1 ≠ 0
      rw [hnone]
      exact oneD_none ⟨by show (2 : Int) ≤ 10; decide, by show (10 : Int) ≤ 10; decide⟩
  exact ⟨key, ho.same (by rw [← ho.err]; exact key)⟩
theorem steps_yes {P : List Pg} (hP : HOk P) (hpg : ∀ p ∈ P, p.Ok) (name text : ByteArray) {P1 P2 P3 : List Pg} {T1 T2 T3 : ByteArray} {E2 E3 : Int} (h1 : houseD P (dd 10 0 name text) = (T1, 0, P1)) (h2 : houseD P1 (dd 3 0 name ⟨#[]⟩) = (T2, E2, P2)) (h3 : houseD P2 (dd 4 0 name ⟨#[]⟩) = (T3, E3, P3)) :
    (textP P name).2 = true ∧ textP P1 name = (text, true) ∧ (E2 = 11 ∨ (E2 = 0 ∧ textP P2 name = ((textP P name).1, true) ∧ ((E3 = 0 ∧ textP P3 name = (text, true)) ∨ (E3 = 11 ∧ textP P3 name = ((textP P name).1, true))))) := by
  have ho := house_one hP (dd 10 0 name text)
  rw [h1] at ho
  have hk10 : 2 ≤ (dd 10 0 name text).kind ∧ (dd 10 0 name text).kind ≤ 10 := ⟨by show (2 : Int) ≤ 10; decide, by show (10 : Int) ≤ 10; decide⟩
  have hk3 : 2 ≤ (dd 3 0 name ⟨#[]⟩).kind ∧ (dd 3 0 name ⟨#[]⟩).kind ≤ 10 := ⟨by show (2 : Int) ≤ 3; decide, by show (3 : Int) ≤ 10; decide⟩
  have hk4 : 2 ≤ (dd 4 0 name ⟨#[]⟩).kind ∧ (dd 4 0 name ⟨#[]⟩).kind ≤ 10 := ⟨by show (2 : Int) ≤ 4; decide, by show (4 : Int) ≤ 10; decide⟩
  cases hp : pageOf name P with
  | none =>
    exfalso
    have e := ho.err
    have hq : pageOf (dd 10 0 name text).name P = none := hp
    rw [hq] at e
    exact oneD_none hk10 e.symm
  | some p =>
    have hpm := pageOf_mem hp
    have hpo := hpg p hpm
    have hn : nameE name = 0 := by rw [← (pageOf_some hp).1]; exact hP.nm p hpm
    have hq : pageOf (dd 10 0 name text).name P = some p := hp
    rw [hq, oneD_some hk10 (by show (10 : Int) ≠ 9; decide) hn, pageD10 (show (dd 10 0 name text).kind = 10 from rfl)] at ho
    have e1 : (makeP p text).1 = 0 := ho.err.symm
    obtain ⟨l, _, hm⟩ := make_zero e1
    have hp1 : pageOf name P1 = some (makeP p text).2 := ho.page
    rw [hm] at hp1
    refine ⟨by rw [textP_some hp], by rw [textP_some hp1], ?_⟩
    have ho2 := house_one ho.ok (dd 3 0 name ⟨#[]⟩)
    have hq2 : pageOf (dd 3 0 name ⟨#[]⟩).name P1 = _ := hp1
    rw [h2] at ho2
    have hlb := last_back (t := p.t) (show p.B.length ≤ 30 by have := hpo.few; omega)
    have hb := ho2
    rw [hq2, oneD_some hk3 (by show (3 : Int) ≠ 9; decide) hn, pageD3 (show (dd 3 0 name ⟨#[]⟩).kind = 3 from rfl)] at hb
    unfold backP at hb
    by_cases hf : fits (p.H ++ [(101 :: writeL l, text)]) (((p.B ++ [p.t]).drop (p.B.length + 1 - 30)).getLastD ⟨#[]⟩)
    · rw [if_neg hlb.1, if_pos hf] at hb
      have e2 : E2 = 0 := hb.err
      have hp2 : pageOf name P2 = some _ := hb.page
      right
      refine ⟨e2, ?_, ?_⟩
      · rw [textP_some hp2, textP_some hp]
        exact Prod.ext hlb.2 rfl
      have hq3 : pageOf (dd 4 0 name ⟨#[]⟩).name P2 = _ := hp2
      have ho3 := house_one ho2.ok (dd 4 0 name ⟨#[]⟩)
      rw [h3] at ho3
      have hb3 := ho3
      rw [hq3, oneD_some hk4 (by show (4 : Int) ≠ 9; decide) hn, pageD4 (show (dd 4 0 name ⟨#[]⟩).kind = 4 from rfl)] at hb3
      unfold onP at hb3
      rw [if_neg (by simp)] at hb3
      split at hb3
      · left
        refine ⟨hb3.err, ?_⟩
        rw [textP_some (show pageOf name P3 = some _ from hb3.page)]
        rfl
      · right
        have e3 : E3 = 11 := hb3.err
        refine ⟨e3, ?_⟩
        rw [textP_some (show pageOf name P3 = some _ from hb3.page), textP_some hp]
        exact Prod.ext hlb.2 rfl
    · rw [if_neg hlb.1, if_neg hf] at hb
      exact .inl hb.err
end Go.Proofs.YtigbnldmjafgmaaDoor

/- Two houses in a law, beside blocks of others. -/
namespace Go.Proofs.YtigbnldmjafgmaaDoor
open Go.RowKit
set_option linter.unusedVariables false

theorem Pair.mk {w0 w w' : World} {own1 own2 : Nat → Nat} {ga gb : Nat} {Qa Qb : List (Pl × Pg)} {Pa Pb : List Pg} (h1 : InLaw w0 own1 w ga Qa Pa) (h2 : InLaw w own2 w' gb Qb Pb) (hs : ∀ k, k < w.heap.size → own2 k = own1 k) : Pair w0 ga Pa gb Pb w' := by
  have hG : Goes own1 own2 (fun _ => False) w w' := ⟨h2.below.os, h2.below.tape, h2.below.output, h2.below.size, fun k hk _ => h2.below.block k hk, hs⟩
  have hsz := h1.below.size
  have g1 := h1.apart hG (fun _ _ h => h) (fun _ h => h.elim) h2.based
  refine ⟨own2, Qa, Qb, g1, ⟨g1.below, h2.house, h2.pages, h2.ok, h2.based, g1.low, fun i hi => Nat.le_trans hsz (h2.ids i hi)⟩, fun i hi hj => ?_⟩
  have := h1.house.lt i hi
  have := h2.ids i hj
  omega
theorem based_self (w : World) : Based (fun k => k) w := fun k hk => hk
/-- Two houses, and blocks that are not theirs. -/
def PairK (w0 : World) (ga : Nat) (Pa : List Pg) (gb : Nat) (Pb : List Pg) (K : Nat → Prop) (w : World) : Prop :=
  ∃ own Qa Qb, InLaw w0 own w ga Qa Pa ∧ InLaw w0 own w gb Qb Pb ∧ (∀ i ∈ idsH ga Qa, i ∉ idsH gb Qb) ∧ ∀ b, K b → b < w.heap.size ∧ own b ∉ idsH ga Qa ∧ own b ∉ idsH gb Qb
theorem PairK.pair {w0 w : World} {ga gb : Nat} {Pa Pb : List Pg} {K : Nat → Prop} (h : PairK w0 ga Pa gb Pb K w) : Pair w0 ga Pa gb Pb w := by
  obtain ⟨own, Qa, Qb, h1, h2, h3, _⟩ := h
  exact ⟨own, Qa, Qb, h1, h2, h3⟩
theorem PairK.swap {w0 w : World} {ga gb : Nat} {Pa Pb : List Pg} {K : Nat → Prop} (h : PairK w0 ga Pa gb Pb K w) : PairK w0 gb Pb ga Pa K w := by
  obtain ⟨own, Qa, Qb, h1, h2, h3, h4⟩ := h
  exact ⟨own, Qb, Qa, h2, h1, fun i hi hj => h3 i hj hi, fun b hb => ⟨(h4 b hb).1, (h4 b hb).2.2, (h4 b hb).2.1⟩⟩
theorem Pair.fresh {w0 w w' : World} {ga gb : Nat} {Pa Pb : List Pg} (h : Pair w0 ga Pa gb Pb w) (hb : Below w.heap.size w w') : PairK w0 ga Pa gb Pb (fun b => w.heap.size ≤ b ∧ b < w'.heap.size) w' := by
  obtain ⟨own, Qa, Qb, h1, h2, h3⟩ := h
  have l1 := h1.house.lt
  have l2 := h2.house.lt
  refine ⟨_, Qa, Qb, h1.after hb, h2.after hb, h3, fun b ⟨g1, g2⟩ => ⟨g2, fun hi => ?_, fun hi => ?_⟩⟩
  · unfold newO at hi
    rw [if_neg (by omega)] at hi
    have := l1 b hi
    omega
  · unfold newO at hi
    rw [if_neg (by omega)] at hi
    have := l2 b hi
    omega
theorem PairK.do_ {w0 w : World} {ga gb : Nat} {Pa Pb : List Pg} {K : Nat → Prop} (h : PairK w0 ga Pa gb Pb K w) (ht : Tab w) (d : Dd) (Ad : Option Addr) (cd : Nat) (hd : DeedAt w d Ad cd) :
    Calls Tryd.prog 12 #[.pointer (some ⟨ga, 0, none⟩), .agg (cDeed d Ad cd)] w fun e w' => e = .returned (.tuple #[.string (houseD Pa d).1, .int .i64 (houseD Pa d).2.1]) ∧ PairK w0 ga (houseD Pa d).2.2 gb Pb K w' ∧ Kept K w w' := by
  obtain ⟨own, Qa, Qb, h1, h2, h3, h4⟩ := h
  refine (do_law h1 ht d Ad cd hd).mono fun e w' ⟨he, own', Qa', g1, g2, g3⟩ => ⟨he, ⟨own', Qa', Qb, g1, h2.apart g2 (fun k hk hs => h3 k hs hk) h1.ids g1.based, fun i hi hj => ?_, fun b hb => ?_⟩, g2.os, g2.tape, g2.output, g2.size, fun b hb => g2.block b (h4 b hb).1 (h4 b hb).2.1⟩
  · rcases g3 i hi with h | h
    · exact h3 i h hj
    · have := h2.house.lt i hj
      omega
  · obtain ⟨k1, k2, k3⟩ := h4 b hb
    rw [g2.same b k1]
    refine ⟨Nat.lt_of_lt_of_le k1 g2.size, fun hi => ?_, k3⟩
    rcases g3 _ hi with h | h
    · exact k2 h
    · have := h1.based b k1
      omega
theorem deeds_row {w w' : World} {A : Option Addr} {len cap : Nat} {l : List DRow} (h : DeedsIn w A len cap l) (hb : Below w.heap.size w w') {k : Nat} {d : Dd} {Ad : Option Addr} {cd : Nat} (hk : l[k]? = some (d, Ad, cd)) : DeedAt w' d Ad cd := by
  have hx := h.2.2.2.1 _ (List.mem_of_getElem? hk)
  exact ⟨(edsAt_of hx.2.2.2.2).after hb, hx.2.2.1, hx.2.1⟩
end Go.Proofs.YtigbnldmjafgmaaDoor

/- HouseSteps' walk: changes can be undone and redone. -/
namespace Go.Proofs.YtigbnldmjafgmaaDoor
open Go.RowKit
set_option linter.unusedVariables false

theorem textP_small {P : List Pg} (hpg : ∀ p ∈ P, p.Ok) (name : ByteArray) : (textP P name).1.size ≤ 200 := by
  unfold textP
  cases h : pageOf name P with
  | none => decide
  | some p => exact (hpg p (pageOf_mem h)).text
set_option maxRecDepth 100000 in
set_option maxHeartbeats 4000000 in
theorem houseSteps_walk (A : Option Addr) (len cap : Nat) (l : List DRow) (name text : ByteArray) {w : World} (hl : DeedsIn w A len cap l) (hn : name.size ≤ 140737488351232) (htx : text.size ≤ 140737488351232) (ht : Tab w) :
    Calls Tryd.prog 4 #[.slice A len cap, .string name, .string text] w fun e w' => e = .returned (.bool true) ∧ Below w.heap.size w w' := by
  have Wk := Lib.hid (fun (w1 : World) (hb : Below w.heap.size w w1) => worked_law (based_self w1) (ht.after hb) A len cap l w hl hb)
  have Ht := Lib.hid (fun (w1 : World) (hb : Below w.heap.size w w1) => ht.after hb)
  have bk := buildDeedK
  have bt := buildDeedT
  have Hn := Lib.hid hn
  have Hhs := Lib.hid (houses_any _ ht)
  clear hl ht hn
  go_enter Tryd.func4, Tryd.ntmps4
  go_wp2_with fail
  refine Hhs.out.mono ?_
  rintro e w1 ⟨rfl, hb1⟩
  go_wp2_with fail
  refine (Wk.out w1 hb1).mono ?_
  rintro e w2 ⟨gh, rfl, own2, Q, h2, _⟩
  have h2 : Lone w1 gh (workP l) w2 := ⟨own2, Q, h2⟩
  clear Wk Hhs
  generalize workP l = P at *
  have hok := h2.ok
  have hpg := h2.pg
  have Ht1 := Lib.hid (fun (P : List Pg) (w2 : World) (h : Lone w1 gh P w2) => Ht.out _ (chain h.below hb1))
  have Hb1 := Lib.hid hb1
  obtain ⟨R1, hR1⟩ : ∃ R, houseD P (dd 10 0 name text) = R := ⟨_, rfl⟩
  have X := Lib.hid (textOf_lone h2 (Ht1.out _ _ h2) name Hn.out)
  have HNo := Lib.hid (steps_no hok name text)
  have HYes := Lib.hid (fun P1 P2 P3 T1 T2 T3 E2 E3 => steps_yes (P1 := P1) (P2 := P2) (P3 := P3) (T1 := T1) (T2 := T2) (T3 := T3) (E2 := E2) (E3 := E3) hok hpg name text)
  obtain ⟨T1, E1, P1⟩ := R1
  rw [hR1] at HNo
  have HR1 := Lib.hid hR1
  have D1 := Lib.hid (fun (w3 : World) (h : Lone w1 gh P w3) => do_told 10 0 name text HR1.out Hn.out (by decide) h (Ht1.out _ _ h))
  clear hR1 hok hpg h2 hb1
  by_cases hE : E1 = 0
  case neg =>
    obtain ⟨_, hP1⟩ := HNo.out (.inl hE)
    obtain rfl : P1 = P := hP1
    have qE : (E1 != 0) = true := by simpa using hE
    have X2 := Lib.hid (fun (w3 : World) (h : Lone w1 gh P1 w3) => textOf_lone h (Ht1.out _ _ h) name Hn.out)
    clear HNo HYes hE
    generalize hT : (textP P1 name).1 = T at *
    generalize hB : (textP P1 name).2 = B at *
    clear hT hB
    go_wp2_with fail
    refine X.out.mono ?_
    rintro e w3 ⟨rfl, h3⟩
    go_wp2_with fail
    refine (D1.out _ h3).mono ?_
    rintro e w4 ⟨rfl, h4⟩
    go_wp2_with fail
    refine (X2.out _ h4).mono ?_
    rintro e w5 ⟨rfl, h5⟩
    have q1 : (T.toList == T.toList) = true := by simp
    have q2 : (B == B) = true := by simp
    have hbf := chain h5.below Hb1.out
    go_wp2
    go_ret
    exact ⟨rfl, hbf⟩
  subst hE
  obtain ⟨R2, hR2⟩ : ∃ R, houseD P1 (dd 3 0 name ⟨#[]⟩) = R := ⟨_, rfl⟩
  obtain ⟨T2, E2, P2⟩ := R2
  obtain ⟨R3, hR3⟩ : ∃ R, houseD P2 (dd 4 0 name ⟨#[]⟩) = R := ⟨_, rfl⟩
  obtain ⟨T3, E3, P3⟩ := R3
  obtain ⟨y1, y2, y3⟩ := HYes.out P1 P2 P3 T1 T2 T3 E2 E3 HR1.out hR2 hR3
  have D2 := Lib.hid (fun (w3 : World) (h : Lone w1 gh P1 w3) => do_told 3 0 name ⟨#[]⟩ hR2 Hn.out (by decide) h (Ht1.out _ _ h))
  have D3 := Lib.hid (fun (w3 : World) (h : Lone w1 gh P2 w3) => do_told 4 0 name ⟨#[]⟩ hR3 Hn.out (by decide) h (Ht1.out _ _ h))
  have X1 := fun (w3 : World) (h : Lone w1 gh P1 w3) => textOf_lone h (Ht1.out _ _ h) name Hn.out
  have X2 := fun (w3 : World) (h : Lone w1 gh P2 w3) => textOf_lone h (Ht1.out _ _ h) name Hn.out
  have X3 := fun (w3 : World) (h : Lone w1 gh P3 w3) => textOf_lone h (Ht1.out _ _ h) name Hn.out
  rw [y2] at X1
  rw [y1] at X
  have X1 := Lib.hid X1
  generalize (textP P name).1 = was at *
  have q1 : (text.toList == text.toList) = true := by simp
  have q2 : (was.toList == was.toList) = true := by simp
  clear y1 y2 HNo HYes hR2 hR3
  rcases y3 with rfl | ⟨rfl, y4, y5⟩
  · clear X2 X3
    go_wp2_with fail
    refine X.out.mono ?_
    rintro e w3 ⟨rfl, h3⟩
    go_wp2_with fail
    refine (D1.out _ h3).mono ?_
    rintro e w4 ⟨rfl, h4⟩
    go_wp2_with fail
    refine (X1.out _ h4).mono ?_
    rintro e w5 ⟨rfl, h5⟩
    go_wp2_with fail
    refine (D2.out _ h5).mono ?_
    rintro e w6 ⟨rfl, h6⟩
    have hbf := chain h6.below Hb1.out
    go_wp2
    go_ret
    exact ⟨rfl, hbf⟩
  rw [y4] at X2
  have X2 := Lib.hid X2
  clear y4
  rcases y5 with ⟨rfl, y6⟩ | ⟨rfl, y6⟩
  all_goals
    rw [y6] at X3
    have X3 := Lib.hid X3
    clear y6
    go_wp2_with fail
    refine X.out.mono ?_
    rintro e w3 ⟨rfl, h3⟩
    go_wp2_with fail
    refine (D1.out _ h3).mono ?_
    rintro e w4 ⟨rfl, h4⟩
    go_wp2_with fail
    refine (X1.out _ h4).mono ?_
    rintro e w5 ⟨rfl, h5⟩
    go_wp2_with fail
    refine (D2.out _ h5).mono ?_
    rintro e w6 ⟨rfl, h6⟩
    go_wp2_with fail
    refine (X2.out _ h6).mono ?_
    rintro e w7 ⟨rfl, h7⟩
    go_wp2_with fail
    refine (D3.out _ h7).mono ?_
    rintro e w8 ⟨rfl, h8⟩
    go_wp2_with fail
    refine (X3.out _ h8).mono ?_
    rintro e w9 ⟨rfl, h9⟩
    have hbf := chain h9.below Hb1.out
    go_wp2
    go_ret
    exact ⟨rfl, hbf⟩
end Go.Proofs.YtigbnldmjafgmaaDoor

/- HouseSteps: for every input the law returns true, and each argument reads afterwards as it read before. -/
namespace Go.Proofs.YtigbnldmjafgmaaDoor.houseSteps
open Go.ChangeShapes Go.WideShapes Go.ChangeAt Go.RowKit
open Go.ChangeMaps (open_string shut_string)
set_option linter.unusedVariables false

theorem own : ownKnob Tryd.prog.godebug = none := by kernel_rfl
theorem laidOut : laidOutB Tryd.prog = true := by kernel_rfl

set_option maxRecDepth 100000 in
theorem lifted (os : Os) (started : os.Started) (H : Type) (enc : TypeId × Value → H) :
    ReturnsInHanded {} Tryd.checked os 4 .any (fun w args => (Rows.houseStepsSpec.pre enc Tryd.prog Tryd.f4 Rows.houseStepsRow.domain false w args ∧ laidMetH Tryd.prog Rows.houseStepsRow.laid w) ∧ sizedMet enc Tryd.prog Tryd.f4 (OpenSpec.ofChange Rows.houseStepsSpec) false w args)
      (Rows.houseStepsSpec.post enc Tryd.prog Tryd.f4 false true false false) := by
  refine returnsInHanded_of_change_and (C := Tryd.checked) (X := fun w _ => laidMetH Tryd.prog Rows.houseStepsRow.laid w) (fun _ _ _ hh h => h.of_heap hh) own started (by kernel_rfl) Tryd.func4
    (ChangeSpec.witness_shaped (enc := enc) (C := Tryd.checked) (os := os) (X := fun w _ => laidMetH Tryd.prog Rows.houseStepsRow.laid w) false (World.laidAll Tryd.prog os Rows.houseStepsRow.laid) #[.slice none 0 0, .string ByteArray.empty, .string ByteArray.empty] 8 (World.laidAll_os _ _ _)
      (World.shaped_of_ZipB (by kernel_rfl) (by kernel_rfl)) (by kernel_rfl) (by kernel_rfl) (by kernel_rfl)
      (by rw [MakeChecks.laidMetH_plain _ _ _ (by kernel_rfl)]; exact laidMet_laidAll _ (by kernel_rfl) (by kernel_rfl))) ?_
  intro W base args ds gs before hval0 hW hcnd hsz0 hL _
  have hval : ∀ (j : Nat) t v, Tryd.f4.params[j]? = some t → args[j]? = some v → Value.okWide Tryd.prog W .any base t v := hval0
  have hsz : (DataW.weightsEach Tryd.prog (Tryd.f4.params.toList ++ Rows.houseStepsSpec.plain.varTypes Tryd.prog) (ds ++ gs)).all (· ≤ reachBytes) = true := hsz0
  have hW' := hW
  obtain ⟨p, q, hA0, hV, rfl, hfz, hnd⟩ := hW
  have hA : DataW.TrodAll enc Tryd.prog W 0 (fun _ => true) true Tryd.f4.params.toList args.toList ds p := hA0
  rw [Tryd.params4] at hA hval hsz
  obtain ⟨v0, vs0, d0, ds0, p0, q0, hargs, rfl, rfl, h0, r0⟩ := trodAll_cons hA
  obtain ⟨v1, vs1, d1, ds1, p1, q1, rfl, rfl, rfl, h1, r1⟩ := trodAll_cons r0
  obtain ⟨v2, vs2, d2, ds2, p2, q2, rfl, rfl, rfl, h2, r2⟩ := trodAll_cons r1
  obtain ⟨rfl, rfl, rfl⟩ := trodAll_nil r2
  obtain rfl : args = #[v0, v1, v2] := by cases args; simp_all
  obtain ⟨rfl, rfl⟩ := trodVars_none hV
  obtain ⟨a0, len0, cap0, rfl⟩ := okWide_slice Tryd.underlying22 (hval 0 22 v0 rfl rfl)
  have k0 := h0
  have lt0 : ∀ x ∈ p0, x.block < W.heap.size := by obtain ⟨m, hm⟩ := k0; exact DataW.trod_lt m _ _ _ hm
  obtain ⟨z0, w0⟩ : ∃ zs, DeedsIn W a0 len0 cap0 zs := deeds_in h0 lt0 (fun n hn => of_decide_eq_true (List.all_eq_true.1 hsz n (DataW.weights_mem_each (j := 0) rfl rfl n hn)))
  obtain ⟨a1, rfl, rfl, rfl, w1⟩ := open_string Tryd.underlying9 (hval 1 9 v1 rfl rfl) h1
  obtain ⟨a2, rfl, rfl, rfl, w2⟩ := open_string Tryd.underlying9 (hval 2 9 v2 rfl rfl) h2
  clear hA0 hval0
  have b1 : a1.size ≤ 140737488351232 := sized_string hsz (j := 1) rfl rfl
  have b2 : a2.size ≤ 140737488351232 := sized_string hsz (j := 2) rfl rfl
  have htab : Tab W := tab_of_laid hL (by kernel_rfl) (by kernel_rfl)
  refine (houseSteps_walk a0 len0 cap0 z0 a1 a2 w0 b1 b2 (w := W) htab).mono fun e W' ⟨he, bel⟩ => ?_
  subst he
  exact ⟨_, rfl, _, _, _, [], _, [], hW', trodAll_mk1 (shut_bool Tryd.underlying4 _), (trodAll_cons_mk (Below.trod laidOut (by kernel_rfl) (of_decide_eq_true (by kernel_rfl)) k0 bel lt0) (trodAll_cons_mk (shut_string Tryd.underlying9 w1) (trodAll_cons_mk (shut_string Tryd.underlying9 w2) trodAll_mk0))), rfl, bel.frame _, fun h => by cases h⟩

theorem holds : Rows.HouseStepsSaid :=
  OpenClaim.holds_of_wide 4 Tryd.f4 rfl rfl rfl rfl rfl rfl rfl ⟨rfl, rfl, rfl, rfl, rfl⟩ rfl rfl rfl rfl rfl (by kernel_rfl) Tryd.func4 (by kernel_rfl)
    (of_decide_eq_true (by kernel_rfl)) (by unfold Func.isWrapper; first | (rw [if_pos (by decide +kernel)]; kernel_rfl) | (rw [if_neg (by decide +kernel)]; exact ⟨rfl, rfl⟩))
    (fun os started H enc _ => lifted os started H enc)
set_option maxRecDepth 100000 in
theorem card_holds : Rows.HouseStepsCardSaid :=
  Claim7.holds_tied_plain_at .later [] Rows.houseStepsCard.laidKinds true Rows.houseStepsCard.stood.harness false
    holds (fun _ h => by cases h) (by kernel_rfl) (fun _ h => by cases h) houseSteps_row_tie rfl ⟨rfl, rfl⟩ (by kernel_rfl) rfl
    (fun f fn hf hfn => by
      obtain rfl : f = 4 := Option.some.inj ((show Tryd.prog.funcNamed "quillward/quillkeep.HouseSteps" = some 4 by kernel_rfl).symm.trans hf) |>.symm
      obtain rfl : fn = Tryd.f4 := (Option.some.inj (Tryd.func4.symm.trans hfn)).symm
      exact ⟨by kernel_rfl, fun j t ht => by
        have hall : (Tryd.f4.params.toList.all fun u => !Tryd.prog.wantsStandIn u) = true := by kernel_rfl
        exact (show Tryd.prog.wantsStandIn t = false by simpa using List.all_eq_true.1 hall t (by simpa using Array.mem_of_getElem? ht))⟩)
    (by kernel_rfl)
#print axioms card_holds
end Go.Proofs.YtigbnldmjafgmaaDoor.houseSteps

