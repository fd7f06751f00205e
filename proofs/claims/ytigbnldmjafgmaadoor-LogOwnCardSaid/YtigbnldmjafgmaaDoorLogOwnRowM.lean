import Derived.Test.YtigbnldmjafgmaaDoorHouseG2
import Derived.Test.YtigbnldmjafgmaaDoorHouseG1
import Derived.BigQuiet
import Derived.Test.YtigbnldmjafgmaaDoorLib
import Derived.Test.YtigbnldmjafgmaaDoorStruct
import Derived.Deep.DeepMust
import Derived.Laws.Cover3
import Derived.Test.YtigbnldmjafgmaaDoorLogDisk
import Derived.Test.YtigbnldmjafgmaaDoorRows
import Derived.Test.YtigbnldmjafgmaaDoorCards
import Derived.Test.YtigbnldmjafgmaaDoorTie
import Derived.WalkKit
import Derived.ProofKit
import Derived.OpenShut
import Derived.ShutString
import Derived.SizedLaws
import Derived.ChangeOld
import Derived.Below
import Derived.LaidMore
import Derived.Lay
import Derived.MakeChecks
import Derived.SevenTiedAt
import Derived.Stop.Joined
import Derived.Test.YtigbnldmjafgmaaDoorTab
import Derived.Test.YtigbnldmjafgmaaDoorArgs
/- Several texts in one: XHousePair XHouseStepsP XHouseKeepsP XHouseKeeps XSpoilK XClone XLogOwn XLogOwnRow. -/
/- Two houses in a law, beside blocks of others. -/
namespace Go.Proofs.YtigbnldmjafgmaaDoor
open Go.RowKit
set_option linter.unusedVariables false

theorem Pair.mk {w0 w w' : World} {own1 own2 : Nat → Nat} {ga gb : Nat} {Qa Qb : List (Pl × Pg)} {Pa Pb : List Pg} (h1 : InLaw w0 own1 w ga Qa Pa) (h2 : InLaw w own2 w' gb Qb Pb) (hs : ∀ k, k < w.heap.size → own2 k = own1 k) : Pair w0 ga Pa gb Pb w' := by
  have hG : Goes own1 own2 (fun _ => False) w w' := ⟨h2.below.os, h2.below.tape, h2.below.output, h2.below.size, fun k hk _ => h2.below.block k hk, hs⟩
  have hsz := h1.below.size
  have g1 := h1.apart hG (fun _ _ h => h) (fun _ h => h.elim) h2.based
  refine ⟨own2, Qa, Qb, g1, ⟨g1.below, h2.house, h2.pages, h2.ok, h2.based, g1.low, fun i hi => Nat.le_trans hsz (h2.ids i hi)⟩, fun i hi hj => ?_⟩
  have := h1.house.lt i hi
  have := h2.ids i hj
  omega
theorem based_self (w : World) : Based (fun k => k) w := fun k hk => hk
/-- Two houses, and blocks that are not theirs. -/
def PairK (w0 : World) (ga : Nat) (Pa : List Pg) (gb : Nat) (Pb : List Pg) (K : Nat → Prop) (w : World) : Prop :=
  ∃ own Qa Qb, InLaw w0 own w ga Qa Pa ∧ InLaw w0 own w gb Qb Pb ∧ (∀ i ∈ idsH ga Qa, i ∉ idsH gb Qb) ∧ ∀ b, K b → b < w.heap.size ∧ own b ∉ idsH ga Qa ∧ own b ∉ idsH gb Qb
theorem PairK.pair {w0 w : World} {ga gb : Nat} {Pa Pb : List Pg} {K : Nat → Prop} (h : PairK w0 ga Pa gb Pb K w) : Pair w0 ga Pa gb Pb w := by
  obtain ⟨own, Qa, Qb, h1, h2, h3, _⟩ := h
  exact ⟨own, Qa, Qb, h1, h2, h3⟩
theorem PairK.swap {w0 w : World} {ga gb : Nat} {Pa Pb : List Pg} {K : Nat → Prop} (h : PairK w0 ga Pa gb Pb K w) : PairK w0 gb Pb ga Pa K w := by
  obtain ⟨own, Qa, Qb, h1, h2, h3, h4⟩ := h
  exact ⟨own, Qb, Qa, h2, h1, fun i hi hj => h3 i hj hi, fun b hb => ⟨(h4 b hb).1, (h4 b hb).2.2, (h4 b hb).2.1⟩⟩
theorem Pair.fresh {w0 w w' : World} {ga gb : Nat} {Pa Pb : List Pg} (h : Pair w0 ga Pa gb Pb w) (hb : Below w.heap.size w w') : PairK w0 ga Pa gb Pb (fun b => w.heap.size ≤ b ∧ b < w'.heap.size) w' := by
  obtain ⟨own, Qa, Qb, h1, h2, h3⟩ := h
  have l1 := h1.house.lt
  have l2 := h2.house.lt
  refine ⟨_, Qa, Qb, h1.after hb, h2.after hb, h3, fun b ⟨g1, g2⟩ => ⟨g2, fun hi => ?_, fun hi => ?_⟩⟩
  · unfold newO at hi
    rw [if_neg (by omega)] at hi
    have := l1 b hi
    omega
  · unfold newO at hi
    rw [if_neg (by omega)] at hi
    have := l2 b hi
    omega
theorem PairK.do_ {w0 w : World} {ga gb : Nat} {Pa Pb : List Pg} {K : Nat → Prop} (h : PairK w0 ga Pa gb Pb K w) (ht : Tab w) (d : Dd) (Ad : Option Addr) (cd : Nat) (hd : DeedAt w d Ad cd) :
    Calls Tryd.prog 12 #[.pointer (some ⟨ga, 0, none⟩), .agg (cDeed d Ad cd)] w fun e w' => e = .returned (.tuple #[.string (houseD Pa d).1, .int .i64 (houseD Pa d).2.1]) ∧ PairK w0 ga (houseD Pa d).2.2 gb Pb K w' ∧ Kept K w w' := by
  obtain ⟨own, Qa, Qb, h1, h2, h3, h4⟩ := h
  refine (do_law h1 ht d Ad cd hd).mono fun e w' ⟨he, own', Qa', g1, g2, g3⟩ => ⟨he, ⟨own', Qa', Qb, g1, h2.apart g2 (fun k hk hs => h3 k hs hk) h1.ids g1.based, fun i hi hj => ?_, fun b hb => ?_⟩, g2.os, g2.tape, g2.output, g2.size, fun b hb => g2.block b (h4 b hb).1 (h4 b hb).2.1⟩
  · rcases g3 i hi with h | h
    · exact h3 i h hj
    · have := h2.house.lt i hj
      omega
  · obtain ⟨k1, k2, k3⟩ := h4 b hb
    rw [g2.same b k1]
    refine ⟨Nat.lt_of_lt_of_le k1 g2.size, fun hi => ?_, k3⟩
    rcases g3 _ hi with h | h
    · exact k2 h
    · have := h1.based b k1
      omega
theorem deeds_row {w w' : World} {A : Option Addr} {len cap : Nat} {l : List DRow} (h : DeedsIn w A len cap l) (hb : Below w.heap.size w w') {k : Nat} {d : Dd} {Ad : Option Addr} {cd : Nat} (hk : l[k]? = some (d, Ad, cd)) : DeedAt w' d Ad cd := by
  have hx := h.2.2.2.1 _ (List.mem_of_getElem? hk)
  exact ⟨(edsAt_of hx.2.2.2.2).after hb, hx.2.2.1, hx.2.1⟩
end Go.Proofs.YtigbnldmjafgmaaDoor

/- Plain: a text that was made is undone and redone. -/
namespace Go.Proofs.YtigbnldmjafgmaaDoor
open Go.RowKit
set_option linter.unusedVariables false

theorem textP_some {P : List Pg} {name : ByteArray} {p : Pg} (h : pageOf name P = some p) : textP P name = (p.t, true) := by unfold textP; rw [h]
theorem textP_none {P : List Pg} {name : ByteArray} (h : pageOf name P = none) : textP P name = (⟨#[]⟩, false) := by unfold textP; rw [h]
theorem oneD_some {full : Prop} [Decidable full] {p : Pg} {d : Dd} (hk : 2 ≤ d.kind ∧ d.kind ≤ 10) (h9 : d.kind ≠ 9) (hn : nameE d.name = 0) : oneD full (some p) d = ((pageD p d).1, (pageD p d).2.1, some (pageD p d).2.2) := by
  unfold oneD
  rw [if_neg (by omega), if_neg (by rw [hn]; decide)]
  show (if d.kind = 1 then _ else _) = _
  rw [if_neg (by omega), if_neg h9]
theorem oneD_none {full : Prop} [Decidable full] {d : Dd} (hk : 2 ≤ d.kind ∧ d.kind ≤ 10) : (oneD full none d).2.1 ≠ 0 := by
  unfold oneD
  rw [if_neg (by omega)]
  by_cases hn : nameE d.name ≠ 0
  · rw [if_pos hn]; exact hn
  · rw [if_neg hn]
    show (if d.kind = 1 then _ else _ : ByteArray × Int × Option Pg).2.1 ≠ 0
    rw [if_neg (by omega)]
    decide
theorem make_zero {p : Pg} {text : ByteArray} (h : (makeP p text).1 = 0) : ∃ l, checkE p.t.size l = 0 ∧ makeP p text = (0, { p with t := text, B := (p.B ++ [p.t]).drop (p.B.length + 1 - 30), O := [], H := p.H ++ [(101 :: writeL l, text)] }) := by
  unfold makeP at h ⊢
  by_cases h0 : ce p.t text ≠ 0
  · rw [if_pos h0] at h; exact absurd (show (2 : Int) = 0 from h) (by decide)
  rw [if_neg h0] at h ⊢
  by_cases h20 : 20 < cv p.t text
  · rw [if_pos h20] at h; exact absurd (show (11 : Int) = 0 from h) (by decide)
  rw [if_neg h20] at h ⊢
  have hz : ce p.t text = 0 := by simpa using h0
  obtain ⟨m1, m2, _⟩ := makes_law p.t text hz (by omega)
  unfold editP at h ⊢
  by_cases hl : makeE p.t text = []
  · rw [if_pos hl] at h; exact absurd (show (5 : Int) = 0 from h) (by decide)
  rw [if_neg hl] at h ⊢
  by_cases hE : leafE p.t p.H (makeE p.t text) ≠ 0
  · rw [if_pos hE] at h; exact absurd h hE
  rw [if_neg hE]
  have hE0 : leafE p.t p.H (makeE p.t text) = 0 := by simpa using hE
  have e2 : leafT p.t p.H (makeE p.t text) = text := by unfold leafT; rw [if_pos hE0]; exact m2
  have e3 : leafH p.t p.H (makeE p.t text) = p.H ++ [(101 :: writeL (makeE p.t text), text)] := by unfold leafH; rw [if_pos hE0, e2]
  exact ⟨makeE p.t text, m1, by rw [e2, e3]⟩
theorem last_back {B : List ByteArray} {t : ByteArray} (h : B.length ≤ 30) : (B ++ [t]).drop (B.length + 1 - 30) ≠ [] ∧ ((B ++ [t]).drop (B.length + 1 - 30)).getLastD ⟨#[]⟩ = t := by
  have e : (B ++ [t]).drop (B.length + 1 - 30) = B.drop (B.length + 1 - 30) ++ [t] := by rw [List.drop_append_of_le_length (by omega)]
  rw [e]
  exact ⟨by simp, by rw [List.getLastD_concat]⟩

theorem steps_no {P : List Pg} (hP : HOk P) (name text : ByteArray) (h : (houseD P (dd 10 0 name text)).2.1 ≠ 0 ∨ (textP P name).2 = false) : (houseD P (dd 10 0 name text)).2.1 ≠ 0 ∧ (houseD P (dd 10 0 name text)).2.2 = P := by
  have ho := house_one hP (dd 10 0 name text)
  have key : (houseD P (dd 10 0 name text)).2.1 ≠ 0 := by
    rcases h with h | h
    · exact h
    · rw [ho.err]
      have hnone : pageOf name P = none := by
        cases hp : pageOf name P with
        | none => rfl
        | some p => rw [textP_some hp] at h; cases h
      show (oneD (P.length = 6) (pageOf name P) (dd 10 0 name text)).2.1 ≠ 0
      rw [hnone]
      exact oneD_none ⟨by show (2 : Int) ≤ 10; decide, by show (10 : Int) ≤ 10; decide⟩
  exact ⟨key, ho.same (by rw [← ho.err]; exact key)⟩
theorem steps_yes {P : List Pg} (hP : HOk P) (hpg : ∀ p ∈ P, p.Ok) (name text : ByteArray) {P1 P2 P3 : List Pg} {T1 T2 T3 : ByteArray} {E2 E3 : Int} (h1 : houseD P (dd 10 0 name text) = (T1, 0, P1)) (h2 : houseD P1 (dd 3 0 name ⟨#[]⟩) = (T2, E2, P2)) (h3 : houseD P2 (dd 4 0 name ⟨#[]⟩) = (T3, E3, P3)) :
    (textP P name).2 = true ∧ textP P1 name = (text, true) ∧ (E2 = 11 ∨ (E2 = 0 ∧ textP P2 name = ((textP P name).1, true) ∧ ((E3 = 0 ∧ textP P3 name = (text, true)) ∨ (E3 = 11 ∧ textP P3 name = ((textP P name).1, true))))) := by
  have ho := house_one hP (dd 10 0 name text)
  rw [h1] at ho
  have hk10 : 2 ≤ (dd 10 0 name text).kind ∧ (dd 10 0 name text).kind ≤ 10 := ⟨by show (2 : Int) ≤ 10; decide, by show (10 : Int) ≤ 10; decide⟩
  have hk3 : 2 ≤ (dd 3 0 name ⟨#[]⟩).kind ∧ (dd 3 0 name ⟨#[]⟩).kind ≤ 10 := ⟨by show (2 : Int) ≤ 3; decide, by show (3 : Int) ≤ 10; decide⟩
  have hk4 : 2 ≤ (dd 4 0 name ⟨#[]⟩).kind ∧ (dd 4 0 name ⟨#[]⟩).kind ≤ 10 := ⟨by show (2 : Int) ≤ 4; decide, by show (4 : Int) ≤ 10; decide⟩
  cases hp : pageOf name P with
  | none =>
    exfalso
    have e := ho.err
    have hq : pageOf (dd 10 0 name text).name P = none := hp
    rw [hq] at e
    exact oneD_none hk10 e.symm
  | some p =>
    have hpm := pageOf_mem hp
    have hpo := hpg p hpm
    have hn : nameE name = 0 := by rw [← (pageOf_some hp).1]; exact hP.nm p hpm
    have hq : pageOf (dd 10 0 name text).name P = some p := hp
    rw [hq, oneD_some hk10 (by show (10 : Int) ≠ 9; decide) hn, pageD10 (show (dd 10 0 name text).kind = 10 from rfl)] at ho
    have e1 : (makeP p text).1 = 0 := ho.err.symm
    obtain ⟨l, _, hm⟩ := make_zero e1
    have hp1 : pageOf name P1 = some (makeP p text).2 := ho.page
    rw [hm] at hp1
    refine ⟨by rw [textP_some hp], by rw [textP_some hp1], ?_⟩
    have ho2 := house_one ho.ok (dd 3 0 name ⟨#[]⟩)
    have hq2 : pageOf (dd 3 0 name ⟨#[]⟩).name P1 = _ := hp1
    rw [h2] at ho2
    have hlb := last_back (t := p.t) (show p.B.length ≤ 30 by have := hpo.few; omega)
    have hb := ho2
    rw [hq2, oneD_some hk3 (by show (3 : Int) ≠ 9; decide) hn, pageD3 (show (dd 3 0 name ⟨#[]⟩).kind = 3 from rfl)] at hb
    unfold backP at hb
    by_cases hf : fits (p.H ++ [(101 :: writeL l, text)]) (((p.B ++ [p.t]).drop (p.B.length + 1 - 30)).getLastD ⟨#[]⟩)
    · rw [if_neg hlb.1, if_pos hf] at hb
      have e2 : E2 = 0 := hb.err
      have hp2 : pageOf name P2 = some _ := hb.page
      right
      refine ⟨e2, ?_, ?_⟩
      · rw [textP_some hp2, textP_some hp]
        exact Prod.ext hlb.2 rfl
      have hq3 : pageOf (dd 4 0 name ⟨#[]⟩).name P2 = _ := hp2
      have ho3 := house_one ho2.ok (dd 4 0 name ⟨#[]⟩)
      rw [h3] at ho3
      have hb3 := ho3
      rw [hq3, oneD_some hk4 (by show (4 : Int) ≠ 9; decide) hn, pageD4 (show (dd 4 0 name ⟨#[]⟩).kind = 4 from rfl)] at hb3
      unfold onP at hb3
      rw [if_neg (by simp)] at hb3
      split at hb3
      · left
        refine ⟨hb3.err, ?_⟩
        rw [textP_some (show pageOf name P3 = some _ from hb3.page)]
        rfl
      · right
        have e3 : E3 = 11 := hb3.err
        refine ⟨e3, ?_⟩
        rw [textP_some (show pageOf name P3 = some _ from hb3.page), textP_some hp]
        exact Prod.ext hlb.2 rfl
    · rw [if_neg hlb.1, if_neg hf] at hb
      exact .inl hb.err
end Go.Proofs.YtigbnldmjafgmaaDoor

/- Plain: after a crash a text is the saved one or a later one. -/
namespace Go.Proofs.YtigbnldmjafgmaaDoor
open Go.RowKit
set_option linter.unusedVariables false

/-- All texts of a name from the saved one on are there, the newest last. -/
def KAt (P : List Pg) (name : ByteArray) (z : Nat) (T : List ByteArray) : Prop :=
  ∃ p, pageOf name P = some p ∧ T.length = z + 1 ∧ T.getD z ByteArray.empty = p.t ∧ ∀ i, p.j ≤ i → i ≤ p.H.length → endT ⟨#[]⟩ (p.H.take i) ∈ T
/-- What a deed may make of a page that is kept. -/
def KStep (p p' : Pg) : Prop := (p'.H = p.H ∧ p'.t = p.t ∧ p.j ≤ p'.j) ∨ ∃ r, p'.H = p.H ++ [(r, p'.t)] ∧ p'.j = p.j
theorem KStep.refl (p : Pg) : KStep p p := .inl ⟨rfl, rfl, Nat.le_refl _⟩
theorem kstep_edit (p : Pg) (l : List Ed) : KStep p (editP p l).2 := by
  unfold editP
  split
  · exact KStep.refl p
  · split
    · exact KStep.refl p
    · rename_i h1 h2
      have h0 : leafE p.t p.H l = 0 := by simpa using h2
      refine .inr ⟨101 :: writeL l, ?_, rfl⟩
      show leafH p.t p.H l = _
      unfold leafH
      rw [if_pos h0]
theorem kstep_make (p : Pg) (t : ByteArray) : KStep p (makeP p t).2 := by
  unfold makeP
  split
  · exact KStep.refl p
  · split
    · exact KStep.refl p
    · exact kstep_edit _ _
theorem kstep_back (p : Pg) : KStep p (backP p).2 := by
  unfold backP
  split
  · exact KStep.refl p
  · split
    · exact .inr ⟨_, rfl, rfl⟩
    · exact KStep.refl p
theorem kstep_on (p : Pg) : KStep p (onP p).2 := by
  unfold onP
  split
  · exact KStep.refl p
  · split
    · exact .inr ⟨_, rfl, rfl⟩
    · exact KStep.refl p
theorem kstep_page {p : Pg} {d : Dd} (hj : p.j ≤ p.H.length) (h6 : d.kind ≠ 6) (h7 : d.kind ≠ 7) : KStep p (pageD p d).2.2 := by
  by_cases k2 : d.kind = 2
  · rw [pageD2 k2]; exact kstep_edit _ _
  by_cases k10 : d.kind = 10
  · rw [pageD10 k10]; exact kstep_make _ _
  by_cases k3 : d.kind = 3
  · rw [pageD3 k3]; exact kstep_back _
  by_cases k4 : d.kind = 4
  · rw [pageD4 k4]; exact kstep_on _
  by_cases k5 : d.kind = 5
  · rw [pageD5 k5]; exact .inl ⟨rfl, rfl, hj⟩
  unfold pageD
  rw [if_neg k2, if_neg k10, if_neg k3, if_neg k4, if_neg k5, if_neg h6, if_neg h7]
  exact KStep.refl p
theorem keeps_step {P : List Pg} (hP : HOk P) (hpg : ∀ p ∈ P, p.Ok) {name : ByteArray} {z : Nat} {T : List ByteArray} (h : KAt P name z T) {d : Dd} (h6 : d.kind ≠ 6) (h7 : d.kind ≠ 7) (h9 : d.kind ≠ 9) {T1 : ByteArray} {E : Int} {P' : List Pg} (hR : houseD P d = (T1, E, P')) :
    ∃ t, textP P' name = (t, true) ∧ KAt P' name (z + 1) (T ++ [t]) := by
  obtain ⟨p, hp, hl, hlast, hall⟩ := h
  have ho := house_one hP d
  rw [hR] at ho
  have hpo := hpg p (pageOf_mem hp)
  have key : ∃ p', pageOf name P' = some p' ∧ KStep p p' := by
    by_cases hnm : d.name = name
    · have hpg' := ho.page
      rw [hnm, hp] at hpg'
      unfold oneD at hpg'
      by_cases c1 : d.kind < 1 ∨ 10 < d.kind
      · rw [if_pos c1] at hpg'; exact ⟨p, hpg', KStep.refl p⟩
      rw [if_neg c1] at hpg'
      by_cases c2 : nameE d.name ≠ 0
      · rw [if_pos c2] at hpg'; exact ⟨p, hpg', KStep.refl p⟩
      rw [if_neg c2] at hpg'
      by_cases c3 : d.kind = 1
      · have e : pageOf name P' = some p := by simpa [c3] using hpg'
        exact ⟨p, e, KStep.refl p⟩
      · have e : pageOf name P' = some (pageD p d).2.2 := by simpa [c3, h9] using hpg'
        exact ⟨_, e, kstep_page hpo.jle h6 h7⟩
    · exact ⟨p, (ho.other name fun e => hnm e.symm).trans hp, KStep.refl p⟩
  obtain ⟨p', hp', hk⟩ := key
  refine ⟨p'.t, textP_some hp', p', hp', by rw [List.length_append, hl]; rfl, ?_, fun i h1 h2 => ?_⟩
  · rw [getD_app_right _ _ _ _ (by omega), hl, Nat.sub_self]; rfl
  · rcases hk with ⟨e1, e2, e3⟩ | ⟨r, e1, e2⟩
    · rw [e1] at h2 ⊢
      exact List.mem_append_left _ (hall i (by omega) h2)
    · rw [e1] at h2 ⊢
      rw [List.length_append, List.length_singleton] at h2
      rcases Nat.lt_or_ge p.H.length i with g | g
      · rw [List.take_of_length_le (by rw [List.length_append, List.length_singleton]; omega), endT_snoc]; simp
      · rw [List.take_append_of_le_length g]
        exact List.mem_append_left _ (hall i (by omega) g)
theorem keeps_start {P : List Pg} (hP : HOk P) (hpg : ∀ p ∈ P, p.Ok) {name : ByteArray} {T1 : ByteArray} {P' : List Pg} (hR : houseD P (dd 5 0 name ⟨#[]⟩) = (T1, 0, P')) :
    ∃ t, textP P' name = (t, true) ∧ KAt P' name 0 [t] := by
  have ho := house_one hP (dd 5 0 name ⟨#[]⟩)
  rw [hR] at ho
  have hk : 2 ≤ (dd 5 0 name ⟨#[]⟩).kind ∧ (dd 5 0 name ⟨#[]⟩).kind ≤ 10 := ⟨by show (2 : Int) ≤ 5; decide, by show (5 : Int) ≤ 10; decide⟩
  cases hp : pageOf name P with
  | none =>
    exfalso
    have e := ho.err
    have hq : pageOf (dd 5 0 name ⟨#[]⟩).name P = none := hp
    rw [hq] at e
    exact oneD_none hk e.symm
  | some p =>
    have hpo := hpg p (pageOf_mem hp)
    have hn : nameE name = 0 := by rw [← (pageOf_some hp).1]; exact hP.nm p (pageOf_mem hp)
    have hq : pageOf (dd 5 0 name ⟨#[]⟩).name P = some p := hp
    rw [hq, oneD_some hk (by show (5 : Int) ≠ 9; decide) hn, pageD5 (show (dd 5 0 name ⟨#[]⟩).kind = 5 from rfl)] at ho
    have hp1 : pageOf name P' = some (saveP p) := ho.page
    refine ⟨p.t, by rw [textP_some hp1]; rfl, saveP p, hp1, rfl, rfl, fun i h1 h2 => ?_⟩
    have h1' : p.H.length ≤ i := h1
    show endT ⟨#[]⟩ (p.H.take i) ∈ _
    rw [List.take_of_length_le h1', ← hpo.end_]
    simp
theorem keeps_end {P : List Pg} (hP : HOk P) (hpg : ∀ p ∈ P, p.Ok) {name : ByteArray} {z : Nat} {T : List ByteArray} (h : KAt P name z T) {keep : Int} {T1 : ByteArray} {E : Int} {P' : List Pg} (hR : houseD P (dd 7 keep name ⟨#[]⟩) = (T1, E, P')) :
    (E ≠ 0 ∧ textP P' name = (T.getD z ByteArray.empty, true)) ∨ (E = 0 ∧ ∃ t, textP P' name = (t, true) ∧ t ∈ T ∧ (houseD P' (dd 3 0 name ⟨#[]⟩)).2.1 = 4) := by
  obtain ⟨p, hp, hl, hlast, hall⟩ := h
  have ho := house_one hP (dd 7 keep name ⟨#[]⟩)
  rw [hR] at ho
  have hpo := hpg p (pageOf_mem hp)
  have hn : nameE name = 0 := by rw [← (pageOf_some hp).1]; exact hP.nm p (pageOf_mem hp)
  have hk : 2 ≤ (dd 7 keep name ⟨#[]⟩).kind ∧ (dd 7 keep name ⟨#[]⟩).kind ≤ 10 := ⟨by show (2 : Int) ≤ 7; decide, by show (7 : Int) ≤ 10; decide⟩
  have hq : pageOf (dd 7 keep name ⟨#[]⟩).name P = some p := hp
  have hok := ho.ok
  rw [hq, oneD_some hk (by show (7 : Int) ≠ 9; decide) hn, pageD7 (show (dd 7 keep name ⟨#[]⟩).kind = 7 from rfl)] at ho
  have hcr : crashP p (dd 7 keep name ⟨#[]⟩).n = crashP p keep := rfl
  rw [hcr] at ho
  unfold crashP at ho
  by_cases hb : keep < 0 ∨ ((framesL (recs p.H)).length : Int) - (safeN p : Int) < keep
  · rw [if_pos hb] at ho
    left
    have e : E = 1 := ho.err
    have hp1 : pageOf name P' = some p := ho.page
    exact ⟨by rw [e]; decide, by rw [textP_some hp1, hlast]⟩
  · rw [if_neg hb] at ho
    right
    have e : E = 0 := ho.err
    have hp1 : pageOf name P' = some (fallP p (wholeI p.H (safeN p + keep.toNat))) := ho.page
    have hw := wholeI_to p.H (safeN p + keep.toNat)
    refine ⟨e, _, textP_some hp1, hall _ (hw.ge hpo.jle (by unfold safeN; omega)) hw.1, ?_⟩
    have ho2 := house_one hok (dd 3 0 name ⟨#[]⟩)
    have hk3 : 2 ≤ (dd 3 0 name ⟨#[]⟩).kind ∧ (dd 3 0 name ⟨#[]⟩).kind ≤ 10 := ⟨by show (2 : Int) ≤ 3; decide, by show (3 : Int) ≤ 10; decide⟩
    have hq2 : pageOf (dd 3 0 name ⟨#[]⟩).name P' = _ := hp1
    rw [hq2, oneD_some hk3 (by show (3 : Int) ≠ 9; decide) hn, pageD3 (show (dd 3 0 name ⟨#[]⟩).kind = 3 from rfl)] at ho2
    rw [ho2.err]
    rfl
end Go.Proofs.YtigbnldmjafgmaaDoor

/- HouseKeeps' walk: after a crash a text is the saved one or a later one. -/
namespace Go.Proofs.YtigbnldmjafgmaaDoor
open Go.RowKit
set_option linter.unusedVariables false

/-- A row of another one turns: the house stays. -/
theorem LoneK.row {w0 w w' : World} {gh tb : Nat} {P : List Pg} (h : LoneK w0 gh P (· = tb) w) (h0 : w0.heap.size ≤ tb) (hk : Kept (fun b => b < w.heap.size ∧ b ≠ tb) w w') {tb' : Nat} (ht : tb' = tb ∨ w.heap.size ≤ tb') (htl : tb' < w'.heap.size) : LoneK w0 gh P (· = tb') w' := by
  obtain ⟨own, Q, hI, hq⟩ := h
  obtain ⟨htb, hno⟩ := hq tb rfl
  have hlt := hI.house.lt
  have hoid : ∀ i ∈ idsH gh Q, own i = i := fun i hi => by
    rcases List.mem_cons.1 hi with rfl | hi
    · exact hI.house.own_
    · obtain ⟨y, hy, hm⟩ := List.mem_flatMap.1 hi
      have hp := hI.house.page y hy
      rcases List.mem_cons.1 hm with rfl | hm
      · exact hp.ed.own_
      · rcases List.mem_cons.1 hm with rfl | hm
        · exact hp.leaf.ol
        · cases hm
  have htn : tb ∉ idsH gh Q := fun hi => hno (by rw [hoid tb hi]; exact hi)
  obtain ⟨o2, ho2⟩ : ∃ o2 : Nat → Nat, o2 = fun k => if k = tb then tb else own k := ⟨_, rfl⟩
  have e1 : o2 tb = tb := by rw [ho2]; exact if_pos rfl
  have e2 : ∀ k, k ≠ tb → o2 k = own k := fun k hk => by rw [ho2]; exact if_neg hk
  have hI2 : InLaw w0 o2 w gh Q P := ⟨hI.below, hI.house.reown (fun k hk hi => e2 k (by rintro rfl; exact hno hi)), hI.pages, hI.ok, fun k hk => by
      by_cases e : k = tb
      · rw [e, e1]; exact htb
      · rw [e2 k e]; exact hI.based k hk, fun k hk => by rw [e2 k (by omega)]; exact hI.low k hk, hI.ids⟩
  have hG : Goes o2 (newO o2 w.heap.size) (· = tb) w w' := ⟨hk.os, hk.tape, hk.output, hk.size, fun k hk1 hk2 => hk.block k ⟨hk1, fun e => hk2 (by rw [e]; exact e1)⟩, fun k hk => if_pos hk⟩
  have hb : Based (newO o2 w.heap.size) w' := fun k hk1 => by
    unfold newO
    by_cases e : k < w.heap.size
    · rw [if_pos e]; exact Nat.lt_of_lt_of_le (hI2.based k e) hk.size
    · rw [if_neg e]; exact hk1
  refine ⟨_, Q, hI2.apart hG (fun k hk1 hk2 => htn (by rw [← hk2]; exact hk1)) (fun k hk1 => by rw [hk1]; exact h0) hb, fun b hb' => ?_⟩
  have hb2 : b = tb' := hb'
  subst hb2
  refine ⟨htl, ?_⟩
  unfold newO
  rcases ht with e | e
  · rw [e, if_pos htb, e1]; exact htn
  · rw [if_neg (by omega)]
    intro hi
    have := hlt b hi
    omega

set_option maxRecDepth 100000 in
set_option maxHeartbeats 4000000 in
theorem houseKeeps_walk (A : Option Addr) (len cap : Nat) (l : List DRow) (name : ByteArray) (A2 : Option Addr) (len2 cap2 : Nat) (l2 : List DRow) (keep : Int) {w : World} (hl : DeedsIn w A len cap l) (hn : name.size ≤ 140737488351232) (hl2 : DeedsIn w A2 len2 cap2 l2) (hkp : (Lit.int .i64 keep).wf = true) (ht : Tab w) :
    Calls Tryd.prog 6 #[.slice A len cap, .string name, .slice A2 len2 cap2, .int .i64 keep] w fun e w' => e = .returned (.bool true) ∧ Below w.heap.size w w' := by
  have hlen : len2 ≤ 1954687338211 := by have := hl2.2.2.1; omega
  have hkb := bounds_i64 hkp
  have Wk := Lib.hid (fun (w1 : World) (hb : Below w.heap.size w w1) => worked_law (based_self w1) (ht.after hb) A len cap l w hl hb)
  have Ht := Lib.hid (fun (w1 : World) (hb : Below w.heap.size w w1) => ht.after hb)
  have bk := buildDeedK
  have bn : ∀ (w : World) (k n : Int) (name : ByteArray), (Instr.build 25 #[(0, .int .i64 k), (2, .string name), (1, .int .i64 n)]).run Tryd.prog w = .ok (.agg #[.int .i64 k, .int .i64 n, .string name, .string ⟨#[]⟩, .slice none 0 0]) w := fun w k n name => run_build w 25 _ _ (by kernel_rfl)
  have Hn := Lib.hid hn
  have Hkb := Lib.hid hkb
  have Hhs := Lib.hid (houses_any _ ht)
  clear hl ht hn hkp hkb
  go_enter Tryd.func6, Tryd.ntmps6
  go_wp2_with fail
  refine Hhs.out.mono ?_
  rintro e w1 ⟨rfl, hb1⟩
  go_wp2_with fail
  refine (Wk.out w1 hb1).mono ?_
  rintro e w2 ⟨gh, rfl, own2, Q, h2, _⟩
  have h2 : Lone w1 gh (workP l) w2 := ⟨own2, Q, h2⟩
  clear Wk Hhs
  generalize workP l = P at *
  have hok := h2.ok
  have hpg := h2.pg
  have Ht1 := Lib.hid (fun (w2 : World) (h : Below w1.heap.size w1 w2) => Ht.out _ (chain h hb1))
  have Hb1 := Lib.hid hb1
  obtain ⟨R1, hR1⟩ : ∃ R, houseD P (dd 5 0 name ⟨#[]⟩) = R := ⟨_, rfl⟩
  obtain ⟨T1, E1, P1⟩ := R1
  have D1 := Lib.hid (do_told 5 0 name ⟨#[]⟩ hR1 Hn.out (by decide) h2 (Ht1.out _ h2.below))
  have HS := Lib.hid (fun hE : E1 = 0 => keeps_start hok hpg (name := name) (by rw [hR1, hE]))
  have hb1n : w1.heap.size = w1.heap.size := rfl
  clear hR1 hok hpg h2 hb1 hb1n
  by_cases hE : E1 = 0
  case neg =>
    have qE : (E1 != 0) = true := by simpa using hE
    clear HS hE
    go_wp2_with fail
    refine D1.out.mono ?_
    rintro e w3 ⟨rfl, h3⟩
    have hbf := chain h3.below Hb1.out
    go_wp2
    go_ret
    exact ⟨rfl, hbf⟩
  subst hE
  obtain ⟨t0, ht0, hk0⟩ := HS.out rfl
  have X1 := fun (w3 : World) (h : Lone w1 gh P1 w3) => textOf_lone h (Ht1.out _ h.below) name Hn.out
  rw [ht0] at X1
  have X1 := Lib.hid X1
  clear HS ht0
  go_wp2_with fail
  refine D1.out.mono ?_
  rintro e w3 ⟨rfl, h3⟩
  go_wp2_with fail
  refine (X1.out _ h3).mono ?_
  rintro e w4 ⟨rfl, h4⟩
  clear D1 X1 h3
  have hba : Below w4.heap.size w4 (w4.alloc (Obj.cells #[.string t0] 9)) := (Below.refl _ _).alloc (Nat.le_refl _) _
  have hs4 := h4.below.size
  have hL : LoneK w1 gh P1 (· = w4.heap.size) (w4.alloc (Obj.cells #[.string t0] 9)) := ((LoneK.of h4).after hba).weak fun b hb => .inr ⟨by omega, by simp; omega⟩
  have hO : OwnS (w4.alloc (Obj.cells #[.string t0] 9)) (fun b => b < (w4.alloc (Obj.cells #[.string t0] 9)).heap.size ∧ b ≠ w4.heap.size) (some ⟨w4.heap.size, 0, none⟩) (0 + 1) 1 [t0] :=
    ⟨rfl, .inr ⟨w4.heap.size, 0, _, rfl, fun hk => hk.2 rfl, Blk.new w4 _ _, Nat.le_refl _, by decide, rfl, rfl⟩⟩
  clear hba h4
  go_wp2
  go_loopw [14, 16, 17, 18, 52] (fun tv _ _ _ kv wr => ∃ (k : Nat) (z tb to c' : Nat) (T : List ByteArray) (Pk : List Pg), k ≤ len2 ∧ z ≤ k ∧ kv = .int .i64 k ∧ tv = .slice (some ⟨tb, to, none⟩) (z + 1) c' ∧ w1.heap.size ≤ tb ∧ LoneK w1 gh Pk (· = tb) wr ∧ OwnS wr (fun b => b < wr.heap.size ∧ b ≠ tb) (some ⟨tb, to, none⟩) (z + 1) c' T ∧ KAt Pk name z T) (fun _ _ _ _ kv _ => len2 - (intOf kv).toNat)
  case atStart => exact ⟨0, 0, w4.heap.size, 0, 1, [t0], P1, Nat.zero_le _, Nat.le_refl _, rfl, rfl, hs4, hL, hO, hk0⟩
  case round =>
    clear hL hO hk0 hs4
    obtain ⟨k, z, tb, to, c', T, Pk, hk, hzk, rfl, rfl, htb, hLr, hOr, hKr⟩ := hrel
    by_cases hlt : k < len2
    · have hbr := chain hLr.lone.below Hb1.out
      obtain ⟨b, o, d, Ad, cd, rfl, hx, hd, _, _, c0, c1, c2, c3, c4⟩ := deeds_at hl2 hbr k hlt
      have hba : Below wr.heap.size wr (wr.alloc (Obj.cells #[.int .i64 d.kind, .int .i64 d.n, .string d.name, .string d.text, .slice Ad d.edits.length cd] 25)) := (Below.refl _ _).alloc (Nat.le_refl _) _
      have hbd := Blk.new wr 25 #[.int .i64 d.kind, .int .i64 d.n, .string d.name, .string d.text, .slice Ad d.edits.length cd]
      have hL1 := hLr.stay hba
      have hO1 : OwnS (wr.alloc (Obj.cells #[.int .i64 d.kind, .int .i64 d.n, .string d.name, .string d.text, .slice Ad d.edits.length cd] 25)) (fun b => b < (wr.alloc (Obj.cells #[.int .i64 d.kind, .int .i64 d.n, .string d.name, .string d.text, .slice Ad d.edits.length cd] 25)).heap.size ∧ b ≠ tb) (some ⟨tb, to, none⟩) (z + 1) c' T := (hOr.alloc _).weak fun b hb hq => by injection hb with hb; exact hq.2 hb.symm
      have a0 := hbd.cell 0
      have a1 := hbd.cell 1
      have a2 := hbd.cell 2
      have a3 := hbd.cell 3
      have a4 := hbd.cell 4
      have hcap := hOr.cap
      by_cases hsk : d.kind = 9 ∨ d.kind = 7 ∨ d.kind = 6
      · have hq : (d.kind == 9) = true ∨ ((d.kind == 9) = false ∧ (d.kind == 7) = true) ∨ ((d.kind == 9) = false ∧ (d.kind == 7) = false ∧ (d.kind == 6) = true) := by
          rcases hsk with h | h | h
          · left; rw [h]; rfl
          · right; left; rw [h]; exact ⟨rfl, rfl⟩
          · right; right; rw [h]; exact ⟨rfl, rfl, rfl⟩
        clear hsk hd hx hba hbd hLr hOr
        rcases hq with q9 | ⟨q9, q7⟩ | ⟨q9, q7, q6⟩
        all_goals
          go_wp2
          go_roundw
          case rel => exact ⟨k + 1, z, tb, to, c', T, Pk, by omega, by omega, by go_num, rfl, htb, hL1, hO1, hKr⟩
          case measure => simp only [intOf]; omega
      have q9 : (d.kind == 9) = false := by rw [beq_eq_false_iff_ne]; omega
      have q7 : (d.kind == 7) = false := by rw [beq_eq_false_iff_ne]; omega
      have q6 : (d.kind == 6) = false := by rw [beq_eq_false_iff_ne]; omega
      obtain ⟨R, hR⟩ : ∃ R, houseD Pk d = R := ⟨_, rfl⟩
      obtain ⟨T5, E5, P5⟩ := R
      obtain ⟨t5, ht5, hK5⟩ := keeps_step hLr.lone.ok hLr.lone.pg hKr (by omega) (by omega) (by omega) hR
      have D := do_keep hL1 (Ht.out _ (chain hba hbr)) d Ad cd (hd.after hba)
      rw [hR] at D
      have D := Lib.hid D
      have X := fun (w5 : World) (h : LoneK w1 gh P5 (· = tb) w5) => textOf_keep h (Ht1.out _ h.lone.below) name Hn.out
      rw [ht5] at X
      have X := Lib.hid X
      have HK5 := Lib.hid hK5
      have HO1 := Lib.hid hO1
      clear hsk hd hx hba hbd hLr hOr hL1 hO1 hR ht5 hK5 hbr hKr
      go_wp2_with fail
      refine D.out.mono ?_
      rintro e w5 ⟨rfl, hL5, hk5⟩
      clear a0 a1 a2 a3 a4
      go_wp2_with fail
      refine (X.out _ hL5).mono ?_
      rintro e w6 ⟨rfl, hL6, hk6⟩
      have hO6 : OwnS w6 (fun b => b < w6.heap.size ∧ b ≠ tb) (some ⟨tb, to, none⟩) (z + 1) c' T := (HO1.out.kept _ (hk5.trans hk6) (fun b hb => by injection hb with hb; exact hb.symm)).weak fun b hb hq => by injection hb with hb; exact hq.2 hb.symm
      have htl : tb < w6.heap.size := hL6.lt tb rfl
      have H8 := Lib.hid (show z + 1 ≤ 8000000000000 by omega)
      clear D X hL5 hk5 hk6
      go_wp2_with (first | (at_builtin; go_must (refine wpList_append_one w6 (.tmp 79) (.tmp 81) 33 rfl rfl (fun b => b < w6.heap.size ∧ b ≠ tb) infoStrE Tryd.underlying33 (some ⟨tb, to, none⟩) (z + 1) c' T rfl hO6 1 t5 rfl H8.out (fun b hb => hb.1) ?_); intro A7 c7 w7 hO7 hk7))
      obtain ⟨tb7, to7, rfl, hlt7⟩ := hO7.shape (by omega)
      have hcase : tb7 = tb ∨ w6.heap.size ≤ tb7 := by
        have := (hO7.lt tb7 rfl).1
        by_cases e : tb7 < w6.heap.size
        · exact .inl (Classical.byContradiction fun h => this ⟨e, h⟩)
        · exact .inr (by omega)
      have hL7 := hL6.row htb hk7 hcase hlt7
      have hs6 := hL6.lone.below.size
      have htb7 : w1.heap.size ≤ tb7 := by omega
      have hO7' : OwnS w7 (fun b => b < w7.heap.size ∧ b ≠ tb7) (some ⟨tb7, to7, none⟩) (z + 1 + 1) c7 (T ++ [t5]) := hO7.weak fun b hb hq => by injection hb with hb; exact hq.2 hb.symm
      clear hO6 hO7 hk7 hL6 hcase
      go_wp2
      go_roundw
      case rel => exact ⟨k + 1, z + 1, tb7, to7, c7, T ++ [t5], P5, by omega, by omega, by go_num, rfl, htb7, hL7, hO7', HK5.out⟩
      case measure => simp only [intOf]; omega
    · obtain rfl : k = len2 := by omega
      clear hlt
      obtain ⟨R, hR⟩ : ∃ R, houseD Pk (dd 7 keep name ⟨#[]⟩) = R := ⟨_, rfl⟩
      obtain ⟨T5, E5, P5⟩ := R
      have hend := keeps_end hLr.lone.ok hLr.lone.pg hKr hR
      have D := do_keep hLr (Ht.out _ (chain hLr.lone.below Hb1.out)) (dd 7 keep name ⟨#[]⟩) none 0 (dd_at wr 7 keep name ⟨#[]⟩ Hn.out (by have := Hkb.out; omega))
      rw [hR] at D
      have D : Calls Tryd.prog 12 #[.pointer (some ⟨gh, 0, none⟩), .agg #[.int .i64 7, .int .i64 keep, .string name, .string ⟨#[]⟩, .slice none 0 0]] wr fun e w' => e = .returned (.tuple #[.string T5, .int .i64 E5]) ∧ LoneK w1 gh P5 (· = tb) w' ∧ Kept (· = tb) wr w' := D
      have D := Lib.hid D
      have X := fun (w5 : World) (h : LoneK w1 gh P5 (· = tb) w5) => textOf_keep h (Ht1.out _ h.lone.below) name Hn.out
      have HO := Lib.hid hOr
      have hcap := hOr.cap
      have q2 : IntKind.i64.wrap (((z + 1 : Nat) : Int) - 1) = ((z : Nat) : Int) := by rw [IntKind.wrap_i64]; omega
      have q3 : (z : Int) < ((z + 1 : Nat) : Int) := by omega
      have q3b : (0 : Int) ≤ (z : Int) := by omega
      clear hR hLr hOr
      rcases hend with ⟨hE, htx⟩ | ⟨rfl, t5, htx, htm, hun⟩
      · rw [htx] at X
        have X := Lib.hid X
        have qE : (E5 != 0) = true := by simpa using hE
        clear hE htx hKr
        go_wp2_with fail
        refine D.out.mono ?_
        rintro e w5 ⟨rfl, hL5, hk5⟩
        go_wp2_with fail
        refine (X.out _ hL5).mono ?_
        rintro e w6 ⟨rfl, hL6, hk6⟩
        have hO6 := HO.out.kept _ (hk5.trans hk6) (fun b hb => by injection hb with hb; exact hb.symm)
        have ct := hO6.cell z (by omega)
        have hbf := chain hL6.lone.below Hb1.out
        generalize T.getD z ByteArray.empty = t5 at *
        have q4 : (t5.toList == t5.toList) = true := by simp
        clear hO6 D X hL5 hL6 hk5 hk6
        go_wp2
        first
          | go_quiet (fail)
            go_wp2
          | skip
        go_ret
        exact ⟨rfl, by first | exact hbf | exact below_drewN hbf _⟩
      · rw [htx] at X
        have X := Lib.hid X
        obtain ⟨R2, hR2⟩ : ∃ R, houseD P5 (dd 3 0 name ⟨#[]⟩) = R := ⟨_, rfl⟩
        obtain ⟨T6, E6, P6⟩ := R2
        rw [hR2] at hun
        obtain rfl : E6 = 4 := hun
        have D2 := fun (w5 : World) (h : LoneK w1 gh P5 (· = tb) w5) => do_keep h (Ht1.out _ h.lone.below) (dd 3 0 name ⟨#[]⟩) none 0 (dd_at w5 3 0 name ⟨#[]⟩ Hn.out (by decide))
        rw [hR2] at D2
        have D2 : ∀ (w5 : World) (h : LoneK w1 gh P5 (· = tb) w5), Calls Tryd.prog 12 #[.pointer (some ⟨gh, 0, none⟩), .agg #[.int .i64 3, .int .i64 0, .string name, .string ⟨#[]⟩, .slice none 0 0]] w5 fun e w' => e = .returned (.tuple #[.string T6, .int .i64 4]) ∧ LoneK w1 gh P6 (· = tb) w' ∧ Kept (· = tb) w5 w' := D2
        have D2 := Lib.hid D2
        have hhas : hasB t5 T = true := hasB_iff.2 htm
        have C := fun (w5 : World) (r : OwnS w5 (fun b => b < wr.heap.size ∧ b ≠ tb) (some ⟨tb, to, none⟩) (z + 1) c' T) => containsStr_any t5 (some ⟨tb, to, none⟩) (z + 1) c' _ T w5 (by omega) r.1 r.reads
        rw [hhas] at C
        have C := Lib.hid C
        clear htx hKr hhas htm hR2
        go_wp2_with fail
        refine D.out.mono ?_
        rintro e w5 ⟨rfl, hL5, hk5⟩
        go_wp2_with fail
        refine (X.out _ hL5).mono ?_
        rintro e w6 ⟨rfl, hL6, hk6⟩
        go_wp2_with fail
        refine (D2.out _ hL6).mono ?_
        rintro e w7 ⟨rfl, hL7, hk7⟩
        have hO7 := HO.out.kept _ ((hk5.trans hk6).trans hk7) (fun b hb => by injection hb with hb; exact hb.symm)
        have hbf := chain hL7.lone.below Hb1.out
        clear D X D2 hL5 hL6 hL7 hk5 hk6 hk7
        go_wp2_with fail
        refine (C.out _ hO7).mono ?_
        rintro e w8 ⟨rfl, rfl⟩
        go_wp2
        go_ret
        exact ⟨rfl, hbf⟩
end Go.Proofs.YtigbnldmjafgmaaDoor

/- quillkeep.spoil, of strings in a row of one's own with room to spare. -/
namespace Go.Proofs.YtigbnldmjafgmaaDoor
open Go.RowKit
set_option linter.unusedVariables false

theorem grown_setK {w wr : World} {g : Nat} (h : w.grownBy wr (some g)) (i : Nat) (u : Value) : w.grownBy (wr.setCell ⟨g, i, none⟩ u) (some g) :=
  ⟨h.os, h.tape, h.output, by rw [size_setCell]; exact h.size, fun k hk hne => (Below.heap_setCell wr _ u k (fun e => hne (by rw [e]))).trans (h.block k hk hne)⟩
theorem grown_reflK (w : World) (r : Option Nat) : w.grownBy w r := ⟨rfl, rfl, rfl, Nat.le_refl _, fun _ _ _ => rfl⟩

set_option maxHeartbeats 1000000 in
theorem spoilK_any (K : Nat → Prop) (A : Option Addr) (n c : Nat) (l : List Value) (b : ByteArray) (w : World) (h : OwnK 9 1 w K A n c l) :
    Calls Tryd.prog 21 #[.slice A n c, .string b] w fun e w' => e = .returned (.tuple #[]) ∧ w.grownBy w' (Value.slice A n c).ownBlock := by
  rcases h.2 with ⟨rfl, rfl, rfl⟩ | ⟨g, o, cur, rfl, _, hG, hnc, hcm, hcs, _⟩
  · go_enter Tryd.func21, Tryd.ntmps21
    go_wp2
    go_loopw [4, 11] (fun _ iv wr => iv = .int .i64 0 ∧ w.grownBy wr none) (fun _ _ _ => 0)
    case atStart => exact ⟨rfl, grown_reflK w none⟩
    case round =>
      obtain ⟨rfl, hb⟩ := hrel
      go_wp2
      refine bodyPost_end (v := .tuple #[]) (by simp [results, Tryd.results21, go_sem]) rfl ⟨rfl, hb⟩
  · have hc : c ≤ 9223372036854775807 := by unfold maxLen at hcm; omega
    rw [Nat.mul_one] at hcs
    clear h
    go_enter Tryd.func21, Tryd.ntmps21
    go_wp2
    go_loopw [4, 11] (fun _ iv wr => ∃ (i : Nat) (cs : Array Value), i ≤ c ∧ iv = .int .i64 i ∧ o + c ≤ cs.size ∧ Blk wr g 9 cs ∧ w.grownBy wr (some g)) (fun _ iv _ => c - (intOf iv).toNat)
    case atStart => exact ⟨0, cur, by omega, rfl, hcs, hG, grown_reflK w _⟩
    case round =>
      obtain ⟨i, cs, hi, rfl, hcs, hB, hbr⟩ := hrel
      by_cases hlt : i < c
      · have c0 : wr.cell? ⟨g, o + i, none⟩ = some (cs[o + i]'(by omega)) := by rw [hB.cell, Array.getElem?_eq_getElem]
        have f0 := hB.frozen (o + i)
        have ilt : (i : Int) < c := by omega
        have hB2 := hB.set_ (o + i) (.string b)
        have hg2 := grown_setK hbr (o + i) (.string b)
        have hs2 : o + c ≤ (cs.setIfInBounds (o + i) (.string b)).size := by simpa using hcs
        have HS := Lib.hid hs2
        generalize h1 : cs[o + i]'(by omega) = v1 at c0
        clear h1 hs2 hcs
        go_wp2
        go_roundw
        case rel => exact ⟨i + 1, _, by omega, by go_num, HS.out, hB2, hg2⟩
        case measure => simp only [intOf]; omega
      · obtain rfl : i = c := by omega
        go_wp2
        refine bodyPost_end (v := .tuple #[]) (by simp [results, Tryd.results21, go_sem]) rfl ⟨rfl, hbr⟩
end Go.Proofs.YtigbnldmjafgmaaDoor

/- slices.Clone: a row of the call's own that reads as the old one. -/
namespace Go.Proofs.YtigbnldmjafgmaaDoor
open Go.RowKit
set_option linter.unusedVariables false

theorem run_eql_slice_nil {P : Program} (w : World) (t e : TypeId) (a : Option Addr) (l c : Nat) (h : P.underlying t = some (.slice e)) : (binOp .eql t (.slice a l c) (.slice none 0 0)).run P w = .ok (.bool a.isNone) w := by
  simp only [binOp]
  simp [run_equal_slice_nil w t e a l c h]
theorem own_empty (w : World) (base : Nat) (e : TypeId) (size : Nat) (h : base ≤ w.heap.size) : (w.alloc (.cells #[] e)).ownsRow base e size (.slice (some ⟨w.heap.size, 0, none⟩) 0 0) 0 [] :=
  ⟨by simp, .inr ⟨w.heap.size, 0, #[], rfl, h, heap_alloc_new w _, Nat.le_refl _, Nat.zero_le _, by simp, by simp⟩⟩







theorem infoStrCl : (Tryd.prog.info? 9).map (fun i => (i.zero, i.size, i.bytes)) = some (some (.string ⟨#[]⟩), 1, 16) := by kernel_rfl
set_option maxRecDepth 100000 in
set_option maxHeartbeats 1000000 in
theorem cloneStr_any (A : Option Addr) (n c B : Nat) (l : List (ByteArray)) (hl : l.length = n) (hn : n * 16 ≤ 140737488355328) (w : World) (h : Reads w B A n 1 (l.flatMap cStr)) (hB : B ≤ w.heap.size) :
    Calls Tryd.prog 20 #[.slice A n c] w fun e w' => ∃ A' c', e = .returned (.slice A' n c') ∧ w'.ownsRow w.heap.size 9 1 (.slice A' n c') n (l.flatMap cStr) ∧ Below w.heap.size w w' := by
  have hfl : (l.flatMap cStr).length = n * 1 := h.1
  have hone : ∀ u ∈ l.flatMap cStr, u.oneCell' = true := fun u hu => by
    obtain ⟨x, _, hx⟩ := List.mem_flatMap.1 hu
    simp only [cStr, List.mem_cons, List.not_mem_nil, or_false] at hx
    rcases hx with rfl <;> rfl
  cases A with
  | none =>
    have h0 : n = 0 := by
      rcases Nat.eq_zero_or_pos n with h0 | h0
      · exact h0
      · obtain ⟨b, o, e, _⟩ := h.2 h0
        cases e
    subst h0
    have hnil : l = [] := List.eq_nil_of_length_eq_zero hl
    subst hnil
    have heq := fun w => run_eql_slice_nil (P := Tryd.prog) w 33 9 none 0 c Tryd.underlying33
    go_enter Tryd.func20, Tryd.ntmps20
    go_wp2
    go_ret
    exact ⟨none, 0, rfl, World.ownsRow_nil _ _ _ _, Below.refl _ _⟩
  | some a =>
    have hnews : ∀ j u, (l.flatMap cStr)[j]? = some u → (w.alloc (.cells #[] 9)).cell? (a.add j) = some u := fun j u hj => by
      have hj' := (List.getElem?_eq_some_iff.1 hj).1
      have hn0 : 0 < n := by rcases Nat.eq_zero_or_pos n with h0 | h0; rw [hfl, h0] at hj'; omega; exact h0
      obtain ⟨b, o, e, hb, hc⟩ := h.2 hn0
      injection e with e
      subst e
      rw [add_at, World.cell?_alloc_lt w _ _ (by show b < _; omega), hc j hj', List.getD_eq_getElem?_getD, hj]; rfl
    have Hnews := Lib.hid hnews
    have Hfl := Lib.hid hfl
    have Hone := Lib.hid hone
    obtain ⟨i0, hi, hz0, hz1, hz2⟩ := info_parts infoStrCl
    have Hi := Lib.hid hi
    have Hz0 := Lib.hid hz0
    have Hz1 := Lib.hid hz1
    have Hz2 := Lib.hid hz2
    clear hnews hfl hone hi hz0 hz1 hz2 h
    have heq := fun w => run_eql_slice_nil (P := Tryd.prog) w 33 9 (some a) n c Tryd.underlying33
    have hown := own_empty w w.heap.size 9 1 (Nat.le_refl _)
    go_enter Tryd.func20, Tryd.ntmps20
    go_wp2_with (first | (at_builtin; go_must (refine wpList_append_own _ rfl (.tmp 5) (.tmp 6) 33 rfl w.heap.size 9 i0 _ 1 16 Tryd.underlying33 Hi.out Hz0.out Hz1.out Hz2.out rfl (by decide) _ 0 [] rfl hown a n c (l.flatMap cStr) rfl Hfl.out Hnews.out Hone.out (by unfold maxLen; omega) (by omega) (by simp) ?_); intro v3 w3 hown3 hg3 _))
    go_ret
    rw [Nat.zero_add, List.nil_append] at hown3
    obtain ⟨A', c', rfl, _⟩ := own_shape hown3
    exact ⟨A', c', rfl, hown3, ((Below.refl w.heap.size w).alloc (Nat.le_refl _) (.cells #[] 9)).grown hg3 (by simp) (fun k hk => (hown.lt k hk).1)⟩



end Go.Proofs.YtigbnldmjafgmaaDoor

/- LogOwn's walk: records of a log and names of a collection do not share memory with arguments. -/
namespace Go.Proofs.YtigbnldmjafgmaaDoor
open Go.RowKit
set_option linter.unusedVariables false

theorem OwnK.of_rowL {T : TypeId} {s : Nat} {w : World} {B n c : Nat} {A : Option Addr} {xs : List Value} (h : w.ownsRow B T s (.slice A n c) n xs) : OwnK T s w (· < B) A n c xs := by
  refine ⟨h.1, ?_⟩
  rcases h.2 with ⟨hv, hn⟩ | ⟨g, cap, cur, hv, hb, hg, h1, h2, h3, h4⟩
  · injection hv with e1 e2 e3
    exact .inl ⟨e1, hn, e3⟩
  · injection hv with e1 e2 e3
    subst e3
    exact .inr ⟨g, 0, cur, e1, Nat.not_lt.2 hb, hg, h1, h2, by omega, by rw [List.drop_zero]; exact h4⟩
theorem append_some (g : Nat) (d r : ByteArray) (hd : d.size ≤ 4000) (w : World) (h : LogAt w g d 0) :
    Calls Tryd.prog 18 #[.pointer (some ⟨g, 0, none⟩), .string r] w fun e w' => ∃ E d', e = .returned (.int .i64 E) ∧ d'.size ≤ 4000 ∧ LogAt w' g d' 0 ∧ Only g w w' := by
  by_cases hr : r.size ≤ 1100
  · by_cases hf : d.size + (r.size + 6) ≤ 4000
    · refine (append_ok g 0 d r hr hf w h).mono fun e w' ⟨h1, h2, h3⟩ => ⟨0, _, h1, ?_, h2, h3⟩
      rw [ByteArray.size_append, lb_size, frame_len]
      show d.size + (r.size + 6) ≤ 4000
      omega
    · exact (append_full g 0 d r hr hd (by omega) w h).mono fun e w' ⟨h1, h2, h3⟩ => ⟨11, d, h1, hd, h2, h3⟩
  · exact (append_large g 0 d r (by omega) w h).mono fun e w' ⟨h1, h2, h3⟩ => ⟨2, d, h1, hd, h2, h3⟩
theorem LoneK.only {w0 w w' : World} {gh g : Nat} {P : List Pg} (h : LoneK w0 gh P (· = g) w) (h0 : w0.heap.size ≤ g) (hk : Only g w w') : LoneK w0 gh P (· = g) w' :=
  h.row h0 ⟨hk.os, hk.tape, hk.output, hk.size, fun b hb => hk.block b hb.1 (fun e => hb.2 (by injection e))⟩ (.inl rfl) (Nat.lt_of_lt_of_le (h.lt g rfl) hk.size)

set_option maxRecDepth 100000 in
set_option maxHeartbeats 4000000 in
theorem logOwn_walk (A0 : Option Addr) (len0 cap0 : Nat) (ss : List ByteArray) (A : Option Addr) (len cap : Nat) (l : List DRow) {w : World} (hss : StrsIn w A0 len0 cap0 ss) (hl : DeedsIn w A len cap l) (ht : Tab w) :
    Calls Tryd.prog 5 #[.slice A0 len0 cap0, .slice A len cap] w fun e w' => e = .returned (.bool true) ∧ Below w.heap.size w w' := by
  obtain ⟨hll, hrd, hlen, hok, hcap, hcapm, hnil⟩ := hss
  have Hll := Lib.hid hll
  have hl0 : len0 ≤ 8796093022207 := by omega
  have Wk := Lib.hid (fun (w1 : World) (hb : Below w.heap.size w w1) => worked_law (based_self w1) (ht.after hb) A len cap l w hl hb)
  have Ht := Lib.hid (fun (w1 : World) (hb : Below w.heap.size w w1) => ht.after hb)
  have Hrd := Lib.hid hrd
  clear hl ht hll hok hcapm hnil hcap hlen hrd
  go_enter Tryd.func5, Tryd.ntmps5
  go_wp2_with fail
  refine (logs_any _).mono ?_
  rintro e w1 ⟨rfl, hb1⟩
  have Hs := Lib.hid (houses_any w1 (Ht.out _ hb1))
  go_wp2_with fail
  refine Hs.out.mono ?_
  rintro e w2 ⟨rfl, hb2⟩
  have hb2 := chain hb2 hb1
  clear Hs hb1
  go_wp2_with fail
  refine (new_any _).mono ?_
  rintro e w3 ⟨rfl, hlog3, hb3⟩
  have hg3 : w2.heap.size < w3.heap.size := hlog3.lt
  obtain ⟨g, hg⟩ : ∃ g, g = w2.heap.size := ⟨_, rfl⟩
  rw [← hg] at hlog3 hg3
  have hgs : w2.heap.size ≤ g := Nat.le_of_eq hg.symm
  go_wp2_with fail
  refine (Wk.out w3 (chain hb3 hb2)).mono ?_
  rintro e w4 ⟨gh, rfl, own4, Q, h4, hs4⟩
  have hI : InLaw w2 own4 w4 gh Q (workP l) := ⟨chain h4.below hb3, h4.house, h4.pages, h4.ok, h4.based, fun k hk => by rw [hs4 k (by omega)]; exact hk, fun i hi => by have := h4.ids i hi; omega⟩
  have hL4 : LoneK w2 gh (workP l) (· = g) w4 := ⟨own4, Q, hI, fun b hb => by
    have hb' : b = g := hb
    subst hb'
    refine ⟨Nat.lt_of_lt_of_le hg3 h4.below.size, fun hi => ?_⟩
    rw [hs4 b hg3] at hi
    have := h4.ids b hi
    omega⟩
  have hlog4 := hlog3.after h4.below
  have Hb2 := Lib.hid hb2
  clear Wk h4 hs4 hI hlog3 hg3 hb3 hb2
  generalize workP l = P at *
  go_wp2
  simp only [← hg]
  clear hg
  go_loopw [8, 30] (fun _ i wr => ∃ (k : Nat) (d : ByteArray), k ≤ len0 ∧ i = .int .i64 k ∧ LogAt wr g d 0 ∧ d.size ≤ 4000 ∧ LoneK w2 gh P (· = g) wr) (fun _ i _ => len0 - (intOf i).toNat)
  case atStart => exact ⟨0, ⟨#[]⟩, Nat.zero_le _, rfl, hlog4, by decide, hL4⟩
  case round =>
    clear hlog4 hL4
    obtain ⟨k, d, hk, rfl, hlog, hd4, hL⟩ := hrel
    by_cases hlt : k < len0
    · have h := Hrd.out.below (chain hL.lone.below Hb2.out)
      obtain ⟨b, o, rfl, hbB, hc⟩ := h.2 (by omega)
      have c0 := hc (k * 1 + 0) (by rw [flat_length cStr 1 cStr_len, Hll.out]; omega)
      rw [flat_getD cStr 1 cStr_len ByteArray.empty ss k _ (by rw [Hll.out]; omega) (by omega)] at c0
      simp only [cStr, List.getD_cons_zero, Nat.mul_one, Nat.add_zero] at c0
      generalize ss.getD k ByteArray.empty = r at *
      have AP := Lib.hid (append_some g d r hd4 wr hlog)
      clear hc h hlog
      go_wp2_with fail
      refine AP.out.mono ?_
      rintro e w5 ⟨E, d', rfl, hd5, hlog5, ho5⟩
      have hL5 := hL.only hgs ho5
      clear AP
      go_wp2
      go_roundw
      case rel => exact ⟨k + 1, d', by omega, by go_num, hlog5, hd5, hL5⟩
      case measure => simp only [intOf]; omega
    · obtain rfl : k = len0 := by omega
      clear hlt
      obtain ⟨L, m, hs⟩ := scans_total _ d.data.toList (Nat.le_refl _)
      have hcount := disk_count hd4 L m hs
      have hn6 := hL.lone.ok.few
      have hnl := namesB_len P
      have hln : (L.map lb).length = L.length := List.length_map ..
      have AO := Lib.hid (fun W (hl : LogAt W g d 0) => all_own g 0 m d hd4 L hs W hl)
      have NO := Lib.hid (fun W (hb : Below wr.heap.size wr W) => names_lone (hL.lone.after hb))
      have HLog := Lib.hid hlog
      have hbw := chain hL.lone.below Hb2.out
      clear hs hlog hL
      generalize L.map lb = Ls at *
      generalize L.length = n at *
      generalize namesB P = Ns at *
      generalize P.length = p at *
      go_wp2_with fail
      refine (AO.out _ HLog.out).mono ?_
      rintro e w5 ⟨A5, c5, rfl, own5, hb5⟩
      have o5 := OwnK.of_rowL own5
      go_wp2_with fail
      refine (NO.out _ hb5).mono ?_
      rintro e w6 ⟨A6, c6, rfl, o6, hb6⟩
      have o56 := o5.after hb6
      have l5 := o5.lt
      have hb6' := chain hb6 hb5
      have C1 := Lib.hid (cloneStr_any A5 n c5 _ Ls hln (by omega) w6 o56.toReads (Nat.le_refl _))
      clear own5 o5
      go_wp2_with fail
      refine C1.out.mono ?_
      rintro e w7 ⟨A7, c7, rfl, own7, hb7⟩
      have o7 := OwnK.of_rowL own7
      have o57 := o56.after hb7
      have o67 := o6.after hb7
      have hb7' := chain hb7 hb6'
      have C2 := Lib.hid (cloneStr_any A6 p c6 _ Ns hnl (by omega) w7 o67.toReads (Nat.le_refl _))
      clear own7 C1
      go_wp2_with fail
      refine C2.out.mono ?_
      rintro e w8 ⟨A8, c8, rfl, own8, hb8⟩
      have o8 := OwnK.of_rowL own8
      have o58 := o57.after hb8
      have o68 := o67.after hb8
      have o78 := o7.after hb8
      have hb8' := chain hb8 hb7'
      have S1 := Lib.hid (spoilK_any _ A5 n c5 _ ⟨#[63]⟩ w8 o58)
      have l6 := o6.lt
      have l7 := o7.lt
      have l8 := o8.lt
      have s6 := hb6.size
      have s7 := hb7.size
      clear own8 C2
      go_wp2_with fail
      refine S1.out.mono ?_
      rintro e w9 ⟨rfl, hg9⟩
      have s5 := hb5.size
      have o69 := o68.grown hg9 (fun k hk hq => by have := (l5 k hk).2; have := (l6 k hq).1; omega)
      have o79 := o78.grown hg9 (fun k hk hq => by have := (l5 k hk).2; have := (l7 k hq).1; omega)
      have o89 := o8.grown hg9 (fun k hk hq => by have := (l5 k hk).2; have := (l8 k hq).1; omega)
      have hb9 := hb8'.grown hg9 hb8'.size (fun k hk => by have := (l5 k hk).1; omega)
      have S2 := Lib.hid (spoilK_any _ A6 p c6 _ ⟨#[63]⟩ w9 o69)
      clear S1 o58 o57 o56 o78 o68 o67 hg9
      go_wp2_with fail
      refine S2.out.mono ?_
      rintro e w10 ⟨rfl, hg10⟩
      have o710 := o79.grown hg10 (fun k hk hq => by have := (l6 k hk).2; have := (l7 k hq).1; omega)
      have o810 := o89.grown hg10 (fun k hk hq => by have := (l6 k hk).2; have := (l8 k hq).1; omega)
      have hb10 := hb9.grown hg10 hb9.size (fun k hk => by have := (l6 k hk).1; omega)
      clear S2 o69 o79 o89 hg10 l5 l6 l7 l8 hb9 hb8' hb7' hb6' hb8 hb7 hb6 hb5 o6 o7 o8 s5 s6 s7
      go_wp2_with fail
      refine (AO.out _ (HLog.out.after hb10)).mono ?_
      rintro e w11 ⟨A11, c11, rfl, own11, hb11⟩
      have o11 := OwnK.of_rowL own11
      have E1 := Lib.hid (equalStr_any A11 A7 n n c11 c7 _ _ Ls Ls w11 (by omega) (by omega) hln hln o11.toReads (o710.after hb11).toReads)
      have o811 := o810.after hb11
      have hb11' := chain hb11 hb10
      clear own11 o11 o710 o810
      go_wp2_with fail
      refine E1.out.mono ?_
      rintro e w12 ⟨rfl, hb12⟩
      have q1 : decide (Ls = Ls) = true := decide_eq_true rfl
      have o812 := o811.after hb12
      have hb12' := chain hb12 hb11'
      clear E1 o811
      go_wp2_with fail
      refine (NO.out _ hb12').mono ?_
      rintro e w13 ⟨A13, c13, rfl, o13, hb13⟩
      have E2 := Lib.hid (equalStr_any A13 A8 p p c13 c8 _ _ Ns Ns w13 (by omega) (by omega) hnl hnl o13.toReads (o812.after hb13).toReads)
      have hb13' := chain hb13 hb12'
      clear o13 o812
      go_wp2_with fail
      refine E2.out.mono ?_
      rintro e w14 ⟨rfl, hb14⟩
      have hbf := chain (chain hb14 hb13') hbw
      go_wp2
      go_ret
      exact ⟨by simp, hbf⟩
end Go.Proofs.YtigbnldmjafgmaaDoor

/- LogOwn: for every input the law returns true, and each argument reads afterwards as it read before. -/
namespace Go.Proofs.YtigbnldmjafgmaaDoor.logOwn
open Go.ChangeShapes Go.WideShapes Go.ChangeAt Go.RowKit
open Go.ChangeMaps (open_string shut_string)
set_option linter.unusedVariables false

theorem own : ownKnob Tryd.prog.godebug = none := by kernel_rfl
theorem laidOut : laidOutB Tryd.prog = true := by kernel_rfl

set_option maxRecDepth 100000 in
theorem lifted (os : Os) (started : os.Started) (H : Type) (enc : TypeId × Value → H) :
    ReturnsInHanded {} Tryd.checked os 5 .any (fun w args => (Rows.logOwnSpec.pre enc Tryd.prog Tryd.f5 Rows.logOwnRow.domain false w args ∧ laidMetH Tryd.prog Rows.logOwnRow.laid w) ∧ sizedMet enc Tryd.prog Tryd.f5 (OpenSpec.ofChange Rows.logOwnSpec) false w args)
      (Rows.logOwnSpec.post enc Tryd.prog Tryd.f5 false true false false) := by
  refine returnsInHanded_of_change_and (C := Tryd.checked) (X := fun w _ => laidMetH Tryd.prog Rows.logOwnRow.laid w) (fun _ _ _ hh h => h.of_heap hh) own started (by kernel_rfl) Tryd.func5
    (ChangeSpec.witness_shaped (enc := enc) (C := Tryd.checked) (os := os) (X := fun w _ => laidMetH Tryd.prog Rows.logOwnRow.laid w) false (World.laidAll Tryd.prog os Rows.logOwnRow.laid) #[.slice none 0 0, .slice none 0 0] 8 (World.laidAll_os _ _ _)
      (World.shaped_of_ZipB (by kernel_rfl) (by kernel_rfl)) (by kernel_rfl) (by kernel_rfl) (by kernel_rfl)
      (by rw [MakeChecks.laidMetH_plain _ _ _ (by kernel_rfl)]; exact laidMet_laidAll _ (by kernel_rfl) (by kernel_rfl))) ?_
  intro W base args ds gs before hval0 hW hcnd hsz0 hL _
  have hval : ∀ (j : Nat) t v, Tryd.f5.params[j]? = some t → args[j]? = some v → Value.okWide Tryd.prog W .any base t v := hval0
  have hsz : (DataW.weightsEach Tryd.prog (Tryd.f5.params.toList ++ Rows.logOwnSpec.plain.varTypes Tryd.prog) (ds ++ gs)).all (· ≤ reachBytes) = true := hsz0
  have hW' := hW
  obtain ⟨p, q, hA0, hV, rfl, hfz, hnd⟩ := hW
  have hA : DataW.TrodAll enc Tryd.prog W 0 (fun _ => true) true Tryd.f5.params.toList args.toList ds p := hA0
  rw [Tryd.params5] at hA hval hsz
  obtain ⟨v0, vs0, d0, ds0, p0, q0, hargs, rfl, rfl, h0, r0⟩ := trodAll_cons hA
  obtain ⟨v1, vs1, d1, ds1, p1, q1, rfl, rfl, rfl, h1, r1⟩ := trodAll_cons r0
  obtain ⟨rfl, rfl, rfl⟩ := trodAll_nil r1
  obtain rfl : args = #[v0, v1] := by cases args; simp_all
  obtain ⟨rfl, rfl⟩ := trodVars_none hV
  obtain ⟨a0, len0, cap0, rfl⟩ := okWide_slice Tryd.underlying33 (hval 0 33 v0 rfl rfl)
  have k0 := h0
  have lt0 : ∀ x ∈ p0, x.block < W.heap.size := by obtain ⟨m, hm⟩ := k0; exact DataW.trod_lt m _ _ _ hm
  obtain ⟨z0, w0⟩ : ∃ zs, StrsIn W a0 len0 cap0 zs := strs_in h0 lt0 (fun n hn => of_decide_eq_true (List.all_eq_true.1 hsz n (DataW.weights_mem_each (j := 0) rfl rfl n hn)))
  obtain ⟨a1, len1, cap1, rfl⟩ := okWide_slice Tryd.underlying22 (hval 1 22 v1 rfl rfl)
  have k1 := h1
  have lt1 : ∀ x ∈ p1, x.block < W.heap.size := by obtain ⟨m, hm⟩ := k1; exact DataW.trod_lt m _ _ _ hm
  obtain ⟨z1, w1⟩ : ∃ zs, DeedsIn W a1 len1 cap1 zs := deeds_in h1 lt1 (fun n hn => of_decide_eq_true (List.all_eq_true.1 hsz n (DataW.weights_mem_each (j := 1) rfl rfl n hn)))
  clear hA0 hval0
  have htab : Tab W := tab_of_laid hL (by kernel_rfl) (by kernel_rfl)
  refine (logOwn_walk a0 len0 cap0 z0 a1 len1 cap1 z1 w0 w1 (w := W) htab).mono fun e W' ⟨he, bel⟩ => ?_
  subst he
  exact ⟨_, rfl, _, _, _, [], _, [], hW', trodAll_mk1 (shut_bool Tryd.underlying4 _), (trodAll_cons_mk (Below.trod laidOut (by kernel_rfl) (of_decide_eq_true (by kernel_rfl)) k0 bel lt0) (trodAll_cons_mk (Below.trod laidOut (by kernel_rfl) (of_decide_eq_true (by kernel_rfl)) k1 bel lt1) trodAll_mk0)), rfl, bel.frame _, fun h => by cases h⟩

theorem holds : Rows.LogOwnSaid :=
  OpenClaim.holds_of_wide 5 Tryd.f5 rfl rfl rfl rfl rfl rfl rfl ⟨rfl, rfl, rfl, rfl, rfl⟩ rfl rfl rfl rfl rfl (by kernel_rfl) Tryd.func5 (by kernel_rfl)
    (of_decide_eq_true (by kernel_rfl)) (by unfold Func.isWrapper; first | (rw [if_pos (by decide +kernel)]; kernel_rfl) | (rw [if_neg (by decide +kernel)]; exact ⟨rfl, rfl⟩))
    (fun os started H enc _ => lifted os started H enc)
set_option maxRecDepth 100000 in
theorem card_holds : Rows.LogOwnCardSaid :=
  Claim7.holds_tied_plain_at .later [] Rows.logOwnCard.laidKinds true Rows.logOwnCard.stood.harness false
    holds (fun _ h => by cases h) (by kernel_rfl) (fun _ h => by cases h) logOwn_row_tie rfl ⟨rfl, rfl⟩ (by kernel_rfl) rfl
    (fun f fn hf hfn => by
      obtain rfl : f = 5 := Option.some.inj ((show Tryd.prog.funcNamed "quillward/quillkeep.LogOwn" = some 5 by kernel_rfl).symm.trans hf) |>.symm
      obtain rfl : fn = Tryd.f5 := (Option.some.inj (Tryd.func5.symm.trans hfn)).symm
      exact ⟨by kernel_rfl, fun j t ht => by
        have hall : (Tryd.f5.params.toList.all fun u => !Tryd.prog.wantsStandIn u) = true := by kernel_rfl
        exact (show Tryd.prog.wantsStandIn t = false by simpa using List.all_eq_true.1 hall t (by simpa using Array.mem_of_getElem? ht))⟩)
    (by kernel_rfl)
#print axioms card_holds
end Go.Proofs.YtigbnldmjafgmaaDoor.logOwn

