import Derived.Test.YtigbnldmjafgmaaDoorHouseG2
import Derived.Test.YtigbnldmjafgmaaDoorRows
import Derived.Test.YtigbnldmjafgmaaDoorCards
import Derived.Test.YtigbnldmjafgmaaDoorTie
import Derived.WalkKit
import Derived.ProofKit
import Derived.OpenShut
import Derived.ShutString
import Derived.SizedLaws
import Derived.ChangeOld
import Derived.Below
import Derived.LaidMore
import Derived.Lay
import Derived.MakeChecks
import Derived.SevenTiedAt
import Derived.Stop.Joined
import Derived.Test.YtigbnldmjafgmaaDoorTab
import Derived.Test.YtigbnldmjafgmaaDoorArgs
/- Several texts in one: XHouseStepsP XHouseKeepsP XHousePair XHouseKeeps XHouseKeepsRow. -/
/- Plain: a text that was made is undone and redone. -/
namespace Go.Proofs.YtigbnldmjafgmaaDoor
open Go.RowKit
set_option linter.unusedVariables false

theorem textP_some {P : List Pg} {name : ByteArray} {p : Pg} (h : pageOf name P = some p) : textP P name = (p.t, true) := by unfold textP; rw [h]
theorem textP_none {P : List Pg} {name : ByteArray} (h : pageOf name P = none) : textP P name = (⟨#[]⟩, false) := by unfold textP; rw [h]
theorem oneD_some {full : Prop} [Decidable full] {p : Pg} {d : Dd} (hk : 2 ≤ d.kind ∧ d.kind ≤ 10) (h9 : d.kind ≠ 9) (hn : nameE d.name = 0) : oneD full (some p) d = ((pageD p d).1, (pageD p d).2.1, some (pageD p d).2.2) := by
  unfold oneD
  rw [if_neg (by omega), if_neg (by rw [hn]; decide)]
  show (if d.kind = 1 then _ else _) = _
  rw [if_neg (by omega), if_neg h9]
theorem oneD_none {full : Prop} [Decidable full] {d : Dd} (hk : 2 ≤ d.kind ∧ d.kind ≤ 10) : (oneD full none d).2.1 ≠ 0 := by
  unfold oneD
  rw [if_neg (by omega)]
  by_cases hn : nameE d.name ≠ 0
  · rw [if_pos hn]; exact hn
  · rw [if_neg hn]
    show (if d.kind = 1 then _ else _ : ByteArray × Int × Option Pg).2.1 ≠ 0
    rw [if_neg (by omega)]
    decide
theorem make_zero {p : Pg} {text : ByteArray} (h : (makeP p text).1 = 0) : ∃ l, checkE p.t.size l = 0 ∧ makeP p text = (0, { p with t := text, B := (p.B ++ [p.t]).drop (p.B.length + 1 - 30), O := [], H := p.H ++ [(101 :: writeL l, text)] }) := by
  unfold makeP at h ⊢
  by_cases h0 : ce p.t text ≠ 0
  · rw [if_pos h0] at h; exact absurd (show (2 : Int) = 0 from h) (by decide)
  rw [if_neg h0] at h ⊢
  by_cases h20 : 20 < cv p.t text
  · rw [if_pos h20] at h; exact absurd (show (11 : Int) = 0 from h) (by decide)
  rw [if_neg h20] at h ⊢
  have hz : ce p.t text = 0 := by simpa using h0
  obtain ⟨m1, m2, _⟩ := makes_law p.t text hz (by omega)
  unfold editP at h ⊢
  by_cases hl : makeE p.t text = []
  · rw [if_pos hl] at h; exact absurd (show (5 : Int) = 0 from h) (by decide)
  rw [if_neg hl] at h ⊢
  by_cases hE : leafE p.t p.H (makeE p.t text) ≠ 0
  · rw [if_pos hE] at h; exact absurd h hE
  rw [if_neg hE]
  have hE0 : leafE p.t p.H (makeE p.t text) = 0 := by simpa using hE
  have e2 : leafT p.t p.H (makeE p.t text) = text := by unfold leafT; rw [if_pos hE0]; exact m2
  have e3 : leafH p.t p.H (makeE p.t text) = p.H ++ [(101 :: writeL (makeE p.t text), text)] := by unfold leafH; rw [if_pos hE0, e2]
  exact ⟨makeE p.t text, m1, by rw [e2, e3]⟩
theorem last_back {B : List ByteArray} {t : ByteArray} (h : B.length ≤ 30) : (B ++ [t]).drop (B.length + 1 - 30) ≠ [] ∧ ((B ++ [t]).drop (B.length + 1 - 30)).getLastD ⟨#[]⟩ = t := by
  have e : (B ++ [t]).drop (B.length + 1 - 30) = B.drop (B.length + 1 - 30) ++ [t] := by rw [List.drop_append_of_le_length (by omega)]
  rw [e]
  exact ⟨by simp, by rw [List.getLastD_concat]⟩

theorem steps_no {P : List Pg} (hP : HOk P) (name text : ByteArray) (h : (houseD P (dd 10 0 name text)).2.1 ≠ 0 ∨ (textP P name).2 = false) : (houseD P (dd 10 0 name text)).2.1 ≠ 0 ∧ (houseD P (dd 10 0 name text)).2.2 = P := by
  have ho := house_one hP (dd 10 0 name text)
  have key : (houseD P (dd 10 0 name text)).2.1 ≠ 0 := by
    rcases h with h | h
    · exact h
    · rw [ho.err]
      have hnone : pageOf name P = none := by
        cases hp : pageOf name P with
        | none => rfl
        | some p => rw [textP_some hp] at h; cases h
      show (oneD (P.length = 6) (pageOf name P) (dd 10 0 name text)).2.1 ≠ 0
      rw [hnone]
      exact oneD_none ⟨by show (2 : Int) ≤ 10; decide, by show (10 : Int) ≤ 10; decide⟩
  exact ⟨key, ho.same (by rw [← ho.err]; exact key)⟩
theorem steps_yes {P : List Pg} (hP : HOk P) (hpg : ∀ p ∈ P, p.Ok) (name text : ByteArray) {P1 P2 P3 : List Pg} {T1 T2 T3 : ByteArray} {E2 E3 : Int} (h1 : houseD P (dd 10 0 name text) = (T1, 0, P1)) (h2 : houseD P1 (dd 3 0 name ⟨#[]⟩) = (T2, E2, P2)) (h3 : houseD P2 (dd 4 0 name ⟨#[]⟩) = (T3, E3, P3)) :
    (textP P name).2 = true ∧ textP P1 name = (text, true) ∧ (E2 = 11 ∨ (E2 = 0 ∧ textP P2 name = ((textP P name).1, true) ∧ ((E3 = 0 ∧ textP P3 name = (text, true)) ∨ (E3 = 11 ∧ textP P3 name = ((textP P name).1, true))))) := by
  have ho := house_one hP (dd 10 0 name text)
  rw [h1] at ho
  have hk10 : 2 ≤ (dd 10 0 name text).kind ∧ (dd 10 0 name text).kind ≤ 10 := ⟨by show (2 : Int) ≤ 10; decide, by show (10 : Int) ≤ 10; decide⟩
  have hk3 : 2 ≤ (dd 3 0 name ⟨#[]⟩).kind ∧ (dd 3 0 name ⟨#[]⟩).kind ≤ 10 := ⟨by show (2 : Int) ≤ 3; decide, by show (3 : Int) ≤ 10; decide⟩
  have hk4 : 2 ≤ (dd 4 0 name ⟨#[]⟩).kind ∧ (dd 4 0 name ⟨#[]⟩).kind ≤ 10 := ⟨by show (2 : Int) ≤ 4; decide, by show (4 : Int) ≤ 10; decide⟩
  cases hp : pageOf name P with
  | none =>
    exfalso
    have e := ho.err
    have hq : pageOf (dd 10 0 name text).name P = none := hp
    rw [hq] at e
    exact oneD_none hk10 e.symm
  | some p =>
    have hpm := pageOf_mem hp
    have hpo := hpg p hpm
    have hn : nameE name = 0 := by rw [← (pageOf_some hp).1]; exact hP.nm p hpm
    have hq : pageOf (dd 10 0 name text).name P = some p := hp
    rw [hq, oneD_some hk10 (by show (10 : Int) ≠ 9; decide) hn, pageD10 (show (dd 10 0 name text).kind = 10 from rfl)] at ho
    have e1 : (makeP p text).1 = 0 := ho.err.symm
    obtain ⟨l, _, hm⟩ := make_zero e1
    have hp1 : pageOf name P1 = some (makeP p text).2 := ho.page
    rw [hm] at hp1
    refine ⟨by rw [textP_some hp], by rw [textP_some hp1], ?_⟩
    have ho2 := house_one ho.ok (dd 3 0 name ⟨#[]⟩)
    have hq2 : pageOf (dd 3 0 name ⟨#[]⟩).name P1 = _ := hp1
    rw [h2] at ho2
    have hlb := last_back (t := p.t) (show p.B.length ≤ 30 by have := hpo.few; omega)
    have hb := ho2
    rw [hq2, oneD_some hk3 (by show (3 : Int) ≠ 9; decide) hn, pageD3 (show (dd 3 0 name ⟨#[]⟩).kind = 3 from rfl)] at hb
    unfold backP at hb
    by_cases hf : fits (p.H ++ [(101 :: writeL l, text)]) (((p.B ++ [p.t]).drop (p.B.length + 1 - 30)).getLastD ⟨#[]⟩)
    · rw [if_neg hlb.1, if_pos hf] at hb
      have e2 : E2 = 0 := hb.err
      have hp2 : pageOf name P2 = some _ := hb.page
      right
      refine ⟨e2, ?_, ?_⟩
      · rw [textP_some hp2, textP_some hp]
        exact Prod.ext hlb.2 rfl
      have hq3 : pageOf (dd 4 0 name ⟨#[]⟩).name P2 = _ := hp2
      have ho3 := house_one ho2.ok (dd 4 0 name ⟨#[]⟩)
      rw [h3] at ho3
      have hb3 := ho3
      rw [hq3, oneD_some hk4 (by show (4 : Int) ≠ 9; decide) hn, pageD4 (show (dd 4 0 name ⟨#[]⟩).kind = 4 from rfl)] at hb3
      unfold onP at hb3
      rw [if_neg (by simp)] at hb3
      split at hb3
      · left
        refine ⟨hb3.err, ?_⟩
        rw [textP_some (show pageOf name P3 = some _ from hb3.page)]
        rfl
      · right
        have e3 : E3 = 11 := hb3.err
        refine ⟨e3, ?_⟩
        rw [textP_some (show pageOf name P3 = some _ from hb3.page), textP_some hp]
        exact Prod.ext hlb.2 rfl
    · rw [if_neg hlb.1, if_neg hf] at hb
      exact .inl hb.err
end Go.Proofs.YtigbnldmjafgmaaDoor

/- Plain: after a crash a text is the saved one or a later one. -/
namespace Go.Proofs.YtigbnldmjafgmaaDoor
open Go.RowKit
set_option linter.unusedVariables false

/-- All texts of a name from the saved one on are there, the newest last. -/
def KAt (P : List Pg) (name : ByteArray) (z : Nat) (T : List ByteArray) : Prop :=
  ∃ p, pageOf name P = some p ∧ T.length = z + 1 ∧ T.getD z ByteArray.empty = p.t ∧ ∀ i, p.j ≤ i → i ≤ p.H.length → endT ⟨#[]⟩ (p.H.take i) ∈ T
/-- What a deed may make of a page that is kept. -/
def KStep (p p' : Pg) : Prop := (p'.H = p.H ∧ p'.t = p.t ∧ p.j ≤ p'.j) ∨ ∃ r, p'.H = p.H ++ [(r, p'.t)] ∧ p'.j = p.j
theorem KStep.refl (p : Pg) : KStep p p := .inl ⟨rfl, rfl, Nat.le_refl _⟩
theorem kstep_edit (p : Pg) (l : List Ed) : KStep p (editP p l).2 := by
  unfold editP
  split
  · exact KStep.refl p
  · split
    · exact KStep.refl p
    · rename_i h1 h2
      have h0 : leafE p.t p.H l = 0 := by simpa using h2
      refine .inr ⟨101 :: writeL l, ?_, rfl⟩
      show leafH p.t p.H l = _
      unfold leafH
      rw [if_pos h0]
theorem kstep_make (p : Pg) (t : ByteArray) : KStep p (makeP p t).2 := by
  unfold makeP
  split
  · exact KStep.refl p
  · split
    · exact KStep.refl p
    · exact kstep_edit _ _
theorem kstep_back (p : Pg) : KStep p (backP p).2 := by
  unfold backP
  split
  · exact KStep.refl p
  · split
    · exact .inr ⟨_, rfl, rfl⟩
    · exact KStep.refl p
theorem kstep_on (p : Pg) : KStep p (onP p).2 := by
  unfold onP
  split
  · exact KStep.refl p
  · split
    · exact .inr ⟨_, rfl, rfl⟩
    · exact KStep.refl p
theorem kstep_page {p : Pg} {d : Dd} (hj : p.j ≤ p.H.length) (h6 : d.kind ≠ 6) (h7 : d.kind ≠ 7) : KStep p (pageD p d).2.2 := by
  by_cases k2 : d.kind = 2
  · rw [pageD2 k2]; exact kstep_edit _ _
  by_cases k10 : d.kind = 10
  · rw [pageD10 k10]; exact kstep_make _ _
  by_cases k3 : d.kind = 3
  · rw [pageD3 k3]; exact kstep_back _
  by_cases k4 : d.kind = 4
  · rw [pageD4 k4]; exact kstep_on _
  by_cases k5 : d.kind = 5
  · rw [pageD5 k5]; exact .inl ⟨rfl, rfl, hj⟩
  unfold pageD
  rw [if_neg k2, if_neg k10, if_neg k3, if_neg k4, if_neg k5, if_neg h6, if_neg h7]
  exact KStep.refl p
theorem keeps_step {P : List Pg} (hP : HOk P) (hpg : ∀ p ∈ P, p.Ok) {name : ByteArray} {z : Nat} {T : List ByteArray} (h : KAt P name z T) {d : Dd} (h6 : d.kind ≠ 6) (h7 : d.kind ≠ 7) (h9 : d.kind ≠ 9) {T1 : ByteArray} {E : Int} {P' : List Pg} (hR : houseD P d = (T1, E, P')) :
    ∃ t, textP P' name = (t, true) ∧ KAt P' name (z + 1) (T ++ [t]) := by
  obtain ⟨p, hp, hl, hlast, hall⟩ := h
  have ho := house_one hP d
  rw [hR] at ho
  have hpo := hpg p (pageOf_mem hp)
  have key : ∃ p', pageOf name P' = some p' ∧ KStep p p' := by
    by_cases hnm : d.name = name
    · have hpg' := ho.page
      rw [hnm, hp] at hpg'
      unfold oneD at hpg'
      by_cases c1 : d.kind < 1 ∨ 10 < d.kind
      · rw [if_pos c1] at hpg'; exact ⟨p, hpg', KStep.refl p⟩
      rw [if_neg c1] at hpg'
      by_cases c2 : nameE d.name ≠ 0
      · rw [if_pos c2] at hpg'; exact ⟨p, hpg', KStep.refl p⟩
      rw [if_neg c2] at hpg'
      by_cases c3 : d.kind = 1
      · have e : pageOf name P' = some p := by simpa [c3] using hpg'
        exact ⟨p, e, KStep.refl p⟩
      · have e : pageOf name P' = some (pageD p d).2.2 := by simpa [c3, h9] using hpg'
        exact ⟨_, e, kstep_page hpo.jle h6 h7⟩
    · exact ⟨p, (ho.other name fun e => hnm e.symm).trans hp, KStep.refl p⟩
  obtain ⟨p', hp', hk⟩ := key
  refine ⟨p'.t, textP_some hp', p', hp', by rw [List.length_append, hl]; rfl, ?_, fun i h1 h2 => ?_⟩
  · rw [getD_app_right _ _ _ _ (by omega), hl, Nat.sub_self]; rfl
  · rcases hk with ⟨e1, e2, e3⟩ | ⟨r, e1, e2⟩
    · rw [e1] at h2 ⊢
      exact List.mem_append_left _ (hall i (by omega) h2)
    · rw [e1] at h2 ⊢
      rw [List.length_append, List.length_singleton] at h2
      rcases Nat.lt_or_ge p.H.length i with g | g
      · rw [List.take_of_length_le (by rw [List.length_append, List.length_singleton]; omega), endT_snoc]; simp
      · rw [List.take_append_of_le_length g]
        exact List.mem_append_left _ (hall i (by omega) g)
theorem keeps_start {P : List Pg} (hP : HOk P) (hpg : ∀ p ∈ P, p.Ok) {name : ByteArray} {T1 : ByteArray} {P' : List Pg} (hR : houseD P (dd 5 0 name ⟨#[]⟩) = (T1, 0, P')) :
    ∃ t, textP P' name = (t, true) ∧ KAt P' name 0 [t] := by
  have ho := house_one hP (dd 5 0 name ⟨#[]⟩)
  rw [hR] at ho
  have hk : 2 ≤ (dd 5 0 name ⟨#[]⟩).kind ∧ (dd 5 0 name ⟨#[]⟩).kind ≤ 10 := ⟨by show (2 : Int) ≤ 5; decide, by show (5 : Int) ≤ 10; decide⟩
  cases hp : pageOf name P with
  | none =>
    exfalso
    have e := ho.err
    have hq : pageOf (dd 5 0 name ⟨#[]⟩).name P = none := hp
    rw [hq] at e
    exact oneD_none hk e.symm
  | some p =>
    have hpo := hpg p (pageOf_mem hp)
    have hn : nameE name = 0 := by rw [← (pageOf_some hp).1]; exact hP.nm p (pageOf_mem hp)
    have hq : pageOf (dd 5 0 name ⟨#[]⟩).name P = some p := hp
    rw [hq, oneD_some hk (by show (5 : Int) ≠ 9; decide) hn, pageD5 (show (dd 5 0 name ⟨#[]⟩).kind = 5 from rfl)] at ho
    have hp1 : pageOf name P' = some (saveP p) := ho.page
    refine ⟨p.t, by rw [textP_some hp1]; rfl, saveP p, hp1, rfl, rfl, fun i h1 h2 => ?_⟩
    have h1' : p.H.length ≤ i := h1
    show endT ⟨#[]⟩ (p.H.take i) ∈ _
    rw [List.take_of_length_le h1', ← hpo.end_]
    simp
theorem keeps_end {P : List Pg} (hP : HOk P) (hpg : ∀ p ∈ P, p.Ok) {name : ByteArray} {z : Nat} {T : List ByteArray} (h : KAt P name z T) {keep : Int} {T1 : ByteArray} {E : Int} {P' : List Pg} (hR : houseD P (dd 7 keep name ⟨#[]⟩) = (T1, E, P')) :
    (E ≠ 0 ∧ textP P' name = (T.getD z ByteArray.empty, true)) ∨ (E = 0 ∧ ∃ t, textP P' name = (t, true) ∧ t ∈ T ∧ (houseD P' (dd 3 0 name ⟨#[]⟩)).2.1 = 4) := by
  obtain ⟨p, hp, hl, hlast, hall⟩ := h
  have ho := house_one hP (dd 7 keep name ⟨#[]⟩)
  rw [hR] at ho
  have hpo := hpg p (pageOf_mem hp)
  have hn : nameE name = 0 := by rw [← (pageOf_some hp).1]; exact hP.nm p (pageOf_mem hp)
  have hk : 2 ≤ (dd 7 keep name ⟨#[]⟩).kind ∧ (dd 7 keep name ⟨#[]⟩).kind ≤ 10 := ⟨by show (2 : Int) ≤ 7; decide, by show (7 : Int) ≤ 10; decide⟩
  have hq : pageOf (dd 7 keep name ⟨#[]⟩).name P = some p := hp
  have hok := ho.ok
  rw [hq, oneD_some hk (by show (7 : Int) ≠ 9; decide) hn, pageD7 (show (dd 7 keep name ⟨#[]⟩).kind = 7 from rfl)] at ho
  have hcr : crashP p (dd 7 keep name ⟨#[]⟩).n = crashP p keep := rfl
  rw [hcr] at ho
  unfold crashP at ho
  by_cases hb : keep < 0 ∨ ((framesL (recs p.H)).length : Int) - (safeN p : Int) < keep
  · rw [if_pos hb] at ho
    left
    have e : E = 1 := ho.err
    have hp1 : pageOf name P' = some p := ho.page
    exact ⟨by rw [e]; decide, by rw [textP_some hp1, hlast]⟩
  · rw [if_neg hb] at ho
    right
    have e : E = 0 := ho.err
    have hp1 : pageOf name P' = some (fallP p (wholeI p.H (safeN p + keep.toNat))) := ho.page
    have hw := wholeI_to p.H (safeN p + keep.toNat)
    refine ⟨e, _, textP_some hp1, hall _ (hw.ge hpo.jle (by unfold safeN; omega)) hw.1, ?_⟩
    have ho2 := house_one hok (dd 3 0 name ⟨#[]⟩)
    have hk3 : 2 ≤ (dd 3 0 name ⟨#[]⟩).kind ∧ (dd 3 0 name ⟨#[]⟩).kind ≤ 10 := ⟨by show (2 : Int) ≤ 3; decide, by show (3 : Int) ≤ 10; decide⟩
    have hq2 : pageOf (dd 3 0 name ⟨#[]⟩).name P' = _ := hp1
    rw [hq2, oneD_some hk3 (by show (3 : Int) ≠ 9; decide) hn, pageD3 (show (dd 3 0 name ⟨#[]⟩).kind = 3 from rfl)] at ho2
    rw [ho2.err]
    rfl
end Go.Proofs.YtigbnldmjafgmaaDoor

/- Two houses in a law, beside blocks of others. -/
namespace Go.Proofs.YtigbnldmjafgmaaDoor
open Go.RowKit
set_option linter.unusedVariables false

theorem Pair.mk {w0 w w' : World} {own1 own2 : Nat → Nat} {ga gb : Nat} {Qa Qb : List (Pl × Pg)} {Pa Pb : List Pg} (h1 : InLaw w0 own1 w ga Qa Pa) (h2 : InLaw w own2 w' gb Qb Pb) (hs : ∀ k, k < w.heap.size → own2 k = own1 k) : Pair w0 ga Pa gb Pb w' := by
  have hG : Goes own1 own2 (fun _ => False) w w' := ⟨h2.below.os, h2.below.tape, h2.below.output, h2.below.size, fun k hk _ => h2.below.block k hk, hs⟩
  have hsz := h1.below.size
  have g1 := h1.apart hG (fun _ _ h => h) (fun _ h => h.elim) h2.based
  refine ⟨own2, Qa, Qb, g1, ⟨g1.below, h2.house, h2.pages, h2.ok, h2.based, g1.low, fun i hi => Nat.le_trans hsz (h2.ids i hi)⟩, fun i hi hj => ?_⟩
  have := h1.house.lt i hi
  have := h2.ids i hj
  omega
theorem based_self (w : World) : Based (fun k => k) w := fun k hk => hk
/-- Two houses, and blocks that are not theirs. -/
def PairK (w0 : World) (ga : Nat) (Pa : List Pg) (gb : Nat) (Pb : List Pg) (K : Nat → Prop) (w : World) : Prop :=
  ∃ own Qa Qb, InLaw w0 own w ga Qa Pa ∧ InLaw w0 own w gb Qb Pb ∧ (∀ i ∈ idsH ga Qa, i ∉ idsH gb Qb) ∧ ∀ b, K b → b < w.heap.size ∧ own b ∉ idsH ga Qa ∧ own b ∉ idsH gb Qb
theorem PairK.pair {w0 w : World} {ga gb : Nat} {Pa Pb : List Pg} {K : Nat → Prop} (h : PairK w0 ga Pa gb Pb K w) : Pair w0 ga Pa gb Pb w := by
  obtain ⟨own, Qa, Qb, h1, h2, h3, _⟩ := h
  exact ⟨own, Qa, Qb, h1, h2, h3⟩
theorem PairK.swap {w0 w : World} {ga gb : Nat} {Pa Pb : List Pg} {K : Nat → Prop} (h : PairK w0 ga Pa gb Pb K w) : PairK w0 gb Pb ga Pa K w := by
  obtain ⟨own, Qa, Qb, h1, h2, h3, h4⟩ := h
  exact ⟨own, Qb, Qa, h2, h1, fun i hi hj => h3 i hj hi, fun b hb => ⟨(h4 b hb).1, (h4 b hb).2.2, (h4 b hb).2.1⟩⟩
theorem Pair.fresh {w0 w w' : World} {ga gb : Nat} {Pa Pb : List Pg} (h : Pair w0 ga Pa gb Pb w) (hb : Below w.heap.size w w') : PairK w0 ga Pa gb Pb (fun b => w.heap.size ≤ b ∧ b < w'.heap.size) w' := by
  obtain ⟨own, Qa, Qb, h1, h2, h3⟩ := h
  have l1 := h1.house.lt
  have l2 := h2.house.lt
  refine ⟨_, Qa, Qb, h1.after hb, h2.after hb, h3, fun b ⟨g1, g2⟩ => ⟨g2, fun hi => ?_, fun hi => ?_⟩⟩
  · unfold newO at hi
    rw [if_neg (by omega)] at hi
    have := l1 b hi
    omega
  · unfold newO at hi
    rw [if_neg (by omega)] at hi
    have := l2 b hi
    omega
theorem PairK.do_ {w0 w : World} {ga gb : Nat} {Pa Pb : List Pg} {K : Nat → Prop} (h : PairK w0 ga Pa gb Pb K w) (ht : Tab w) (d : Dd) (Ad : Option Addr) (cd : Nat) (hd : DeedAt w d Ad cd) :
    Calls Tryd.prog 12 #[.pointer (some ⟨ga, 0, none⟩), .agg (cDeed d Ad cd)] w fun e w' => e = .returned (.tuple #[.string (houseD Pa d).1, .int .i64 (houseD Pa d).2.1]) ∧ PairK w0 ga (houseD Pa d).2.2 gb Pb K w' ∧ Kept K w w' := by
  obtain ⟨own, Qa, Qb, h1, h2, h3, h4⟩ := h
  refine (do_law h1 ht d Ad cd hd).mono fun e w' ⟨he, own', Qa', g1, g2, g3⟩ => ⟨he, ⟨own', Qa', Qb, g1, h2.apart g2 (fun k hk hs => h3 k hs hk) h1.ids g1.based, fun i hi hj => ?_, fun b hb => ?_⟩, g2.os, g2.tape, g2.output, g2.size, fun b hb => g2.block b (h4 b hb).1 (h4 b hb).2.1⟩
  · rcases g3 i hi with h | h
    · exact h3 i h hj
    · have := h2.house.lt i hj
      omega
  · obtain ⟨k1, k2, k3⟩ := h4 b hb
    rw [g2.same b k1]
    refine ⟨Nat.lt_of_lt_of_le k1 g2.size, fun hi => ?_, k3⟩
    rcases g3 _ hi with h | h
    · exact k2 h
    · have := h1.based b k1
      omega
theorem deeds_row {w w' : World} {A : Option Addr} {len cap : Nat} {l : List DRow} (h : DeedsIn w A len cap l) (hb : Below w.heap.size w w') {k : Nat} {d : Dd} {Ad : Option Addr} {cd : Nat} (hk : l[k]? = some (d, Ad, cd)) : DeedAt w' d Ad cd := by
  have hx := h.2.2.2.1 _ (List.mem_of_getElem? hk)
  exact ⟨(edsAt_of hx.2.2.2.2).after hb, hx.2.2.1, hx.2.1⟩
end Go.Proofs.YtigbnldmjafgmaaDoor

/- HouseKeeps' walk: after a crash a text is the saved one or a later one. -/
namespace Go.Proofs.YtigbnldmjafgmaaDoor
open Go.RowKit
set_option linter.unusedVariables false

/-- A row of another one turns: the house stays. -/
theorem LoneK.row {w0 w w' : World} {gh tb : Nat} {P : List Pg} (h : LoneK w0 gh P (· = tb) w) (h0 : w0.heap.size ≤ tb) (hk : Kept (fun b => b < w.heap.size ∧ b ≠ tb) w w') {tb' : Nat} (ht : tb' = tb ∨ w.heap.size ≤ tb') (htl : tb' < w'.heap.size) : LoneK w0 gh P (· = tb') w' := by
  obtain ⟨own, Q, hI, hq⟩ := h
  obtain ⟨htb, hno⟩ := hq tb rfl
  have hlt := hI.house.lt
  have hoid : ∀ i ∈ idsH gh Q, own i = i := fun i hi => by
    rcases List.mem_cons.1 hi with rfl | hi
    · exact hI.house.own_
    · obtain ⟨y, hy, hm⟩ := List.mem_flatMap.1 hi
      have hp := hI.house.page y hy
      rcases List.mem_cons.1 hm with rfl | hm
      · exact hp.ed.own_
      · rcases List.mem_cons.1 hm with rfl | hm
        · exact hp.leaf.ol
        · cases hm
  have htn : tb ∉ idsH gh Q := fun hi => hno (by rw [hoid tb hi]; exact hi)
  obtain ⟨o2, ho2⟩ : ∃ o2 : Nat → Nat, o2 = fun k => if k = tb then tb else own k := ⟨_, rfl⟩
  have e1 : o2 tb = tb := by rw [ho2]; exact if_pos rfl
  have e2 : ∀ k, k ≠ tb → o2 k = own k := fun k hk => by rw [ho2]; exact if_neg hk
  have hI2 : InLaw w0 o2 w gh Q P := ⟨hI.below, hI.house.reown (fun k hk hi => e2 k (by rintro rfl; exact hno hi)), hI.pages, hI.ok, fun k hk => by
      by_cases e : k = tb
      · rw [e, e1]; exact htb
      · rw [e2 k e]; exact hI.based k hk, fun k hk => by rw [e2 k (by omega)]; exact hI.low k hk, hI.ids⟩
  have hG : Goes o2 (newO o2 w.heap.size) (· = tb) w w' := ⟨hk.os, hk.tape, hk.output, hk.size, fun k hk1 hk2 => hk.block k ⟨hk1, fun e => hk2 (by rw [e]; exact e1)⟩, fun k hk => if_pos hk⟩
  have hb : Based (newO o2 w.heap.size) w' := fun k hk1 => by
    unfold newO
    by_cases e : k < w.heap.size
    · rw [if_pos e]; exact Nat.lt_of_lt_of_le (hI2.based k e) hk.size
    · rw [if_neg e]; exact hk1
  refine ⟨_, Q, hI2.apart hG (fun k hk1 hk2 => htn (by rw [← hk2]; exact hk1)) (fun k hk1 => by rw [hk1]; exact h0) hb, fun b hb' => ?_⟩
  have hb2 : b = tb' := hb'
  subst hb2
  refine ⟨htl, ?_⟩
  unfold newO
  rcases ht with e | e
  · rw [e, if_pos htb, e1]; exact htn
  · rw [if_neg (by omega)]
    intro hi
    have := hlt b hi
    omega

set_option maxRecDepth 100000 in
set_option maxHeartbeats 4000000 in
theorem houseKeeps_walk (A : Option Addr) (len cap : Nat) (l : List DRow) (name : ByteArray) (A2 : Option Addr) (len2 cap2 : Nat) (l2 : List DRow) (keep : Int) {w : World} (hl : DeedsIn w A len cap l) (hn : name.size ≤ 140737488351232) (hl2 : DeedsIn w A2 len2 cap2 l2) (hkp : (Lit.int .i64 keep).wf = true) (ht : Tab w) :
    Calls Tryd.prog 6 #[.slice A len cap, .string name, .slice A2 len2 cap2, .int .i64 keep] w fun e w' => e = .returned (.bool true) ∧ Below w.heap.size w w' := by
  have hlen : len2 ≤ 1954687338211 := by have := hl2.2.2.1; omega
  have hkb := bounds_i64 hkp
  have Wk := Lib.hid (fun (w1 : World) (hb : Below w.heap.size w w1) => worked_law (based_self w1) (ht.after hb) A len cap l w hl hb)
  have Ht := Lib.hid (fun (w1 : World) (hb : Below w.heap.size w w1) => ht.after hb)
  have bk := buildDeedK
  have bn : ∀ (w : World) (k n : Int) (name : ByteArray), (Instr.build 25 #[(0, .int .i64 k), (2, .string name), (1, .int .i64 n)]).run Tryd.prog w = .ok (.agg #[.int .i64 k, .int .i64 n, .string name, .string ⟨#[]⟩, .slice none 0 0]) w := fun w k n name => run_build w 25 _ _ (by kernel_rfl)
  have Hn := Lib.hid hn
  have Hkb := Lib.hid hkb
  have Hhs := Lib.hid (houses_any _ ht)
  clear hl ht hn hkp hkb
  go_enter Tryd.func6, Tryd.ntmps6
  go_wp2_with fail
  refine Hhs.out.mono ?_
  rintro e w1 ⟨rfl, hb1⟩
  go_wp2_with fail
  refine (Wk.out w1 hb1).mono ?_
  rintro e w2 ⟨gh, rfl, own2, Q, h2, _⟩
  have h2 : Lone w1 gh (workP l) w2 := ⟨own2, Q, h2⟩
  clear Wk Hhs
  generalize workP l = P at *
  have hok := h2.ok
  have hpg := h2.pg
  have Ht1 := Lib.hid (fun (w2 : World) (h : Below w1.heap.size w1 w2) => Ht.out _ (chain h hb1))
  have Hb1 := Lib.hid hb1
  obtain ⟨R1, hR1⟩ : ∃ R, houseD P (dd 5 0 name ⟨#[]⟩) = R := ⟨_, rfl⟩
  obtain ⟨T1, E1, P1⟩ := R1
  have D1 := Lib.hid (do_told 5 0 name ⟨#[]⟩ hR1 Hn.out (by decide) h2 (Ht1.out _ h2.below))
  have HS := Lib.hid (fun hE : E1 = 0 => keeps_start hok hpg (name := name) (by rw [hR1, hE]))
  have hb1n : w1.heap.size = w1.heap.size := rfl
  clear hR1 hok hpg h2 hb1 hb1n
  by_cases hE : E1 = 0
  case neg =>
    have qE : (E1 != 0) = true := by simpa using hE
    clear HS hE
    go_wp2_with fail
    refine D1.out.mono ?_
    rintro e w3 ⟨rfl, h3⟩
    have hbf := chain h3.below Hb1.out
    go_wp2
    go_ret
    exact ⟨rfl, hbf⟩
  subst hE
  obtain ⟨t0, ht0, hk0⟩ := HS.out rfl
  have X1 := fun (w3 : World) (h : Lone w1 gh P1 w3) => textOf_lone h (Ht1.out _ h.below) name Hn.out
  rw [ht0] at X1
  have X1 := Lib.hid X1
  clear HS ht0
  go_wp2_with fail
  refine D1.out.mono ?_
  rintro e w3 ⟨rfl, h3⟩
  go_wp2_with fail
  refine (X1.out _ h3).mono ?_
  rintro e w4 ⟨rfl, h4⟩
  clear D1 X1 h3
  have hba : Below w4.heap.size w4 (w4.alloc (Obj.cells #[.string t0] 9)) := (Below.refl _ _).alloc (Nat.le_refl _) _
  have hs4 := h4.below.size
  have hL : LoneK w1 gh P1 (· = w4.heap.size) (w4.alloc (Obj.cells #[.string t0] 9)) := ((LoneK.of h4).after hba).weak fun b hb => .inr ⟨by omega, by simp; omega⟩
  have hO : OwnS (w4.alloc (Obj.cells #[.string t0] 9)) (fun b => b < (w4.alloc (Obj.cells #[.string t0] 9)).heap.size ∧ b ≠ w4.heap.size) (some ⟨w4.heap.size, 0, none⟩) (0 + 1) 1 [t0] :=
    ⟨rfl, .inr ⟨w4.heap.size, 0, _, rfl, fun hk => hk.2 rfl, Blk.new w4 _ _, Nat.le_refl _, by decide, rfl, rfl⟩⟩
  clear hba h4
  go_wp2
  go_loopw [14, 16, 17, 18, 52] (fun tv _ _ _ kv wr => ∃ (k : Nat) (z tb to c' : Nat) (T : List ByteArray) (Pk : List Pg), k ≤ len2 ∧ z ≤ k ∧ kv = .int .i64 k ∧ tv = .slice (some ⟨tb, to, none⟩) (z + 1) c' ∧ w1.heap.size ≤ tb ∧ LoneK w1 gh Pk (· = tb) wr ∧ OwnS wr (fun b => b < wr.heap.size ∧ b ≠ tb) (some ⟨tb, to, none⟩) (z + 1) c' T ∧ KAt Pk name z T) (fun _ _ _ _ kv _ => len2 - (intOf kv).toNat)
  case atStart => exact ⟨0, 0, w4.heap.size, 0, 1, [t0], P1, Nat.zero_le _, Nat.le_refl _, rfl, rfl, hs4, hL, hO, hk0⟩
  case round =>
    clear hL hO hk0 hs4
    obtain ⟨k, z, tb, to, c', T, Pk, hk, hzk, rfl, rfl, htb, hLr, hOr, hKr⟩ := hrel
    by_cases hlt : k < len2
    · have hbr := chain hLr.lone.below Hb1.out
      obtain ⟨b, o, d, Ad, cd, rfl, hx, hd, _, _, c0, c1, c2, c3, c4⟩ := deeds_at hl2 hbr k hlt
      have hba : Below wr.heap.size wr (wr.alloc (Obj.cells #[.int .i64 d.kind, .int .i64 d.n, .string d.name, .string d.text, .slice Ad d.edits.length cd] 25)) := (Below.refl _ _).alloc (Nat.le_refl _) _
      have hbd := Blk.new wr 25 #[.int .i64 d.kind, .int .i64 d.n, .string d.name, .string d.text, .slice Ad d.edits.length cd]
      have hL1 := hLr.stay hba
      have hO1 : OwnS (wr.alloc (Obj.cells #[.int .i64 d.kind, .int .i64 d.n, .string d.name, .string d.text, .slice Ad d.edits.length cd] 25)) (fun b => b < (wr.alloc (Obj.cells #[.int .i64 d.kind, .int .i64 d.n, .string d.name, .string d.text, .slice Ad d.edits.length cd] 25)).heap.size ∧ b ≠ tb) (some ⟨tb, to, none⟩) (z + 1) c' T := (hOr.alloc _).weak fun b hb hq => by injection hb with hb; exact hq.2 hb.symm
      have a0 := hbd.cell 0
      have a1 := hbd.cell 1
      have a2 := hbd.cell 2
      have a3 := hbd.cell 3
      have a4 := hbd.cell 4
      have hcap := hOr.cap
      by_cases hsk : d.kind = 9 ∨ d.kind = 7 ∨ d.kind = 6
      · have hq : (d.kind == 9) = true ∨ ((d.kind == 9) = false ∧ (d.kind == 7) = true) ∨ ((d.kind == 9) = false ∧ (d.kind == 7) = false ∧ (d.kind == 6) = true) := by
          rcases hsk with h | h | h
          · left; rw [h]; rfl
          · right; left; rw [h]; exact ⟨rfl, rfl⟩
          · right; right; rw [h]; exact ⟨rfl, rfl, rfl⟩
        clear hsk hd hx hba hbd hLr hOr
        rcases hq with q9 | ⟨q9, q7⟩ | ⟨q9, q7, q6⟩
        all_goals
          go_wp2
          go_roundw
          case rel => exact ⟨k + 1, z, tb, to, c', T, Pk, by omega, by omega, by go_num, rfl, htb, hL1, hO1, hKr⟩
          case measure => simp only [intOf]; omega
      have q9 : (d.kind == 9) = false := by rw [beq_eq_false_iff_ne]; omega
      have q7 : (d.kind == 7) = false := by rw [beq_eq_false_iff_ne]; omega
      have q6 : (d.kind == 6) = false := by rw [beq_eq_false_iff_ne]; omega
      obtain ⟨R, hR⟩ : ∃ R, houseD Pk d = R := ⟨_, rfl⟩
      obtain ⟨T5, E5, P5⟩ := R
      obtain ⟨t5, ht5, hK5⟩ := keeps_step hLr.lone.ok hLr.lone.pg hKr (by omega) (by omega) (by omega) hR
      have D := do_keep hL1 (Ht.out _ (chain hba hbr)) d Ad cd (hd.after hba)
      rw [hR] at D
      have D := Lib.hid D
      have X := fun (w5 : World) (h : LoneK w1 gh P5 (· = tb) w5) => textOf_keep h (Ht1.out _ h.lone.below) name Hn.out
      rw [ht5] at X
      have X := Lib.hid X
      have HK5 := Lib.hid hK5
      have HO1 := Lib.hid hO1
      clear hsk hd hx hba hbd hLr hOr hL1 hO1 hR ht5 hK5 hbr hKr
      go_wp2_with fail
      refine D.out.mono ?_
      rintro e w5 ⟨rfl, hL5, hk5⟩
      clear a0 a1 a2 a3 a4
      go_wp2_with fail
      refine (X.out _ hL5).mono ?_
      rintro e w6 ⟨rfl, hL6, hk6⟩
      have hO6 : OwnS w6 (fun b => b < w6.heap.size ∧ b ≠ tb) (some ⟨tb, to, none⟩) (z + 1) c' T := (HO1.out.kept _ (hk5.trans hk6) (fun b hb => by injection hb with hb; exact hb.symm)).weak fun b hb hq => by injection hb with hb; exact hq.2 hb.symm
      have htl : tb < w6.heap.size := hL6.lt tb rfl
      have H8 := Lib.hid (show z + 1 ≤ 8000000000000 by omega)
      clear D X hL5 hk5 hk6
      go_wp2_with (first | (at_builtin; go_must (refine wpList_append_one w6 (.tmp 79) (.tmp 81) 33 rfl rfl (fun b => b < w6.heap.size ∧ b ≠ tb) infoStrE Tryd.underlying33 (some ⟨tb, to, none⟩) (z + 1) c' T rfl hO6 1 t5 rfl H8.out (fun b hb => hb.1) ?_); intro A7 c7 w7 hO7 hk7))
      obtain ⟨tb7, to7, rfl, hlt7⟩ := hO7.shape (by omega)
      have hcase : tb7 = tb ∨ w6.heap.size ≤ tb7 := by
        have := (hO7.lt tb7 rfl).1
        by_cases e : tb7 < w6.heap.size
        · exact .inl (Classical.byContradiction fun h => this ⟨e, h⟩)
        · exact .inr (by omega)
      have hL7 := hL6.row htb hk7 hcase hlt7
      have hs6 := hL6.lone.below.size
      have htb7 : w1.heap.size ≤ tb7 := by omega
      have hO7' : OwnS w7 (fun b => b < w7.heap.size ∧ b ≠ tb7) (some ⟨tb7, to7, none⟩) (z + 1 + 1) c7 (T ++ [t5]) := hO7.weak fun b hb hq => by injection hb with hb; exact hq.2 hb.symm
      clear hO6 hO7 hk7 hL6 hcase
      go_wp2
      go_roundw
      case rel => exact ⟨k + 1, z + 1, tb7, to7, c7, T ++ [t5], P5, by omega, by omega, by go_num, rfl, htb7, hL7, hO7', HK5.out⟩
      case measure => simp only [intOf]; omega
    · obtain rfl : k = len2 := by omega
      clear hlt
      obtain ⟨R, hR⟩ : ∃ R, houseD Pk (dd 7 keep name ⟨#[]⟩) = R := ⟨_, rfl⟩
      obtain ⟨T5, E5, P5⟩ := R
      have hend := keeps_end hLr.lone.ok hLr.lone.pg hKr hR
      have D := do_keep hLr (Ht.out _ (chain hLr.lone.below Hb1.out)) (dd 7 keep name ⟨#[]⟩) none 0 (dd_at wr 7 keep name ⟨#[]⟩ Hn.out (by have := Hkb.out; omega))
      rw [hR] at D
      have D : Calls Tryd.prog 12 #[.pointer (some ⟨gh, 0, none⟩), .agg #[.int .i64 7, .int .i64 keep, .string name, .string ⟨#[]⟩, .slice none 0 0]] wr fun e w' => e = .returned (.tuple #[.string T5, .int .i64 E5]) ∧ LoneK w1 gh P5 (· = tb) w' ∧ Kept (· = tb) wr w' := D
      have D := Lib.hid D
      have X := fun (w5 : World) (h : LoneK w1 gh P5 (· = tb) w5) => textOf_keep h (Ht1.out _ h.lone.below) name Hn.out
      have HO := Lib.hid hOr
      have hcap := hOr.cap
      have q2 : IntKind.i64.wrap (((z + 1 : Nat) : Int) - 1) = ((z : Nat) : Int) := by rw [IntKind.wrap_i64]; omega
      have q3 : (z : Int) < ((z + 1 : Nat) : Int) := by omega
      have q3b : (0 : Int) ≤ (z : Int) := by omega
      clear hR hLr hOr
      rcases hend with ⟨hE, htx⟩ | ⟨rfl, t5, htx, htm, hun⟩
      · rw [htx] at X
        have X := Lib.hid X
        have qE : (E5 != 0) = true := by simpa using hE
        clear hE htx hKr
        go_wp2_with fail
        refine D.out.mono ?_
        rintro e w5 ⟨rfl, hL5, hk5⟩
        go_wp2_with fail
        refine (X.out _ hL5).mono ?_
        rintro e w6 ⟨rfl, hL6, hk6⟩
        have hO6 := HO.out.kept _ (hk5.trans hk6) (fun b hb => by injection hb with hb; exact hb.symm)
        have ct := hO6.cell z (by omega)
        have hbf := chain hL6.lone.below Hb1.out
        generalize T.getD z ByteArray.empty = t5 at *
        have q4 : (t5.toList == t5.toList) = true := by simp
        clear hO6 D X hL5 hL6 hk5 hk6
        go_wp2
        first
          | go_quiet (fail)
            go_wp2
          | skip
        go_ret
        exact ⟨rfl, by first | exact hbf | exact below_drewN hbf _⟩
      · rw [htx] at X
        have X := Lib.hid X
        obtain ⟨R2, hR2⟩ : ∃ R, houseD P5 (dd 3 0 name ⟨#[]⟩) = R := ⟨_, rfl⟩
        obtain ⟨T6, E6, P6⟩ := R2
        rw [hR2] at hun
        obtain rfl : E6 = 4 := hun
        have D2 := fun (w5 : World) (h : LoneK w1 gh P5 (· = tb) w5) => do_keep h (Ht1.out _ h.lone.below) (dd 3 0 name ⟨#[]⟩) none 0 (dd_at w5 3 0 name ⟨#[]⟩ Hn.out (by decide))
        rw [hR2] at D2
        have D2 : ∀ (w5 : World) (h : LoneK w1 gh P5 (· = tb) w5), Calls Tryd.prog 12 #[.pointer (some ⟨gh, 0, none⟩), .agg #[.int .i64 3, .int .i64 0, .string name, .string ⟨#[]⟩, .slice none 0 0]] w5 fun e w' => e = .returned (.tuple #[.string T6, .int .i64 4]) ∧ LoneK w1 gh P6 (· = tb) w' ∧ Kept (· = tb) w5 w' := D2
        have D2 := Lib.hid D2
        have hhas : hasB t5 T = true := hasB_iff.2 htm
        have C := fun (w5 : World) (r : OwnS w5 (fun b => b < wr.heap.size ∧ b ≠ tb) (some ⟨tb, to, none⟩) (z + 1) c' T) => containsStr_any t5 (some ⟨tb, to, none⟩) (z + 1) c' _ T w5 (by omega) r.1 r.reads
        rw [hhas] at C
        have C := Lib.hid C
        clear htx hKr hhas htm hR2
        go_wp2_with fail
        refine D.out.mono ?_
        rintro e w5 ⟨rfl, hL5, hk5⟩
        go_wp2_with fail
        refine (X.out _ hL5).mono ?_
        rintro e w6 ⟨rfl, hL6, hk6⟩
        go_wp2_with fail
        refine (D2.out _ hL6).mono ?_
        rintro e w7 ⟨rfl, hL7, hk7⟩
        have hO7 := HO.out.kept _ ((hk5.trans hk6).trans hk7) (fun b hb => by injection hb with hb; exact hb.symm)
        have hbf := chain hL7.lone.below Hb1.out
        clear D X D2 hL5 hL6 hL7 hk5 hk6 hk7
        go_wp2_with fail
        refine (C.out _ hO7).mono ?_
        rintro e w8 ⟨rfl, rfl⟩
        go_wp2
        go_ret
        exact ⟨rfl, hbf⟩
end Go.Proofs.YtigbnldmjafgmaaDoor

/- HouseKeeps: for every input the law returns true, and each argument reads afterwards as it read before. -/
namespace Go.Proofs.YtigbnldmjafgmaaDoor.houseKeeps
open Go.ChangeShapes Go.WideShapes Go.ChangeAt Go.RowKit
open Go.ChangeMaps (open_string shut_string)
set_option linter.unusedVariables false

theorem own : ownKnob Tryd.prog.godebug = none := by kernel_rfl
theorem laidOut : laidOutB Tryd.prog = true := by kernel_rfl

set_option maxRecDepth 100000 in
theorem lifted (os : Os) (started : os.Started) (H : Type) (enc : TypeId × Value → H) :
    ReturnsInHanded {} Tryd.checked os 6 .any (fun w args => (Rows.houseKeepsSpec.pre enc Tryd.prog Tryd.f6 Rows.houseKeepsRow.domain false w args ∧ laidMetH Tryd.prog Rows.houseKeepsRow.laid w) ∧ sizedMet enc Tryd.prog Tryd.f6 (OpenSpec.ofChange Rows.houseKeepsSpec) false w args)
      (Rows.houseKeepsSpec.post enc Tryd.prog Tryd.f6 false true false false) := by
  refine returnsInHanded_of_change_and (C := Tryd.checked) (X := fun w _ => laidMetH Tryd.prog Rows.houseKeepsRow.laid w) (fun _ _ _ hh h => h.of_heap hh) own started (by kernel_rfl) Tryd.func6
    (ChangeSpec.witness_shaped (enc := enc) (C := Tryd.checked) (os := os) (X := fun w _ => laidMetH Tryd.prog Rows.houseKeepsRow.laid w) false (World.laidAll Tryd.prog os Rows.houseKeepsRow.laid) #[.slice none 0 0, .string ByteArray.empty, .slice none 0 0, .int .i64 0] 8 (World.laidAll_os _ _ _)
      (World.shaped_of_ZipB (by kernel_rfl) (by kernel_rfl)) (by kernel_rfl) (by kernel_rfl) (by kernel_rfl)
      (by rw [MakeChecks.laidMetH_plain _ _ _ (by kernel_rfl)]; exact laidMet_laidAll _ (by kernel_rfl) (by kernel_rfl))) ?_
  intro W base args ds gs before hval0 hW hcnd hsz0 hL _
  have hval : ∀ (j : Nat) t v, Tryd.f6.params[j]? = some t → args[j]? = some v → Value.okWide Tryd.prog W .any base t v := hval0
  have hsz : (DataW.weightsEach Tryd.prog (Tryd.f6.params.toList ++ Rows.houseKeepsSpec.plain.varTypes Tryd.prog) (ds ++ gs)).all (· ≤ reachBytes) = true := hsz0
  have hW' := hW
  obtain ⟨p, q, hA0, hV, rfl, hfz, hnd⟩ := hW
  have hA : DataW.TrodAll enc Tryd.prog W 0 (fun _ => true) true Tryd.f6.params.toList args.toList ds p := hA0
  rw [Tryd.params6] at hA hval hsz
  obtain ⟨v0, vs0, d0, ds0, p0, q0, hargs, rfl, rfl, h0, r0⟩ := trodAll_cons hA
  obtain ⟨v1, vs1, d1, ds1, p1, q1, rfl, rfl, rfl, h1, r1⟩ := trodAll_cons r0
  obtain ⟨v2, vs2, d2, ds2, p2, q2, rfl, rfl, rfl, h2, r2⟩ := trodAll_cons r1
  obtain ⟨v3, vs3, d3, ds3, p3, q3, rfl, rfl, rfl, h3, r3⟩ := trodAll_cons r2
  obtain ⟨rfl, rfl, rfl⟩ := trodAll_nil r3
  obtain rfl : args = #[v0, v1, v2, v3] := by cases args; simp_all
  obtain ⟨rfl, rfl⟩ := trodVars_none hV
  obtain ⟨a0, len0, cap0, rfl⟩ := okWide_slice Tryd.underlying22 (hval 0 22 v0 rfl rfl)
  have k0 := h0
  have lt0 : ∀ x ∈ p0, x.block < W.heap.size := by obtain ⟨m, hm⟩ := k0; exact DataW.trod_lt m _ _ _ hm
  obtain ⟨z0, w0⟩ : ∃ zs, DeedsIn W a0 len0 cap0 zs := deeds_in h0 lt0 (fun n hn => of_decide_eq_true (List.all_eq_true.1 hsz n (DataW.weights_mem_each (j := 0) rfl rfl n hn)))
  obtain ⟨a1, rfl, rfl, rfl, w1⟩ := open_string Tryd.underlying9 (hval 1 9 v1 rfl rfl) h1
  obtain ⟨a2, len2, cap2, rfl⟩ := okWide_slice Tryd.underlying22 (hval 2 22 v2 rfl rfl)
  have k2 := h2
  have lt2 : ∀ x ∈ p2, x.block < W.heap.size := by obtain ⟨m, hm⟩ := k2; exact DataW.trod_lt m _ _ _ hm
  obtain ⟨z2, w2⟩ : ∃ zs, DeedsIn W a2 len2 cap2 zs := deeds_in h2 lt2 (fun n hn => of_decide_eq_true (List.all_eq_true.1 hsz n (DataW.weights_mem_each (j := 2) rfl rfl n hn)))
  obtain ⟨a3, rfl, rfl, rfl, w3⟩ := open_int Tryd.underlying3 (hval 3 3 v3 rfl rfl) h3
  clear hA0 hval0
  have b1 : a1.size ≤ 140737488351232 := sized_string hsz (j := 1) rfl rfl
  have htab : Tab W := tab_of_laid hL (by kernel_rfl) (by kernel_rfl)
  refine (houseKeeps_walk a0 len0 cap0 z0 a1 a2 len2 cap2 z2 a3 w0 b1 w2 w3 (w := W) htab).mono fun e W' ⟨he, bel⟩ => ?_
  subst he
  exact ⟨_, rfl, _, _, _, [], _, [], hW', trodAll_mk1 (shut_bool Tryd.underlying4 _), (trodAll_cons_mk (Below.trod laidOut (by kernel_rfl) (of_decide_eq_true (by kernel_rfl)) k0 bel lt0) (trodAll_cons_mk (shut_string Tryd.underlying9 w1) (trodAll_cons_mk (Below.trod laidOut (by kernel_rfl) (of_decide_eq_true (by kernel_rfl)) k2 bel lt2) (trodAll_cons_mk (shut_int Tryd.underlying3 w3) trodAll_mk0)))), rfl, bel.frame _, fun h => by cases h⟩

theorem holds : Rows.HouseKeepsSaid :=
  OpenClaim.holds_of_wide 6 Tryd.f6 rfl rfl rfl rfl rfl rfl rfl ⟨rfl, rfl, rfl, rfl, rfl⟩ rfl rfl rfl rfl rfl (by kernel_rfl) Tryd.func6 (by kernel_rfl)
    (of_decide_eq_true (by kernel_rfl)) (by unfold Func.isWrapper; first | (rw [if_pos (by decide +kernel)]; kernel_rfl) | (rw [if_neg (by decide +kernel)]; exact ⟨rfl, rfl⟩))
    (fun os started H enc _ => lifted os started H enc)
set_option maxRecDepth 100000 in
theorem card_holds : Rows.HouseKeepsCardSaid :=
  Claim7.holds_tied_plain_at .later [] Rows.houseKeepsCard.laidKinds true Rows.houseKeepsCard.stood.harness false
    holds (fun _ h => by cases h) (by kernel_rfl) (fun _ h => by cases h) houseKeeps_row_tie rfl ⟨rfl, rfl⟩ (by kernel_rfl) rfl
    (fun f fn hf hfn => by
      obtain rfl : f = 6 := Option.some.inj ((show Tryd.prog.funcNamed "quillward/quillkeep.HouseKeeps" = some 6 by kernel_rfl).symm.trans hf) |>.symm
      obtain rfl : fn = Tryd.f6 := (Option.some.inj (Tryd.func6.symm.trans hfn)).symm
      exact ⟨by kernel_rfl, fun j t ht => by
        have hall : (Tryd.f6.params.toList.all fun u => !Tryd.prog.wantsStandIn u) = true := by kernel_rfl
        exact (show Tryd.prog.wantsStandIn t = false by simpa using List.all_eq_true.1 hall t (by simpa using Array.mem_of_getElem? ht))⟩)
    (by kernel_rfl)
#print axioms card_holds
end Go.Proofs.YtigbnldmjafgmaaDoor.houseKeeps

