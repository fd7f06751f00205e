import Derived.Test.YtigbnldmjafgmaaDoorHouseG2
import Derived.Test.YtigbnldmjafgmaaDoorLib
import Derived.Test.YtigbnldmjafgmaaDoorStruct
import Derived.Deep.DeepMust
import Derived.Laws.Cover3
import Derived.Test.YtigbnldmjafgmaaDoorHouseG1
import Derived.BigRegion
import Derived.Test.YtigbnldmjafgmaaDoorRows
import Derived.Test.YtigbnldmjafgmaaDoorCards
import Derived.Test.YtigbnldmjafgmaaDoorTie
import Derived.WalkKit
import Derived.ProofKit
import Derived.OpenShut
import Derived.ShutString
import Derived.SizedLaws
import Derived.ChangeOld
import Derived.Below
import Derived.LaidMore
import Derived.Lay
import Derived.MakeChecks
import Derived.SevenTiedAt
import Derived.Stop.Joined
import Derived.Test.YtigbnldmjafgmaaDoorTab
import Derived.Test.YtigbnldmjafgmaaDoorArgs
/- Several texts in one: XHouseStepsP XHouseApartP XHousePair XClone XDeleteDeed XHouseApart XHouseApartRow. -/
/- Plain: a text that was made is undone and redone. -/
namespace Go.Proofs.YtigbnldmjafgmaaDoor
open Go.RowKit
set_option linter.unusedVariables false

theorem textP_some {P : List Pg} {name : ByteArray} {p : Pg} (h : pageOf name P = some p) : textP P name = (p.t, true) := by unfold textP; rw [h]
theorem textP_none {P : List Pg} {name : ByteArray} (h : pageOf name P = none) : textP P name = (⟨#[]⟩, false) := by unfold textP; rw [h]
theorem oneD_some {full : Prop} [Decidable full] {p : Pg} {d : Dd} (hk : 2 ≤ d.kind ∧ d.kind ≤ 10) (h9 : d.kind ≠ 9) (hn : nameE d.name = 0) : oneD full (some p) d = ((pageD p d).1, (pageD p d).2.1, some (pageD p d).2.2) := by
  unfold oneD
  rw [if_neg (by omega), if_neg (by rw [hn]; decide)]
  show (if d.kind = 1 then _ else _) = _
  rw [if_neg (by omega), if_neg h9]
theorem oneD_none {full : Prop} [Decidable full] {d : Dd} (hk : 2 ≤ d.kind ∧ d.kind ≤ 10) : (oneD full none d).2.1 ≠ 0 := by
  unfold oneD
  rw [if_neg (by omega)]
  by_cases hn : nameE d.name ≠ 0
  · rw [if_pos hn]; exact hn
  · rw [if_neg hn]
    show (if d.kind = 1 then _ else _ : ByteArray × Int × Option Pg).2.1 ≠ 0
    rw [if_neg (by omega)]
    decide
theorem make_zero {p : Pg} {text : ByteArray} (h : (makeP p text).1 = 0) : ∃ l, checkE p.t.size l = 0 ∧ makeP p text = (0, { p with t := text, B := (p.B ++ [p.t]).drop (p.B.length + 1 - 30), O := [], H := p.H ++ [(101 :: writeL l, text)] }) := by
  unfold makeP at h ⊢
  by_cases h0 : ce p.t text ≠ 0
  · rw [if_pos h0] at h; exact absurd (show (2 : Int) = 0 from h) (by decide)
  rw [if_neg h0] at h ⊢
  by_cases h20 : 20 < cv p.t text
  · rw [if_pos h20] at h; exact absurd (show (11 : Int) = 0 from h) (by decide)
  rw [if_neg h20] at h ⊢
  have hz : ce p.t text = 0 := by simpa using h0
  obtain ⟨m1, m2, _⟩ := makes_law p.t text hz (by omega)
  unfold editP at h ⊢
  by_cases hl : makeE p.t text = []
  · rw [if_pos hl] at h; exact absurd (show (5 : Int) = 0 from h) (by decide)
  rw [if_neg hl] at h ⊢
  by_cases hE : leafE p.t p.H (makeE p.t text) ≠ 0
  · rw [if_pos hE] at h; exact absurd h hE
  rw [if_neg hE]
  have hE0 : leafE p.t p.H (makeE p.t text) = 0 := by simpa using hE
  have e2 : leafT p.t p.H (makeE p.t text) = text := by unfold leafT; rw [if_pos hE0]; exact m2
  have e3 : leafH p.t p.H (makeE p.t text) = p.H ++ [(101 :: writeL (makeE p.t text), text)] := by unfold leafH; rw [if_pos hE0, e2]
  exact ⟨makeE p.t text, m1, by rw [e2, e3]⟩
theorem last_back {B : List ByteArray} {t : ByteArray} (h : B.length ≤ 30) : (B ++ [t]).drop (B.length + 1 - 30) ≠ [] ∧ ((B ++ [t]).drop (B.length + 1 - 30)).getLastD ⟨#[]⟩ = t := by
  have e : (B ++ [t]).drop (B.length + 1 - 30) = B.drop (B.length + 1 - 30) ++ [t] := by rw [List.drop_append_of_le_length (by omega)]
  rw [e]
  exact ⟨by simp, by rw [List.getLastD_concat]⟩

theorem steps_no {P : List Pg} (hP : HOk P) (name text : ByteArray) (h : (houseD P (dd 10 0 name text)).2.1 ≠ 0 ∨ (textP P name).2 = false) : (houseD P (dd 10 0 name text)).2.1 ≠ 0 ∧ (houseD P (dd 10 0 name text)).2.2 = P := by
  have ho := house_one hP (dd 10 0 name text)
  have key : (houseD P (dd 10 0 name text)).2.1 ≠ 0 := by
    rcases h with h | h
    · exact h
    · rw [ho.err]
      have hnone : pageOf name P = none := by
        cases hp : pageOf name P with
        | none => rfl
        | some p => rw [textP_some hp] at h; cases h
      show (oneD (P.length = 6) (pageOf name P) (dd 10 0 name text)).2.1 ≠ 0
      rw [hnone]
      exact oneD_none ⟨by show (2 : Int) ≤ 10; decide, by show (10 : Int) ≤ 10; decide⟩
  exact ⟨key, ho.same (by rw [← ho.err]; exact key)⟩
theorem steps_yes {P : List Pg} (hP : HOk P) (hpg : ∀ p ∈ P, p.Ok) (name text : ByteArray) {P1 P2 P3 : List Pg} {T1 T2 T3 : ByteArray} {E2 E3 : Int} (h1 : houseD P (dd 10 0 name text) = (T1, 0, P1)) (h2 : houseD P1 (dd 3 0 name ⟨#[]⟩) = (T2, E2, P2)) (h3 : houseD P2 (dd 4 0 name ⟨#[]⟩) = (T3, E3, P3)) :
    (textP P name).2 = true ∧ textP P1 name = (text, true) ∧ (E2 = 11 ∨ (E2 = 0 ∧ textP P2 name = ((textP P name).1, true) ∧ ((E3 = 0 ∧ textP P3 name = (text, true)) ∨ (E3 = 11 ∧ textP P3 name = ((textP P name).1, true))))) := by
  have ho := house_one hP (dd 10 0 name text)
  rw [h1] at ho
  have hk10 : 2 ≤ (dd 10 0 name text).kind ∧ (dd 10 0 name text).kind ≤ 10 := ⟨by show (2 : Int) ≤ 10; decide, by show (10 : Int) ≤ 10; decide⟩
  have hk3 : 2 ≤ (dd 3 0 name ⟨#[]⟩).kind ∧ (dd 3 0 name ⟨#[]⟩).kind ≤ 10 := ⟨by show (2 : Int) ≤ 3; decide, by show (3 : Int) ≤ 10; decide⟩
  have hk4 : 2 ≤ (dd 4 0 name ⟨#[]⟩).kind ∧ (dd 4 0 name ⟨#[]⟩).kind ≤ 10 := ⟨by show (2 : Int) ≤ 4; decide, by show (4 : Int) ≤ 10; decide⟩
  cases hp : pageOf name P with
  | none =>
    exfalso
    have e := ho.err
    have hq : pageOf (dd 10 0 name text).name P = none := hp
    rw [hq] at e
    exact oneD_none hk10 e.symm
  | some p =>
    have hpm := pageOf_mem hp
    have hpo := hpg p hpm
    have hn : nameE name = 0 := by rw [← (pageOf_some hp).1]; exact hP.nm p hpm
    have hq : pageOf (dd 10 0 name text).name P = some p := hp
    rw [hq, oneD_some hk10 (by show (10 : Int) ≠ 9; decide) hn, pageD10 (show (dd 10 0 name text).kind = 10 from rfl)] at ho
    have e1 : (makeP p text).1 = 0 := ho.err.symm
    obtain ⟨l, _, hm⟩ := make_zero e1
    have hp1 : pageOf name P1 = some (makeP p text).2 := ho.page
    rw [hm] at hp1
    refine ⟨by rw [textP_some hp], by rw [textP_some hp1], ?_⟩
    have ho2 := house_one ho.ok (dd 3 0 name ⟨#[]⟩)
    have hq2 : pageOf (dd 3 0 name ⟨#[]⟩).name P1 = _ := hp1
    rw [h2] at ho2
    have hlb := last_back (t := p.t) (show p.B.length ≤ 30 by have := hpo.few; omega)
    have hb := ho2
    rw [hq2, oneD_some hk3 (by show (3 : Int) ≠ 9; decide) hn, pageD3 (show (dd 3 0 name ⟨#[]⟩).kind = 3 from rfl)] at hb
    unfold backP at hb
    by_cases hf : fits (p.H ++ [(101 :: writeL l, text)]) (((p.B ++ [p.t]).drop (p.B.length + 1 - 30)).getLastD ⟨#[]⟩)
    · rw [if_neg hlb.1, if_pos hf] at hb
      have e2 : E2 = 0 := hb.err
      have hp2 : pageOf name P2 = some _ := hb.page
      right
      refine ⟨e2, ?_, ?_⟩
      · rw [textP_some hp2, textP_some hp]
        exact Prod.ext hlb.2 rfl
      have hq3 : pageOf (dd 4 0 name ⟨#[]⟩).name P2 = _ := hp2
      have ho3 := house_one ho2.ok (dd 4 0 name ⟨#[]⟩)
      rw [h3] at ho3
      have hb3 := ho3
      rw [hq3, oneD_some hk4 (by show (4 : Int) ≠ 9; decide) hn, pageD4 (show (dd 4 0 name ⟨#[]⟩).kind = 4 from rfl)] at hb3
      unfold onP at hb3
      rw [if_neg (by simp)] at hb3
      split at hb3
      · left
        refine ⟨hb3.err, ?_⟩
        rw [textP_some (show pageOf name P3 = some _ from hb3.page)]
        rfl
      · right
        have e3 : E3 = 11 := hb3.err
        refine ⟨e3, ?_⟩
        rw [textP_some (show pageOf name P3 = some _ from hb3.page), textP_some hp]
        exact Prod.ext hlb.2 rfl
    · rw [if_neg hlb.1, if_neg hf] at hb
      exact .inl hb.err
end Go.Proofs.YtigbnldmjafgmaaDoor

/- Plain: a name's text in a house where much else is done, and in one where only this is done. -/
namespace Go.Proofs.YtigbnldmjafgmaaDoor
open Go.RowKit
set_option linter.unusedVariables false

/-- Two houses that have the same page of a name, with room for it. -/
def ApartR (name : ByteArray) (n k : Nat) (Pa Pb : List Pg) : Prop :=
  pageOf name Pa = pageOf name Pb ∧ ((Pa.length ≤ k ∧ Pb.length ≤ k ∧ n ≤ 5) ∨ (5 < n ∧ (∀ p ∈ Pa, p.name = name) ∧ ∀ p ∈ Pb, p.name = name))
theorem all_one {P : List Pg} (hP : HOk P) {name : ByteArray} (h : ∀ p ∈ P, p.name = name) : P.length ≤ 1 := by
  match P, hP, h with
  | [], _, _ => decide
  | [_], _, _ => exact Nat.le_refl 1
  | x :: y :: P, hP, h =>
    exfalso
    have := hP.nd
    rw [List.map_cons, List.map_cons, h x (by simp), h y (by simp)] at this
    simp at this
theorem all_iff {P : List Pg} {name : ByteArray} : (∀ p ∈ P, p.name = name) ↔ ∀ s, s ≠ name → pageOf s P = none := by
  constructor
  · intro h s hs
    cases hp : pageOf s P with
    | none => rfl
    | some p => exact absurd ((pageOf_some hp).1.symm.trans (h p (pageOf_mem hp))) hs
  · intro h p hp
    by_cases e : p.name = name
    · exact e
    · have h1 := h p.name e
      have h2 := pageOf_isSome.2 (List.mem_map_of_mem (f := (·.name)) hp)
      rw [h1] at h2
      cases h2
theorem oneD_room {a b : Prop} [Decidable a] [Decidable b] (ha : ¬ a) (hb : ¬ b) (o : Option Pg) (d : Dd) : oneD a o d = oneD b o d := by
  unfold oneD
  cases o with
  | none => simp only [if_neg ha, if_neg hb]
  | some p => rfl
theorem apart_all {P P' : List Pg} {d : Dd} {name : ByteArray} {full : Prop} [Decidable full] {R : ByteArray × Int × List Pg} (ho : OneTo P d (oneD full (pageOf d.name P) d) R) (hP' : P' = R.2.2) (hk : d.name = name ∨ d.kind ≠ 1) (h : ∀ p ∈ P, p.name = name) : ∀ p ∈ P', p.name = name := by
  rw [all_iff] at h ⊢
  intro s hs
  rw [hP']
  by_cases e : s = d.name
  · rcases hk with hk | hk
    · exact absurd (e.trans hk) hs
    · have hn : pageOf d.name P = none := h d.name (by rw [← e]; exact hs)
      have hpg := ho.page
      rw [e, hpg, hn]
      unfold oneD
      by_cases c1 : d.kind < 1 ∨ 10 < d.kind
      · rw [if_pos c1]
      rw [if_neg c1]
      by_cases c2 : nameE d.name ≠ 0
      · rw [if_pos c2]
      rw [if_neg c2]
      show (if d.kind = 1 then _ else _ : ByteArray × Int × Option Pg).2.2 = none
      rw [if_neg hk]
  · rw [ho.other s e, h s hs]
theorem apart_other {Pa Pb Pa' : List Pg} (ha : HOk Pa) {name : ByteArray} {n k : Nat} {d : Dd} {T : ByteArray} {E : Int} (h : ApartR name n k Pa Pb) (hd : d.name ≠ name) (hf : 5 < n → ¬ (d.kind = 1 ∧ d.name ≠ name)) (hR : houseD Pa d = (T, E, Pa')) : ApartR name n (k + 1) Pa' Pb := by
  have ho := house_one ha d
  rw [hR] at ho
  refine ⟨(ho.other name fun e => hd e.symm).trans h.1, ?_⟩
  rcases h.2 with ⟨h1, h2, h3⟩ | ⟨h1, h2, h3⟩
  · have := ho.grows
    have : Pa'.length ≤ Pa.length + 1 := ho.grows
    exact .inl ⟨by omega, by omega, h3⟩
  · exact .inr ⟨h1, apart_all ho rfl (.inr fun e => hf h1 ⟨e, hd⟩) h2, h3⟩
theorem apart_same {Pa Pb Pa' Pb' : List Pg} (ha : HOk Pa) (hb : HOk Pb) {name : ByteArray} {n k : Nat} (hk : k < n) {d : Dd} {T T' : ByteArray} {E E' : Int} (h : ApartR name n k Pa Pb) (hd : d.name = name) (hR : houseD Pa d = (T, E, Pa')) (hR' : houseD Pb d = (T', E', Pb')) : T' = T ∧ E' = E ∧ ApartR name n (k + 1) Pa' Pb' := by
  have ho := house_one ha d
  have ho' := house_one hb d
  rw [hR] at ho
  rw [hR'] at ho'
  have hla : Pa.length ≠ 6 ∧ Pb.length ≠ 6 := by
    rcases h.2 with ⟨h1, h2, h3⟩ | ⟨h1, h2, h3⟩
    · omega
    · have := all_one ha h2
      have := all_one hb h3
      omega
  have e : oneD (Pa.length = 6) (pageOf d.name Pa) d = oneD (Pb.length = 6) (pageOf d.name Pb) d := by
    rw [hd, h.1]
    exact oneD_room hla.1 hla.2 _ _
  refine ⟨?_, ?_, ?_, ?_⟩
  · exact ho'.told.trans ((congrArg (·.1) e).symm.trans ho.told.symm)
  · exact ho'.err.trans ((congrArg (·.2.1) e).symm.trans ho.err.symm)
  · have h1 := ho.page
    have h2 := ho'.page
    rw [hd] at h1 h2
    exact h1.trans ((by rw [← hd]; exact congrArg (·.2.2) e : (oneD (Pa.length = 6) (pageOf name Pa) d).2.2 = (oneD (Pb.length = 6) (pageOf name Pb) d).2.2).trans h2.symm)
  · rcases h.2 with ⟨h1, h2, h3⟩ | ⟨h1, h2, h3⟩
    · have g1 : Pa'.length ≤ Pa.length + 1 := ho.grows
      have g2 : Pb'.length ≤ Pb.length + 1 := ho'.grows
      exact .inl ⟨by omega, by omega, h3⟩
    · exact .inr ⟨h1, apart_all ho rfl (.inl hd) h2, apart_all ho' rfl (.inl hd) h3⟩
theorem hasB_page {P : List Pg} {name : ByteArray} : hasB name (P.map (·.name)) = (pageOf name P).isSome := by
  have h := pageOf_isSome (s := name) (P := P)
  cases hb : (pageOf name P).isSome with
  | false => exact hasB_no.2 fun hm => by have := h.2 hm; rw [hb] at this; cases this
  | true => exact hasB_iff.2 (h.1 hb)
theorem apart_end {Pa Pb : List Pg} {name : ByteArray} {n k : Nat} (h : ApartR name n k Pa Pb) : hasB name (namesB Pb) = hasB name (namesB Pa) := by
  rw [hasB_names, hasB_names, hasB_page, hasB_page, h.1]
end Go.Proofs.YtigbnldmjafgmaaDoor

/- Two houses in a law, beside blocks of others. -/
namespace Go.Proofs.YtigbnldmjafgmaaDoor
open Go.RowKit
set_option linter.unusedVariables false

theorem Pair.mk {w0 w w' : World} {own1 own2 : Nat → Nat} {ga gb : Nat} {Qa Qb : List (Pl × Pg)} {Pa Pb : List Pg} (h1 : InLaw w0 own1 w ga Qa Pa) (h2 : InLaw w own2 w' gb Qb Pb) (hs : ∀ k, k < w.heap.size → own2 k = own1 k) : Pair w0 ga Pa gb Pb w' := by
  have hG : Goes own1 own2 (fun _ => False) w w' := ⟨h2.below.os, h2.below.tape, h2.below.output, h2.below.size, fun k hk _ => h2.below.block k hk, hs⟩
  have hsz := h1.below.size
  have g1 := h1.apart hG (fun _ _ h => h) (fun _ h => h.elim) h2.based
  refine ⟨own2, Qa, Qb, g1, ⟨g1.below, h2.house, h2.pages, h2.ok, h2.based, g1.low, fun i hi => Nat.le_trans hsz (h2.ids i hi)⟩, fun i hi hj => ?_⟩
  have := h1.house.lt i hi
  have := h2.ids i hj
  omega
theorem based_self (w : World) : Based (fun k => k) w := fun k hk => hk
/-- Two houses, and blocks that are not theirs. -/
def PairK (w0 : World) (ga : Nat) (Pa : List Pg) (gb : Nat) (Pb : List Pg) (K : Nat → Prop) (w : World) : Prop :=
  ∃ own Qa Qb, InLaw w0 own w ga Qa Pa ∧ InLaw w0 own w gb Qb Pb ∧ (∀ i ∈ idsH ga Qa, i ∉ idsH gb Qb) ∧ ∀ b, K b → b < w.heap.size ∧ own b ∉ idsH ga Qa ∧ own b ∉ idsH gb Qb
theorem PairK.pair {w0 w : World} {ga gb : Nat} {Pa Pb : List Pg} {K : Nat → Prop} (h : PairK w0 ga Pa gb Pb K w) : Pair w0 ga Pa gb Pb w := by
  obtain ⟨own, Qa, Qb, h1, h2, h3, _⟩ := h
  exact ⟨own, Qa, Qb, h1, h2, h3⟩
theorem PairK.swap {w0 w : World} {ga gb : Nat} {Pa Pb : List Pg} {K : Nat → Prop} (h : PairK w0 ga Pa gb Pb K w) : PairK w0 gb Pb ga Pa K w := by
  obtain ⟨own, Qa, Qb, h1, h2, h3, h4⟩ := h
  exact ⟨own, Qb, Qa, h2, h1, fun i hi hj => h3 i hj hi, fun b hb => ⟨(h4 b hb).1, (h4 b hb).2.2, (h4 b hb).2.1⟩⟩
theorem Pair.fresh {w0 w w' : World} {ga gb : Nat} {Pa Pb : List Pg} (h : Pair w0 ga Pa gb Pb w) (hb : Below w.heap.size w w') : PairK w0 ga Pa gb Pb (fun b => w.heap.size ≤ b ∧ b < w'.heap.size) w' := by
  obtain ⟨own, Qa, Qb, h1, h2, h3⟩ := h
  have l1 := h1.house.lt
  have l2 := h2.house.lt
  refine ⟨_, Qa, Qb, h1.after hb, h2.after hb, h3, fun b ⟨g1, g2⟩ => ⟨g2, fun hi => ?_, fun hi => ?_⟩⟩
  · unfold newO at hi
    rw [if_neg (by omega)] at hi
    have := l1 b hi
    omega
  · unfold newO at hi
    rw [if_neg (by omega)] at hi
    have := l2 b hi
    omega
theorem PairK.do_ {w0 w : World} {ga gb : Nat} {Pa Pb : List Pg} {K : Nat → Prop} (h : PairK w0 ga Pa gb Pb K w) (ht : Tab w) (d : Dd) (Ad : Option Addr) (cd : Nat) (hd : DeedAt w d Ad cd) :
    Calls Tryd.prog 12 #[.pointer (some ⟨ga, 0, none⟩), .agg (cDeed d Ad cd)] w fun e w' => e = .returned (.tuple #[.string (houseD Pa d).1, .int .i64 (houseD Pa d).2.1]) ∧ PairK w0 ga (houseD Pa d).2.2 gb Pb K w' ∧ Kept K w w' := by
  obtain ⟨own, Qa, Qb, h1, h2, h3, h4⟩ := h
  refine (do_law h1 ht d Ad cd hd).mono fun e w' ⟨he, own', Qa', g1, g2, g3⟩ => ⟨he, ⟨own', Qa', Qb, g1, h2.apart g2 (fun k hk hs => h3 k hs hk) h1.ids g1.based, fun i hi hj => ?_, fun b hb => ?_⟩, g2.os, g2.tape, g2.output, g2.size, fun b hb => g2.block b (h4 b hb).1 (h4 b hb).2.1⟩
  · rcases g3 i hi with h | h
    · exact h3 i h hj
    · have := h2.house.lt i hj
      omega
  · obtain ⟨k1, k2, k3⟩ := h4 b hb
    rw [g2.same b k1]
    refine ⟨Nat.lt_of_lt_of_le k1 g2.size, fun hi => ?_, k3⟩
    rcases g3 _ hi with h | h
    · exact k2 h
    · have := h1.based b k1
      omega
theorem deeds_row {w w' : World} {A : Option Addr} {len cap : Nat} {l : List DRow} (h : DeedsIn w A len cap l) (hb : Below w.heap.size w w') {k : Nat} {d : Dd} {Ad : Option Addr} {cd : Nat} (hk : l[k]? = some (d, Ad, cd)) : DeedAt w' d Ad cd := by
  have hx := h.2.2.2.1 _ (List.mem_of_getElem? hk)
  exact ⟨(edsAt_of hx.2.2.2.2).after hb, hx.2.2.1, hx.2.1⟩
end Go.Proofs.YtigbnldmjafgmaaDoor

/- slices.Clone: a row of the call's own that reads as the old one. -/
namespace Go.Proofs.YtigbnldmjafgmaaDoor
open Go.RowKit
set_option linter.unusedVariables false

theorem run_eql_slice_nil {P : Program} (w : World) (t e : TypeId) (a : Option Addr) (l c : Nat) (h : P.underlying t = some (.slice e)) : (binOp .eql t (.slice a l c) (.slice none 0 0)).run P w = .ok (.bool a.isNone) w := by
  simp only [binOp]
  simp [run_equal_slice_nil w t e a l c h]
theorem own_empty (w : World) (base : Nat) (e : TypeId) (size : Nat) (h : base ≤ w.heap.size) : (w.alloc (.cells #[] e)).ownsRow base e size (.slice (some ⟨w.heap.size, 0, none⟩) 0 0) 0 [] :=
  ⟨by simp, .inr ⟨w.heap.size, 0, #[], rfl, h, heap_alloc_new w _, Nat.le_refl _, Nat.zero_le _, by simp, by simp⟩⟩







theorem infoStrCl : (Tryd.prog.info? 9).map (fun i => (i.zero, i.size, i.bytes)) = some (some (.string ⟨#[]⟩), 1, 16) := by kernel_rfl
set_option maxRecDepth 100000 in
set_option maxHeartbeats 1000000 in
theorem cloneStr_any (A : Option Addr) (n c B : Nat) (l : List (ByteArray)) (hl : l.length = n) (hn : n * 16 ≤ 140737488355328) (w : World) (h : Reads w B A n 1 (l.flatMap cStr)) (hB : B ≤ w.heap.size) :
    Calls Tryd.prog 20 #[.slice A n c] w fun e w' => ∃ A' c', e = .returned (.slice A' n c') ∧ w'.ownsRow w.heap.size 9 1 (.slice A' n c') n (l.flatMap cStr) ∧ Below w.heap.size w w' := by
  have hfl : (l.flatMap cStr).length = n * 1 := h.1
  have hone : ∀ u ∈ l.flatMap cStr, u.oneCell' = true := fun u hu => by
    obtain ⟨x, _, hx⟩ := List.mem_flatMap.1 hu
    simp only [cStr, List.mem_cons, List.not_mem_nil, or_false] at hx
    rcases hx with rfl <;> rfl
  cases A with
  | none =>
    have h0 : n = 0 := by
      rcases Nat.eq_zero_or_pos n with h0 | h0
      · exact h0
      · obtain ⟨b, o, e, _⟩ := h.2 h0
        cases e
    subst h0
    have hnil : l = [] := List.eq_nil_of_length_eq_zero hl
    subst hnil
    have heq := fun w => run_eql_slice_nil (P := Tryd.prog) w 33 9 none 0 c Tryd.underlying33
    go_enter Tryd.func20, Tryd.ntmps20
    go_wp2
    go_ret
    exact ⟨none, 0, rfl, World.ownsRow_nil _ _ _ _, Below.refl _ _⟩
  | some a =>
    have hnews : ∀ j u, (l.flatMap cStr)[j]? = some u → (w.alloc (.cells #[] 9)).cell? (a.add j) = some u := fun j u hj => by
      have hj' := (List.getElem?_eq_some_iff.1 hj).1
      have hn0 : 0 < n := by rcases Nat.eq_zero_or_pos n with h0 | h0; rw [hfl, h0] at hj'; omega; exact h0
      obtain ⟨b, o, e, hb, hc⟩ := h.2 hn0
      injection e with e
      subst e
      rw [add_at, World.cell?_alloc_lt w _ _ (by show b < _; omega), hc j hj', List.getD_eq_getElem?_getD, hj]; rfl
    have Hnews := Lib.hid hnews
    have Hfl := Lib.hid hfl
    have Hone := Lib.hid hone
    obtain ⟨i0, hi, hz0, hz1, hz2⟩ := info_parts infoStrCl
    have Hi := Lib.hid hi
    have Hz0 := Lib.hid hz0
    have Hz1 := Lib.hid hz1
    have Hz2 := Lib.hid hz2
    clear hnews hfl hone hi hz0 hz1 hz2 h
    have heq := fun w => run_eql_slice_nil (P := Tryd.prog) w 33 9 (some a) n c Tryd.underlying33
    have hown := own_empty w w.heap.size 9 1 (Nat.le_refl _)
    go_enter Tryd.func20, Tryd.ntmps20
    go_wp2_with (first | (at_builtin; go_must (refine wpList_append_own _ rfl (.tmp 5) (.tmp 6) 33 rfl w.heap.size 9 i0 _ 1 16 Tryd.underlying33 Hi.out Hz0.out Hz1.out Hz2.out rfl (by decide) _ 0 [] rfl hown a n c (l.flatMap cStr) rfl Hfl.out Hnews.out Hone.out (by unfold maxLen; omega) (by omega) (by simp) ?_); intro v3 w3 hown3 hg3 _))
    go_ret
    rw [Nat.zero_add, List.nil_append] at hown3
    obtain ⟨A', c', rfl, _⟩ := own_shape hown3
    exact ⟨A', c', rfl, hown3, ((Below.refl w.heap.size w).alloc (Nat.le_refl _) (.cells #[] 9)).grown hg3 (by simp) (fun k hk => (hown.lt k hk).1)⟩



end Go.Proofs.YtigbnldmjafgmaaDoor

/- slices.Clone and slices.DeleteFunc over deeds. -/
namespace Go.Proofs.YtigbnldmjafgmaaDoor
open Go.RowKit
set_option linter.unusedVariables false

theorem infoDeedC : (Tryd.prog.info? 25).map (fun i => (i.zero, i.size, i.bytes)) = some (some (.agg #[.int .i64 0, .int .i64 0, .string ⟨#[]⟩, .string ⟨#[]⟩, .slice none 0 0]), 5, 72) := by kernel_rfl
set_option maxRecDepth 100000 in
set_option maxHeartbeats 1000000 in
theorem cloneDeed_any (A : Option Addr) (n c B : Nat) (l : List DRow) (hl : l.length = n) (hn : n * 72 ≤ 140737488355328) (w : World) (h : Reads w B A n 5 (l.flatMap cDRow)) (hB : B ≤ w.heap.size) :
    Calls Tryd.prog 24 #[.slice A n c] w fun e w' => ∃ A' c', e = .returned (.slice A' n c') ∧ w'.ownsRow w.heap.size 25 5 (.slice A' n c') n (l.flatMap cDRow) ∧ Below w.heap.size w w' := by
  have hfl : (l.flatMap cDRow).length = n * 5 := h.1
  have hone : ∀ u ∈ l.flatMap cDRow, u.oneCell' = true := fun u hu => by
    obtain ⟨x, _, hx⟩ := List.mem_flatMap.1 hu
    simp only [cDRow, List.mem_cons, List.not_mem_nil, or_false] at hx
    rcases hx with rfl | rfl | rfl | rfl | rfl <;> rfl
  cases A with
  | none =>
    have h0 : n = 0 := by
      rcases Nat.eq_zero_or_pos n with h0 | h0
      · exact h0
      · obtain ⟨b, o, e, _⟩ := h.2 h0
        cases e
    subst h0
    have hnil : l = [] := List.eq_nil_of_length_eq_zero hl
    subst hnil
    have heq := fun w => run_eql_slice_nil (P := Tryd.prog) w 22 25 none 0 c Tryd.underlying22
    go_enter Tryd.func24, Tryd.ntmps24
    go_wp2
    go_ret
    exact ⟨none, 0, rfl, World.ownsRow_nil _ _ _ _, Below.refl _ _⟩
  | some a =>
    have hnews : ∀ j u, (l.flatMap cDRow)[j]? = some u → (w.alloc (.cells #[] 25)).cell? (a.add j) = some u := fun j u hj => by
      have hj' := (List.getElem?_eq_some_iff.1 hj).1
      have hn0 : 0 < n := by rcases Nat.eq_zero_or_pos n with h0 | h0; rw [hfl, h0] at hj'; omega; exact h0
      obtain ⟨b, o, e, hb, hc⟩ := h.2 hn0
      injection e with e
      subst e
      rw [add_at, World.cell?_alloc_lt w _ _ (by show b < _; omega), hc j hj', List.getD_eq_getElem?_getD, hj]; rfl
    have Hnews := Lib.hid hnews
    have Hfl := Lib.hid hfl
    have Hone := Lib.hid hone
    obtain ⟨i0, hi, hz0, hz1, hz2⟩ := info_parts infoDeedC
    have Hi := Lib.hid hi
    have Hz0 := Lib.hid hz0
    have Hz1 := Lib.hid hz1
    have Hz2 := Lib.hid hz2
    clear hnews hfl hone hi hz0 hz1 hz2 h
    have heq := fun w => run_eql_slice_nil (P := Tryd.prog) w 22 25 (some a) n c Tryd.underlying22
    have hown := own_empty w w.heap.size 25 5 (Nat.le_refl _)
    go_enter Tryd.func24, Tryd.ntmps24
    go_wp2_with (first | (at_builtin; go_must (refine wpList_append_own _ rfl (.tmp 5) (.tmp 6) 22 rfl w.heap.size 25 i0 _ 5 72 Tryd.underlying22 Hi.out Hz0.out Hz1.out Hz2.out rfl (by decide) _ 0 [] rfl hown a n c (l.flatMap cDRow) rfl Hfl.out Hnews.out Hone.out (by unfold maxLen; omega) (by omega) (by simp) ?_); intro v3 w3 hown3 hg3 _))
    go_ret
    rw [Nat.zero_add, List.nil_append] at hown3
    obtain ⟨A', c', rfl, _⟩ := own_shape hown3
    exact ⟨A', c', rfl, hown3, ((Below.refl w.heap.size w).alloc (Nat.le_refl _) (.cells #[] 25)).grown hg3 (by simp) (fun k hk => (hown.lt k hk).1)⟩

/-- Where the first that passes stands, or -1. -/
def firstD (p : DRow → Bool) : List DRow → Nat → Int
  | [], _ => -1
  | x :: l, k => if p x = true then (k : Int) else firstD p l (k + 1)
theorem firstD_no (p : DRow → Bool) : ∀ (l : List DRow) (k : Nat), (∀ x ∈ l, p x = false) → firstD p l k = -1
  | [], _, _ => rfl
  | x :: l, k, h => by
    unfold firstD
    rw [if_neg (by rw [h x (List.mem_cons_self ..)]; simp)]
    exact firstD_no p l (k + 1) fun y hy => h y (List.mem_cons_of_mem _ hy)
theorem firstD_yes (p : DRow → Bool) : ∀ (l : List DRow) (k : Nat), ¬ (∀ x ∈ l, p x = false) → ∃ i, i < l.length ∧ firstD p l k = ((k + i : Nat) : Int) ∧ (l.take i).filter (fun x => !p x) = l.take i ∧ (l.take (i + 1)).filter (fun x => !p x) = l.take i
  | [], _, h => absurd (fun x hx => by cases hx) h
  | x :: l, k, h => by
    by_cases hx : p x = true
    · exact ⟨0, by simp, by unfold firstD; rw [if_pos hx]; rfl, by simp, by simp [hx]⟩
    · have hx' : p x = false := by simpa using hx
      obtain ⟨i, h1, h2, h3, h4⟩ := firstD_yes p l (k + 1) fun hh => h fun y hy => by
        rcases List.mem_cons.1 hy with rfl | hy
        · exact hx'
        · exact hh y hy
      refine ⟨i + 1, by simpa using h1, by unfold firstD; rw [if_neg hx, h2]; congr 1; omega, ?_, ?_⟩
      · rw [List.take_succ_cons, List.filter_cons_of_pos (by simp [hx']), h3]
      · rw [List.take_succ_cons, List.filter_cons_of_pos (by simp [hx']), h4, List.take_succ_cons]

theorem getE_DD (xs : List Value) (k : Nat) (h : k < xs.length) : xs[k]? = some (xs.getD k undef) := by
  rw [List.getD_eq_getElem?_getD, List.getElem?_eq_getElem h]; rfl
theorem flat_takeD (L : List DRow) (i : Nat) (h : i ≤ L.length) : (L.flatMap cDRow).take (i * 5) = (L.take i).flatMap cDRow := by
  conv => lhs; rw [← List.take_append_drop i L, List.flatMap_append]
  rw [List.take_append_of_le_length (by rw [flat_length cDRow 5 cDRow_len, List.length_take]; omega), List.take_of_length_le (by rw [flat_length cDRow 5 cDRow_len, List.length_take]; omega)]
theorem deeds_set5 (L : List DRow) (i : Nat) (y : DRow) (hi : i < L.length) : (((((L.flatMap cDRow).set (i * 5) (.int .i64 y.1.kind)).set (i * 5 + 1) (.int .i64 y.1.n)).set (i * 5 + 2) (.string y.1.name)).set (i * 5 + 3) (.string y.1.text)).set (i * 5 + 4) (.slice y.2.1 y.1.edits.length y.2.2) = (L.set i y).flatMap cDRow := by
  have hx : L[i]? = some L[i] := List.getElem?_eq_getElem hi
  have e0 := flat_set cDRow 5 cDRow_len (L) i 0 L[i] (⟨y.1.kind, L[i].1.n, L[i].1.name, L[i].1.text, L[i].1.edits⟩, L[i].2) (.int .i64 y.1.kind) hx (by omega) rfl
  have e1 := flat_set cDRow 5 cDRow_len (L.set i (⟨y.1.kind, L[i].1.n, L[i].1.name, L[i].1.text, L[i].1.edits⟩, L[i].2)) i 1 (⟨y.1.kind, L[i].1.n, L[i].1.name, L[i].1.text, L[i].1.edits⟩, L[i].2) (⟨y.1.kind, y.1.n, L[i].1.name, L[i].1.text, L[i].1.edits⟩, L[i].2) (.int .i64 y.1.n) (by rw [List.getElem?_set_self hi]) (by omega) rfl
  have e2 := flat_set cDRow 5 cDRow_len (L.set i (⟨y.1.kind, y.1.n, L[i].1.name, L[i].1.text, L[i].1.edits⟩, L[i].2)) i 2 (⟨y.1.kind, y.1.n, L[i].1.name, L[i].1.text, L[i].1.edits⟩, L[i].2) (⟨y.1.kind, y.1.n, y.1.name, L[i].1.text, L[i].1.edits⟩, L[i].2) (.string y.1.name) (by rw [List.getElem?_set_self hi]) (by omega) rfl
  have e3 := flat_set cDRow 5 cDRow_len (L.set i (⟨y.1.kind, y.1.n, y.1.name, L[i].1.text, L[i].1.edits⟩, L[i].2)) i 3 (⟨y.1.kind, y.1.n, y.1.name, L[i].1.text, L[i].1.edits⟩, L[i].2) (⟨y.1.kind, y.1.n, y.1.name, y.1.text, L[i].1.edits⟩, L[i].2) (.string y.1.text) (by rw [List.getElem?_set_self hi]) (by omega) rfl
  have e4 := flat_set cDRow 5 cDRow_len (L.set i (⟨y.1.kind, y.1.n, y.1.name, y.1.text, L[i].1.edits⟩, L[i].2)) i 4 (⟨y.1.kind, y.1.n, y.1.name, y.1.text, L[i].1.edits⟩, L[i].2) y (.slice y.2.1 y.1.edits.length y.2.2) (by rw [List.getElem?_set_self hi]) (by omega) rfl
  rw [Nat.add_zero] at e0
  simp only [List.set_set] at e1 e2 e3 e4
  rw [← e0, ← e1, ← e2, ← e3, ← e4]

set_option maxHeartbeats 1000000 in
theorem indexDeedF (F : Nat) (hen : ∀ (args : Array Value) (w : World), (callFunc F args).run Tryd.prog w = .ok (.enter F args) w) (cap : Value) (A : Option Addr) (n c B : Nat) (l : List DRow) (p : DRow → Bool) (hl : l.length = n) (hn : n ≤ 1000000000000000) (w : World) (r : Reads w B A n 5 (l.flatMap cDRow)) (hB : B ≤ w.heap.size)
    (hp : ∀ x, ∀ w1, Below w.heap.size w w1 → Calls Tryd.prog F #[.agg #[.int .i64 x.1.kind, .int .i64 x.1.n, .string x.1.name, .string x.1.text, .slice x.2.1 x.1.edits.length x.2.2], cap] w1 fun e w' => e = .returned (.bool (p x)) ∧ Below w1.heap.size w1 w') :
    Calls Tryd.prog 53 #[.slice A n c, .func (Fn.func F) #[] #[cap]] w
      fun e w' => e = .returned (.int .i64 (firstD p l 0)) ∧ Below w.heap.size w w' := by
  have Hl := Lib.hid hl
  have Hp := Lib.hid hp
  clear hl hp
  go_enter Tryd.func53, Tryd.ntmps53
  go_wp2
  go_loopw [5, 8] (fun _ i wr => ∃ k : Nat, k ≤ n ∧ i = .int .i64 k ∧ Hid (firstD p l 0 = firstD p (l.drop k) k) ∧ Below w.heap.size w wr) (fun _ i _ => n - (intOf i).toNat)
  case atStart => exact ⟨0, Nat.zero_le _, rfl, Lib.hid (by simp), Below.refl _ _⟩
  case round =>
    obtain ⟨k, hk, rfl, Hf, hbr⟩ := hrel
    by_cases hlt : k < n
    · obtain ⟨b, o, rfl, hbB, hc⟩ := (r.below (hbr.mono hB)).2 (by omega)
      have c0 := hc (k * 5 + 0) (by rw [flat_length cDRow 5 cDRow_len, Hl.out]; omega)
      have c1 := hc (k * 5 + 1) (by rw [flat_length cDRow 5 cDRow_len, Hl.out]; omega)
      have c2 := hc (k * 5 + 2) (by rw [flat_length cDRow 5 cDRow_len, Hl.out]; omega)
      have c3 := hc (k * 5 + 3) (by rw [flat_length cDRow 5 cDRow_len, Hl.out]; omega)
      have c4 := hc (k * 5 + 4) (by rw [flat_length cDRow 5 cDRow_len, Hl.out]; omega)
      rw [flat_getD cDRow 5 cDRow_len default l k _ (by rw [Hl.out]; omega) (by omega)] at c0 c1 c2 c3 c4
      simp only [cDRow, List.getD_cons_zero, List.getD_cons_succ, Nat.add_zero, ← Nat.add_assoc] at c0 c1 c2 c3 c4
      have hd : l.drop k = l.getD k default :: l.drop (k + 1) := drop_getD l k default (by rw [Hl.out]; omega)
      have Hd := Lib.hid hd
      have Hcall := Lib.hid (Hp.out (l.getD k default) wr hbr)
      clear hd hc
      generalize l.getD k default = x at *
      obtain ⟨d, Ad, cd⟩ := x
      simp only at c0 c1 c2 c3 c4
      by_cases h0 : p (d, Ad, cd) = true
      · have hcl := Hcall.out
        rw [h0] at hcl
        simp only at hcl
        have Hcl := Lib.hid hcl
        have H0 := Lib.hid h0
        clear h0 hcl
        go_wp2_with fail
        refine Hcl.out.mono ?_
        rintro e w1 ⟨rfl, hb1⟩
        go_wp2
        go_ret
        exact ⟨by rw [Hf.out, Hd.out, firstD, if_pos H0.out]; rfl, chain hb1 hbr⟩
      · have hcl := Hcall.out
        rw [show p (d, Ad, cd) = false from by simpa using h0] at hcl
        simp only at hcl
        have Hcl := Lib.hid hcl
        have H0 := Lib.hid h0
        clear h0 hcl
        go_wp2_with fail
        refine Hcl.out.mono ?_
        rintro e w1 ⟨rfl, hb1⟩
        go_wp2
        go_roundw
        case rel => exact ⟨k + 1, by omega, by go_num, Lib.hid (by rw [Hf.out, Hd.out, firstD, if_neg H0.out]), chain hb1 hbr⟩
        case measure => simp only [intOf]; omega
    · obtain rfl : k = n := by omega
      go_wp2
      go_ret
      exact ⟨by rw [Hf.out, List.drop_of_length_le (by rw [Hl.out]; omega)]; rfl, hbr⟩

theorem zeroDeed (w : World) : (zeroValue 25).run Tryd.prog w = .ok (.agg #[.int .i64 0, .int .i64 0, .string ⟨#[]⟩, .string ⟨#[]⟩, .slice none 0 0]) w := by
  obtain ⟨i, hi, hz, hs, hb⟩ := info_parts infoDeedC
  simp [zeroValue, typeInfo, hi, hz]

set_option maxHeartbeats 2000000 in
theorem deleteDeed_any (F : Nat) (hen : ∀ (args : Array Value) (w : World), (callFunc F args).run Tryd.prog w = .ok (.enter F args) w) (cap : Value) (w0 : World) (A : Option Addr) (n c : Nat) (l : List DRow) (p : DRow → Bool) (hl : l.length = n) (hn : n ≤ 1000000000000000) (w : World)
    (hb0 : Below w0.heap.size w0 w) (h : OwnK 25 5 w (· < w0.heap.size) A n c (l.flatMap cDRow))
    (hp : ∀ x, ∀ w1, Below w0.heap.size w0 w1 → Calls Tryd.prog F #[.agg #[.int .i64 x.1.kind, .int .i64 x.1.n, .string x.1.name, .string x.1.text, .slice x.2.1 x.1.edits.length x.2.2], cap] w1 fun e w' => e = .returned (.bool (p x)) ∧ Below w1.heap.size w1 w') :
    Calls Tryd.prog 23 #[.slice A n c, .func (Fn.func F) #[] #[cap]] w
      fun e w' => ∃ m, e = .returned (.slice A m c) ∧ OwnK 25 5 w' (· < w0.heap.size) A m c ((l.filter (fun x => !p x)).flatMap cDRow) ∧ (l.filter (fun x => !p x)).length = m ∧ Below w0.heap.size w0 w' := by
  have H1 := Lib.hid (indexDeedF F hen cap A n c w.heap.size l p hl hn w h.toReads (Nat.le_refl _) fun x w1 hb => hp x w1 (chain hb hb0))
  have hcap := h.cap
  unfold maxLen at hcap
  by_cases hno : ∀ x ∈ l, p x = false
  · have e1 : l.filter (fun x => !p x) = l := List.filter_eq_self.2 fun x hx => by simp [hno x hx]
    rw [firstD_no p l 0 hno] at H1
    rw [e1]
    have Hl := Lib.hid hl
    clear e1 hno hl hp
    go_enter Tryd.func23, Tryd.ntmps23
    go_wp2_with fail
    refine H1.out.mono ?_
    rintro e w1 ⟨rfl, hb1⟩
    go_wp2
    go_ret
    exact ⟨n, rfl, h.after hb1, Hl.out, chain hb1 hb0⟩
  obtain ⟨i0, hi0, hf0, ht0, ht1⟩ := firstD_yes p l 0 hno
  rw [hf0, Nat.zero_add] at H1
  rw [hl] at hi0
  have Hl := Lib.hid hl
  have Hp := Lib.hid hp
  have Ht1 := Lib.hid ht1
  have hi0' : (i0 : Int) < (n : Int) := by omega
  have q0 : ((i0 : Int) == (-1 : Int)) = false := by rw [beq_eq_false_iff_ne]; omega
  clear hf0 ht0 ht1 hno hl hp
  go_enter Tryd.func23, Tryd.ntmps23
  go_wp2_with fail
  refine H1.out.mono ?_
  rintro e w1 ⟨rfl, hb1⟩
  have h1 := h.after hb1
  have hb2 := chain hb1 hb0
  clear h hb1 hb0 H1
  obtain ⟨g, o, rfl, hg1, hg2⟩ := h1.shape (by omega)
  have hgB : w0.heap.size ≤ g := Nat.le_of_not_lt hg2
  go_wp2
  go_loopw [5, 6, 7] (fun iv jv _ wr => ∃ (i j : Nat) (L : List DRow), i < j ∧ j ≤ n ∧ iv = .int .i64 i ∧ jv = .int .i64 j ∧ OwnK 25 5 wr (· < w0.heap.size) (some ⟨g, o, none⟩) n c (L.flatMap cDRow) ∧ Hid (L.length = n ∧ L.take i = (l.take j).filter (fun x => !p x) ∧ L.drop j = l.drop j) ∧ Below w0.heap.size w0 wr) (fun _ jv _ _ => n - (intOf jv).toNat)
  case atStart => exact ⟨i0, i0 + 1, l, by omega, by omega, rfl, by go_num, h1, Lib.hid ⟨Hl.out, Ht1.out.symm, rfl⟩, hb2⟩
  case round =>
    clear h1 hb2 Ht1
    obtain ⟨i, j, L, hij, hj, rfl, rfl, hown, HL, hbr⟩ := hrel
    by_cases hlt : j < n
    · have hjL : j < L.length := by rw [HL.out.1]; exact hlt
      have hxL : L.getD j default = l.getD j default := by
        have e := congrArg (fun l => l.getD 0 default) HL.out.2.2
        simp only [List.getD_eq_getElem?_getD, List.getElem?_drop, Nat.add_zero] at e ⊢
        exact e
      have f0 := flat_getD cDRow 5 cDRow_len default L j 0 hjL (by omega)
      have f1 := flat_getD cDRow 5 cDRow_len default L j 1 hjL (by omega)
      have f2 := flat_getD cDRow 5 cDRow_len default L j 2 hjL (by omega)
      have f3 := flat_getD cDRow 5 cDRow_len default L j 3 hjL (by omega)
      have f4 := flat_getD cDRow 5 cDRow_len default L j 4 hjL (by omega)
      have c0 := (hown.cell (j * 5) (by omega)).1
      have c1 := (hown.cell (j * 5 + 1) (by omega)).1
      have c2 := (hown.cell (j * 5 + 2) (by omega)).1
      have c3 := (hown.cell (j * 5 + 3) (by omega)).1
      have c4 := (hown.cell (j * 5 + 4) (by omega)).1
      rw [getE_DD _ _ (by rw [hown.1]; omega)] at c0 c1 c2 c3 c4
      rw [Nat.add_zero] at f0
      rw [f0, hxL] at c0
      rw [f1, hxL] at c1
      rw [f2, hxL] at c2
      rw [f3, hxL] at c3
      rw [f4, hxL] at c4
      simp only [cDRow, List.getD_cons_zero, List.getD_cons_succ] at c0 c1 c2 c3 c4
      rw [← Nat.add_assoc] at c1 c2 c3 c4
      have hfl : (l.take (j + 1)).filter (fun x => !p x) = (l.take j).filter (fun x => !p x) ++ if p (l.getD j default) = true then [] else [l.getD j default] := by
        rw [take_succ_getD l j default (by rw [Hl.out]; exact hlt), List.filter_append]
        generalize l.getD j default = x
        by_cases h0 : p x = true
        · rw [if_pos h0]; simp [h0]
        · rw [if_neg h0]; simp [h0]
      have Hfl := Lib.hid hfl
      have hd1 : L.drop (j + 1) = l.drop (j + 1) := by
        have e := congrArg (List.drop 1) HL.out.2.2
        rwa [List.drop_drop, List.drop_drop] at e
      have Hd1 := Lib.hid hd1
      clear f0 f1 f2 f3 f4 hxL hfl hd1
      generalize l.getD j default = x at *
      obtain ⟨d, Ad, cd⟩ := x
      simp only at c0 c1 c2 c3 c4
      have hba : Below w0.heap.size w0 (wr.alloc (Obj.cells #[.int .i64 d.kind, .int .i64 d.n, .string d.name, .string d.text, .slice Ad d.edits.length cd] 25)) := hbr.alloc hbr.size _
      have hblk := Blk.new wr 25 #[.int .i64 d.kind, .int .i64 d.n, .string d.name, .string d.text, .slice Ad d.edits.length cd]
      have howna := hown.alloc (Obj.cells #[.int .i64 d.kind, .int .i64 d.n, .string d.name, .string d.text, .slice Ad d.edits.length cd] 25)
      have Hcall := Lib.hid (Hp.out (d, Ad, cd) _ hba)
      have hgw : g < wr.heap.size := by
        obtain ⟨g', o', e, h1, _⟩ := hown.shape (by omega)
        injection e with e
        injection e with e _
        omega
      clear hown
      by_cases h0 : p (d, Ad, cd) = true
      · have hcl := Hcall.out
        rw [h0] at hcl
        simp only at hcl
        have Hcl := Lib.hid hcl
        have hfl2 := Hfl.out
        rw [if_pos h0, List.append_nil] at hfl2
        have Hfl2 := Lib.hid hfl2
        clear h0 hcl hfl2 Hfl
        have a0 := hblk.cell 0
        have a1 := hblk.cell 1
        have a2 := hblk.cell 2
        have a3 := hblk.cell 3
        have a4 := hblk.cell 4
        go_wp2_with fail
        refine Hcl.out.mono ?_
        rintro e w3 ⟨rfl, hb3⟩
        go_wp2
        go_roundw
        case rel => exact ⟨i, j + 1, L, by omega, by omega, rfl, by go_num, howna.after hb3, Lib.hid ⟨HL.out.1, by rw [Hfl2.out]; exact HL.out.2.1, Hd1.out⟩, chain hb3 hba⟩
        case measure => simp only [intOf]; omega
      · have hcl := Hcall.out
        rw [show p (d, Ad, cd) = false from by simpa using h0] at hcl
        simp only at hcl
        have Hcl := Lib.hid hcl
        have hfl2 := Hfl.out
        rw [if_neg h0] at hfl2
        have Hfl2 := Lib.hid hfl2
        clear h0 hcl hfl2 Hfl
        have a0 := hblk.cell 0
        have a1 := hblk.cell 1
        have a2 := hblk.cell 2
        have a3 := hblk.cell 3
        have a4 := hblk.cell 4
        go_wp2_with fail
        refine Hcl.out.mono ?_
        rintro e w3 ⟨rfl, hb3⟩
        have hblk3 := hblk.after hb3
        have b0 := hblk3.cell 0
        have b1 := hblk3.cell 1
        have b2 := hblk3.cell 2
        have b3 := hblk3.cell 3
        have b4 := hblk3.cell 4
        have how3 := howna.after hb3
        have hbr3 := chain hb3 hba
        have iin : i < n := by omega
        have ii : (i : Int) < (n : Int) := by omega
        obtain ⟨s0, hs0⟩ : ∃ s0, w3.cell? ⟨g, o + i * 5, none⟩ = some s0 := ⟨_, (how3.cell (i * 5) (by omega)).1.trans (getE_DD _ _ (by rw [how3.1]; omega))⟩
        obtain ⟨s1, hs1⟩ : ∃ s0, w3.cell? ⟨g, o + i * 5 + 1, none⟩ = some s0 := ⟨_, (how3.cell (i * 5 + 1) (by omega)).1.trans (getE_DD _ _ (by rw [how3.1]; omega))⟩
        obtain ⟨s2, hs2⟩ : ∃ s0, w3.cell? ⟨g, o + i * 5 + 2, none⟩ = some s0 := ⟨_, (how3.cell (i * 5 + 2) (by omega)).1.trans (getE_DD _ _ (by rw [how3.1]; omega))⟩
        obtain ⟨s3, hs3⟩ : ∃ s0, w3.cell? ⟨g, o + i * 5 + 3, none⟩ = some s0 := ⟨_, (how3.cell (i * 5 + 3) (by omega)).1.trans (getE_DD _ _ (by rw [how3.1]; omega))⟩
        obtain ⟨s4, hs4⟩ : ∃ s0, w3.cell? ⟨g, o + i * 5 + 4, none⟩ = some s0 := ⟨_, (how3.cell (i * 5 + 4) (by omega)).1.trans (getE_DD _ _ (by rw [how3.1]; omega))⟩
        have fz0 := (how3.cell (i * 5) (by omega)).2
        have fz1 := (how3.cell (i * 5 + 1) (by omega)).2
        rw [← Nat.add_assoc] at fz1
        have fz2 := (how3.cell (i * 5 + 2) (by omega)).2
        rw [← Nat.add_assoc] at fz2
        have fz3 := (how3.cell (i * 5 + 3) (by omega)).2
        rw [← Nat.add_assoc] at fz3
        have fz4 := (how3.cell (i * 5 + 4) (by omega)).2
        rw [← Nat.add_assoc] at fz4
        have hst := (((((how3.store (i * 5) (by omega) (.int .i64 d.kind)).store (i * 5 + 1) (by omega) (.int .i64 d.n)).store (i * 5 + 2) (by omega) (.string d.name)).store (i * 5 + 3) (by omega) (.string d.text)).store (i * 5 + 4) (by omega) (.slice Ad d.edits.length cd))
        rw [deeds_set5 L i (d, Ad, cd) (by rw [HL.out.1]; exact iin)] at hst
        simp only [← Nat.add_assoc] at hst
        have hbs : Below w0.heap.size w0 (((((w3.setCell ⟨g, o + i * 5, none⟩ (.int .i64 d.kind)).setCell ⟨g, o + i * 5 + 1, none⟩ (.int .i64 d.n)).setCell ⟨g, o + i * 5 + 2, none⟩ (.string d.name)).setCell ⟨g, o + i * 5 + 3, none⟩ (.string d.text)).setCell ⟨g, o + i * 5 + 4, none⟩ (.slice Ad d.edits.length cd)) := (((((hbr3.setCell (p := ⟨g, o + i * 5, none⟩) hgB _).setCell (p := ⟨g, o + i * 5 + 1, none⟩) hgB _).setCell (p := ⟨g, o + i * 5 + 2, none⟩) hgB _).setCell (p := ⟨g, o + i * 5 + 3, none⟩) hgB _).setCell (p := ⟨g, o + i * 5 + 4, none⟩) hgB _)
        clear howna how3 hba hb3 Hcl hblk
        go_wp2
        go_roundw
        case rel =>
          refine ⟨i + 1, j + 1, L.set i (d, Ad, cd), by omega, by omega, by go_num, by go_num, hst, Lib.hid ⟨by rw [List.length_set]; exact HL.out.1, ?_, ?_⟩, hbs⟩
          · rw [Hfl2.out, ← HL.out.2.1]
            have hiL : i < L.length := by rw [HL.out.1]; exact iin
            rw [take_succ_getD _ i default (by rw [List.length_set]; exact hiL), List.take_set_of_le (Nat.le_refl _), getD_some _ _ _ (by rw [List.length_set]; exact hiL), List.getElem_set_self]
          · rw [List.drop_set, if_pos (by omega)]; exact Hd1.out
        case measure => simp only [intOf]; omega
    · obtain rfl : j = n := by omega
      have hi : i < j := hij
      obtain ⟨w2, hcl, how2, hbw, -⟩ := run_clear_K (s := 5) wr 22 (.agg #[.int .i64 0, .int .i64 0, .string ⟨#[]⟩, .string ⟨#[]⟩, .slice none 0 0]) Tryd.underlying22 zeroDeed rfl (fun j hj => by rcases j with _ | _ | _ | _ | _ | j <;> first | rfl | omega) (by decide) g o j c i _ hown hi
      have hb2 := hbw _ _ hgB hbr
      have ht : (L.flatMap cDRow).take (i * 5) = (l.filter (fun x => !p x)).flatMap cDRow := by
        have e := HL.out.2.1
        rw [show l.take j = l from List.take_of_length_le (by rw [Hl.out]; exact Nat.le_refl _)] at e
        rw [← e]
        exact flat_takeD L i (by rw [HL.out.1]; omega)
      rw [ht] at how2
      have hm : (l.filter (fun x => !p x)).length = i := by
        have e := HL.out.2.1
        rw [show l.take j = l from List.take_of_length_le (by rw [Hl.out]; exact Nat.le_refl _)] at e
        rw [← e, List.length_take, HL.out.1]
        omega
      have Hm := Lib.hid hm
      have hic : (i : Int) ≤ (c : Int) := by omega
      have hij' : (i : Int) ≤ (j : Int) := by omega
      clear hm ht hown hbw HL Hl
      go_wp2
      go_ret
      exact ⟨i, rfl, how2, Hm.out, hb2⟩
end Go.Proofs.YtigbnldmjafgmaaDoor

/- HouseApart's walk: operations on other texts do not affect a text, as long as there is space. -/
namespace Go.Proofs.YtigbnldmjafgmaaDoor
open Go.RowKit
set_option linter.unusedVariables false

theorem OwnK.of_row {T : TypeId} {s : Nat} {w : World} {B n c : Nat} {A : Option Addr} {xs : List Value} (h : w.ownsRow B T s (.slice A n c) n xs) : OwnK T s w (· < B) A n c xs := by
  refine ⟨h.1, ?_⟩
  rcases h.2 with ⟨hv, hn⟩ | ⟨g, cap, cur, hv, hb, hg, h1, h2, h3, h4⟩
  · injection hv with e1 e2 e3
    exact .inl ⟨e1, hn, e3⟩
  · injection hv with e1 e2 e3
    subst e3
    exact .inr ⟨g, 0, cur, e1, Nat.not_lt.2 hb, hg, h1, h2, by omega, by rw [List.drop_zero]; exact h4⟩
/-- The deeds that are left out. -/
def newOther (name : ByteArray) (x : DRow) : Bool := x.1.kind == 1 && !(x.1.name.toList == name.toList)
theorem str_eq {a b : ByteArray} : (a.toList == b.toList) = true ↔ a = b := by
  rw [beq_iff_eq, ByteArray.toList_eq, ByteArray.toList_eq]
  exact ⟨nm_inj, fun h => by rw [h]⟩
theorem str_ne {a b : ByteArray} : (a.toList == b.toList) = false ↔ a ≠ b := by
  constructor
  · intro h e
    rw [str_eq.2 e] at h; cases h
  · intro h
    cases hq : (a.toList == b.toList) with
    | false => rfl
    | true => exact absurd (str_eq.1 hq) h
set_option maxHeartbeats 1000000 in
theorem closeApart (x : DRow) (g : Nat) (name : ByteArray) (w : World) (hb : Blk w g 9 #[.string name]) :
    Calls Tryd.prog 25 #[.agg #[.int .i64 x.1.kind, .int .i64 x.1.n, .string x.1.name, .string x.1.text, .slice x.2.1 x.1.edits.length x.2.2], .pointer (some ⟨g, 0, none⟩)] w fun e w' => e = .returned (.bool (newOther name x)) ∧ Below w.heap.size w w' := by
  obtain ⟨d, Ad, cd⟩ := x
  have b0 := (hb.alloc (Obj.cells #[.int .i64 d.kind, .int .i64 d.n, .string d.name, .string d.text, .slice Ad d.edits.length cd] 25)).cell 0
  have hblk := Blk.new w 25 #[.int .i64 d.kind, .int .i64 d.n, .string d.name, .string d.text, .slice Ad d.edits.length cd]
  have c0 := hblk.cell 0
  have c2 := hblk.cell 2
  have hba : Below w.heap.size w (w.alloc (Obj.cells #[.int .i64 d.kind, .int .i64 d.n, .string d.name, .string d.text, .slice Ad d.edits.length cd] 25)) := (Below.refl _ _).alloc (Nat.le_refl _) _
  unfold newOther
  clear hb hblk
  by_cases h1 : d.kind = 1
  · have q1 : (d.kind == 1) = true := by rw [h1]; rfl
    show Calls _ _ _ _ fun e w' => e = .returned (.bool (d.kind == 1 && !(d.name.toList == name.toList))) ∧ _
    rw [q1, Bool.true_and]
    clear h1
    go_enter Tryd.func25, Tryd.ntmps25
    go_wp2
    first
      | go_quiet (fail)
        go_wp2
      | skip
    go_ret
    exact ⟨by first | rfl | simp, ⟨hba.os, hba.tape, hba.output, hba.size, hba.block⟩⟩
  · have q1 : (d.kind == 1) = false := by rw [beq_eq_false_iff_ne]; exact h1
    show Calls _ _ _ _ fun e w' => e = .returned (.bool (d.kind == 1 && !(d.name.toList == name.toList))) ∧ _
    rw [q1, Bool.false_and]
    clear h1
    go_enter Tryd.func25, Tryd.ntmps25
    go_wp2
    first
      | go_quiet (fail)
        go_wp2
      | skip
    go_ret
    exact ⟨by first | rfl | simp, ⟨hba.os, hba.tape, hba.output, hba.size, hba.block⟩⟩
/-- A row of deeds that lie there. -/
def DRows (w : World) (A : Option Addr) (n : Nat) (zs : List DRow) : Prop := zs.length = n ∧ Reads w w.heap.size A n 5 (zs.flatMap cDRow) ∧ ∀ x ∈ zs, DeedAt w x.1 x.2.1 x.2.2
theorem drows_at {w w' : World} {A : Option Addr} {n : Nat} {l : List DRow} (h : DRows w A n l) (hb : Below w.heap.size w w') (k : Nat) (hk : k < n) :
    ∃ b o d Ad cd, A = some ⟨b, o, none⟩ ∧ l[k]? = some (d, Ad, cd) ∧ (∀ w2, Below w.heap.size w w2 → DeedAt w2 d Ad cd) ∧
      w'.cell? ⟨b, o + k * 5, none⟩ = some (.int .i64 d.kind) ∧ w'.cell? ⟨b, o + k * 5 + 1, none⟩ = some (.int .i64 d.n) ∧ w'.cell? ⟨b, o + k * 5 + 2, none⟩ = some (.string d.name) ∧ w'.cell? ⟨b, o + k * 5 + 3, none⟩ = some (.string d.text) ∧ w'.cell? ⟨b, o + k * 5 + 4, none⟩ = some (.slice Ad d.edits.length cd) := by
  obtain ⟨hll, hrd, hok⟩ := h
  obtain ⟨b, o, rfl, hbB, hc⟩ := (hrd.below hb).2 (by omega)
  have cj : ∀ j, j < 5 → w'.cell? ⟨b, o + k * 5 + j, none⟩ = some ((cDRow (l.getD k default)).getD j undef) := fun j hj => by
    have := hc (k * 5 + j) (by rw [flat_length cDRow 5 cDRow_len, hll]; omega)
    rw [flat_getD cDRow 5 cDRow_len default l k j (by rw [hll]; exact hk) hj, ← Nat.add_assoc] at this
    exact this
  have hm : l.getD k default ∈ l := by rw [getD_some _ _ _ (by rw [hll]; exact hk)]; exact List.getElem_mem _
  have hx := hok _ hm
  refine ⟨b, o, (l.getD k default).1, (l.getD k default).2.1, (l.getD k default).2.2, rfl, ?_, fun w2 h2 => hx.after h2, cj 0 (by omega), cj 1 (by omega), cj 2 (by omega), cj 3 (by omega), cj 4 (by omega)⟩
  rw [getElem?_of_getD l default k (by rw [hll]; exact hk)]
/-- A new house beside another one. -/
theorem pair_new {w1 w2 : World} {own : Nat → Nat} {ga : Nat} {Q : List (Pl × Pg)} {P : List Pg} {w0 : World} (h : InLaw w0 own w1 ga Q P) :
    Calls Tryd.prog 26 #[] w1 fun e w' => e = .returned (.pointer (some ⟨w1.heap.size, 0, none⟩)) ∧ Pair w0 ga P w1.heap.size [] w' :=
  (new_law h.based).mono fun e w' ⟨he, own', h2, hs⟩ => ⟨he, Pair.mk h h2 hs⟩

theorem newOther_no {name : ByteArray} {x : DRow} (h : newOther name x = false) : ¬ (x.1.kind = 1 ∧ x.1.name ≠ name) := by
  rintro ⟨h1, h2⟩
  unfold newOther at h
  rw [h1, str_ne.2 h2] at h
  exact absurd h (by decide)
set_option maxRecDepth 100000 in
set_option maxHeartbeats 4000000 in
theorem houseApart_walk (A0 : Option Addr) (len cap : Nat) (zs : List DRow) (name : ByteArray) {w : World} (hl : DeedsIn w A0 len cap zs) (hn : name.size ≤ 140737488351232) (ht : Tab w) :
    Calls Tryd.prog 8 #[.slice A0 len cap, .string name] w fun e w' => e = .returned (.bool true) ∧ Below w.heap.size w w' := by
  have hlen : len ≤ 1954687338211 := by have := hl.2.2.1; omega
  have hba : Below w.heap.size w (w.alloc (Obj.cells #[.string name] 9)) := (Below.refl _ _).alloc (Nat.le_refl _) _
  have hx0 := Blk.new w 9 #[.string name]
  have hen := enters_of Tryd.func25 (by kernel_rfl) rfl
  have Ht := Lib.hid (fun (w1 : World) (hb : Below w.heap.size w w1) => ht.after hb)
  have Hhs := Lib.hid (houses_any _ (ht.after hba))
  have Hd := Lib.hid (fun (w1 : World) (hb : Below w.heap.size w w1) (x : DRow) (hx : x ∈ zs) => (show DeedAt w1 x.1 x.2.1 x.2.2 from by
    have h := hl.2.2.2.1 x hx
    exact ⟨(edsAt_of h.2.2.2.2).after hb, h.2.2.1, h.2.1⟩))
  have Hrd := Lib.hid (fun (w1 : World) (hb : Below w.heap.size w w1) => (show Reads w1 w1.heap.size A0 len 5 (zs.flatMap cDRow) from hl.2.1.after hb))
  have Hll := Lib.hid hl.1
  clear ht hl hn
  go_enter Tryd.func8, Tryd.ntmps8
  go_wp2_with fail
  refine Hhs.out.mono ?_
  rintro e w1 ⟨rfl, hb1⟩
  have hx1 := hx0.after hb1
  have hb1 := chain hb1 hba
  clear Hhs hx0 hba
  by_cases h5 : 5 < len
  case' pos =>
    have q5 : decide (5 < len) = true := decide_eq_true h5
    have q5' : decide ((5 : Int) < (len : Int)) = true := decide_eq_true (by omega)
    have C := Lib.hid (cloneDeed_any A0 len cap _ zs Hll.out (by omega) w1 (Hrd.out w1 hb1) (Nat.le_refl _))
    go_wp2_with fail
    refine C.out.mono ?_
    rintro e w2 ⟨A, c, rfl, hown2, hb2⟩
    have D := Lib.hid (deleteDeed_any 25 hen (.pointer (some ⟨w.heap.size, 0, none⟩)) w1 A len c zs (newOther name) Hll.out (by omega) w2 hb2 (OwnK.of_row hown2) (fun x wz hz => closeApart x w.heap.size name wz (hx1.after hz)))
    clear C hown2
    go_wp2_with fail
    refine D.out.mono ?_
    rintro e w3 ⟨n, rfl, hown3, hn3, hb3⟩
    have hx3 := hx1.after hb3
    have hb3 := chain hb3 hb1
    have hnl : n ≤ len := by rw [← hn3]; exact Nat.le_trans (List.length_filter_le _ _) (by rw [Hll.out]; exact Nat.le_refl _)
    have hrow : DRows w3 A n (zs.filter fun x => !newOther name x) := ⟨hn3, hown3.toReads, fun x hx => Hd.out w3 hb3 x (List.mem_filter.1 hx).1⟩
    have Hf : Hid (5 < len → ∀ x ∈ zs.filter fun x => !newOther name x, newOther name x = false) := Lib.hid fun _ x hx => by simpa using (List.mem_filter.1 hx).2
    have hstart : n ≤ 5 ∧ len ≤ 5 ∨ 5 < len := .inr h5
    clear D hown3 hn3 hb2 q5 q5' h5
    generalize (zs.filter fun x => !newOther name x) = l at *
  case' neg =>
    have q5 : decide (5 < len) = false := decide_eq_false h5
    have q5' : decide ((5 : Int) < (len : Int)) = false := decide_eq_false (by omega)
    obtain ⟨w3, hw3⟩ : ∃ w3, w3 = w1 := ⟨_, rfl⟩
    subst hw3
    obtain ⟨n, hn⟩ : ∃ n, n = len := ⟨_, rfl⟩
    obtain ⟨l, hl⟩ : ∃ l, l = zs := ⟨_, rfl⟩
    have hx3 := hx1
    have hb3 := hb1
    have hnl : n ≤ len := Nat.le_of_eq hn
    have hrow : DRows w3 A0 len zs := ⟨Hll.out, Hrd.out w3 hb1, fun x hx => Hd.out w3 hb1 x hx⟩
    have Hf : Hid (5 < len → ∀ x ∈ zs, newOther name x = false) := Lib.hid fun h => absurd h h5
    have hstart : n ≤ 5 ∧ len ≤ 5 ∨ 5 < len := .inl ⟨by omega, by omega⟩
    rw [← hn, ← hl] at hrow
    rw [← hl] at Hf
    clear h5
    go_wp2_with fail
    rw [← hn]
    clear hn hl q5 q5'
  all_goals
    have Hst := Lib.hid hstart
    have Hrow := Lib.hid hrow
    have Hb3 := Lib.hid hb3
    have Hx3 := Lib.hid hx3
    have Ht3 := Lib.hid (fun (w4 : World) (h : Below w3.heap.size w3 w4) => Ht.out _ (chain h hb3))
    have hln := hrow.1
    have Hln := Lib.hid hln
    clear hstart hrow hb3 hx3 Ht Hd Hrd Hll hb1 hx1 hln
    have N1 := Lib.hid (new_law (own := fun k => k) (w := w3) (based_self w3))
    go_wp2_with fail
    refine N1.out.mono ?_
    rintro e w4 ⟨rfl, own4, h4, _⟩
    have N2 := Lib.hid (pair_new (w2 := w4) h4)
    clear N1
    go_wp2_with fail
    refine N2.out.mono ?_
    rintro e w5 ⟨rfl, h5⟩
    obtain ⟨ga, hga⟩ : ∃ g, g = w3.heap.size := ⟨_, rfl⟩
    obtain ⟨gb, hgb⟩ : ∃ g, g = w4.heap.size := ⟨_, rfl⟩
    have hR0 : ApartR name len 0 [] [] := ⟨rfl, by
      rcases Hst.out with h | h
      · exact .inl ⟨Nat.le_refl _, Nat.le_refl _, h.2⟩
      · exact .inr ⟨h, fun p hp => absurd hp List.not_mem_nil, fun p hp => absurd hp List.not_mem_nil⟩⟩
    clear N2 h4
    go_wp2
    rw [← hga] at h5
    rw [← hgb] at h5
    simp only [← hga, ← hgb]
    clear hga hgb
    go_loopw [8, 9, 10, 11, 12, 32] (fun _ _ _ _ _ i wr => ∃ (k : Nat) (Pa Pb : List Pg), k ≤ n ∧ i = .int .i64 k ∧ Pair w3 ga Pa gb Pb wr ∧ ApartR name len k Pa Pb) (fun _ _ _ _ _ i _ => n - (intOf i).toNat)
    case atStart => exact ⟨0, [], [], Nat.zero_le _, rfl, h5, hR0⟩
    case round =>
      clear h5 hR0
      obtain ⟨k, Pa, Pb, hk, rfl, hpk, hR⟩ := hrel
      by_cases hlt : k < n
      · obtain ⟨b, o, d, Ad, cd, rfl, hx, hd, c0, c1, c2, c3, c4⟩ := drows_at Hrow.out hpk.lone.below k hlt
        have hfd := Lib.hid (fun h => newOther_no (Hf.out h _ (List.mem_of_getElem? hx)))
        have hba : Below wr.heap.size wr (wr.alloc (Obj.cells #[.int .i64 d.kind, .int .i64 d.n, .string d.name, .string d.text, .slice Ad d.edits.length cd] 25)) := (Below.refl _ _).alloc (Nat.le_refl _) _
        have hbd := Blk.new wr 25 #[.int .i64 d.kind, .int .i64 d.n, .string d.name, .string d.text, .slice Ad d.edits.length cd]
        have hpa := hpk.fresh hba
        have hsz : (wr.alloc (Obj.cells #[.int .i64 d.kind, .int .i64 d.n, .string d.name, .string d.text, .slice Ad d.edits.length cd] 25)).heap.size = wr.heap.size + 1 := by simp
        rw [hsz] at hpa
        have Hd := Lib.hid hd
        have D := hpa.do_ (Ht3.out _ hpa.pair.lone.below) d Ad cd (hd _ hpa.pair.lone.below)
        have D2 := fun (P' : List Pg) (w2 : World) (hp : PairK w3 ga P' gb Pb (fun b => wr.heap.size ≤ b ∧ b < wr.heap.size + 1) w2) => hp.swap.do_ (Ht3.out _ hp.pair.lone.below) d Ad cd (Hd.out _ hp.pair.lone.below)
        have hoka := hpk.lone.ok
        have hokb := hpk.swap.lone.ok
        have a0 := hbd.cell 0
        have a1 := hbd.cell 1
        have a2 := hbd.cell 2
        have a3 := hbd.cell 3
        have a4 := hbd.cell 4
        obtain ⟨Ra, hRa⟩ : ∃ R, houseD Pa d = R := ⟨_, rfl⟩
        obtain ⟨Rb, hRb⟩ : ∃ R, houseD Pb d = R := ⟨_, rfl⟩
        obtain ⟨T, E, Pa'⟩ := Ra
        obtain ⟨T', E', Pb'⟩ := Rb
        rw [hRa] at D
        rw [hRb] at D2
        have D := Lib.hid D
        have D2 := Lib.hid D2
        have HRa := Lib.hid hRa
        have HRb := Lib.hid hRb
        clear hba hpa hpk hd hx hsz hRa hRb
        by_cases hnm : d.name = name
        case neg =>
          have hR2 := apart_other hoka hR hnm hfd.out HRa.out
          have qn : (d.name.toList == name.toList) = false := str_ne.2 hnm
          clear hnm hoka hokb hR hfd D2
          go_wp2_with fail
          refine D.out.mono ?_
          rintro e w6 ⟨rfl, hp6, hk6⟩
          have hbd6 : Blk w6 wr.heap.size 25 #[.int .i64 d.kind, .int .i64 d.n, .string d.name, .string d.text, .slice Ad d.edits.length cd] := by unfold Blk; rw [hk6.block _ ⟨Nat.le_refl _, by omega⟩]; exact hbd
          have g2 := hbd6.cell 2
          have x0 := (Hx3.out.after hp6.pair.lone.below).cell 0
          have hp6' := hp6.pair
          clear D a0 a1 a2 a3 a4 hbd hbd6 hk6 hp6
          go_wp2
          first
            | go_quiet (fail)
              go_wp2
            | skip
          go_roundw
          case rel => exact ⟨k + 1, Pa', Pb, by omega, by go_num, by first | exact hp6' | exact hp6'.after ((Below.refl _ _).drew), hR2⟩
          case measure => simp only [intOf]; omega
        obtain ⟨rfl, rfl, hR2⟩ := apart_same hoka hokb (show k < len by omega) hR hnm HRa.out HRb.out
        have qn : (d.name.toList == name.toList) = true := str_eq.2 hnm
        clear hnm hoka hokb hR hfd
        go_wp2_with fail
        refine D.out.mono ?_
        rintro e w6 ⟨rfl, hp6, hk6⟩
        have hbd6 : Blk w6 wr.heap.size 25 #[.int .i64 d.kind, .int .i64 d.n, .string d.name, .string d.text, .slice Ad d.edits.length cd] := by unfold Blk; rw [hk6.block _ ⟨Nat.le_refl _, by omega⟩]; exact hbd
        have g0 := hbd6.cell 0
        have g1 := hbd6.cell 1
        have g2 := hbd6.cell 2
        have g3 := hbd6.cell 3
        have g4 := hbd6.cell 4
        have x0 := (Hx3.out.after hp6.pair.lone.below).cell 0
        clear D a0 a1 a2 a3 a4 hbd hbd6 hk6
        have D3 := Lib.hid (D2.out _ _ hp6)
        go_wp2_with fail
        refine D3.out.mono ?_
        rintro e w7 ⟨rfl, hp7, _⟩
        have q1 : (T'.toList == T'.toList) = true := by simp
        have q2 : (E' == E') = true := by simp
        have hp7' := hp7.swap.pair
        clear D2 D3 hp6 hp7 g0 g1 g2 g3 g4 x0
        go_wp2
        go_roundw
        case rel => exact ⟨k + 1, Pa', Pb', by omega, by go_num, hp7', hR2⟩
        case measure => simp only [intOf]; omega
      · obtain rfl : k = n := by omega
        clear hlt
        have heq := apart_end hR
        have hla := namesB_len Pa
        have hlb := namesB_len Pb
        have ha6 := hpk.lone.ok.few
        have hb6 := hpk.swap.lone.ok.few
        have hwr := chain hpk.lone.below Hb3.out
        have gX := Hx3.out.after hpk.lone.below
        have K1 : Hid (∀ W, Below wr.heap.size wr W → Calls Tryd.prog 14 #[.pointer (some ⟨ga, 0, none⟩)] W fun e W' => ∃ A c, e = .returned (.slice A Pa.length c) ∧ Reads W' W'.heap.size A Pa.length 1 ((namesB Pa).flatMap cStr) ∧ Below W.heap.size W W' ∧ Below wr.heap.size wr W') := Lib.hid fun W h => (names_lone (hpk.after h).lone).mono fun e W' ⟨A, c, h1, h2, h3⟩ => ⟨A, c, h1, h2.toReads, h3, chain h3 h⟩
        have K2 : Hid (∀ W, Below wr.heap.size wr W → Calls Tryd.prog 14 #[.pointer (some ⟨gb, 0, none⟩)] W fun e W' => ∃ A c, e = .returned (.slice A Pb.length c) ∧ Reads W' W'.heap.size A Pb.length 1 ((namesB Pb).flatMap cStr) ∧ Below W.heap.size W W' ∧ Below wr.heap.size wr W') := Lib.hid fun W h => (names_lone (hpk.after h).swap.lone).mono fun e W' ⟨A, c, h1, h2, h3⟩ => ⟨A, c, h1, h2.toReads, h3, chain h3 h⟩
        have C1 : Hid (∀ (W : World) (A : Option Addr) (c : Nat), Reads W W.heap.size A Pa.length 1 ((namesB Pa).flatMap cStr) → Calls Tryd.prog 22 #[.slice A Pa.length c, .string name] W fun e W' => e = .returned (.bool (hasB name (namesB Pa))) ∧ W = W') := Lib.hid fun W A c h => containsStr_any name A Pa.length c _ (namesB Pa) W (by omega) hla h
        have C2 : Hid (∀ (W : World) (A : Option Addr) (c : Nat), Reads W W.heap.size A Pb.length 1 ((namesB Pb).flatMap cStr) → Calls Tryd.prog 22 #[.slice A Pb.length c, .string name] W fun e W' => e = .returned (.bool (hasB name (namesB Pa))) ∧ W = W') := Lib.hid fun W A c h => by
          rw [← heq]
          exact containsStr_any name A Pb.length c _ (namesB Pb) W (by omega) hlb h
        have x0 := gX.cell 0
        have q1 : ∀ b : Bool, (b == b) = true := fun b => by simp
        clear heq hla hlb ha6 hb6 hR hpk
        generalize hasB name (namesB Pa) = B at *
        generalize (namesB Pa).flatMap cStr = La at *
        generalize (namesB Pb).flatMap cStr = Lb at *
        generalize Pa.length = na at *
        generalize Pb.length = nb at *
        go_wp2
        have hbw := Below.refl wr.heap.size wr
        go_region_held3 (fun w' => w'.cell? ⟨w.heap.size, 0, none⟩ = some (.string name)) (first | exact x0 | assumption)
          (first
            | (go_at_call 14; with_reducible refine (K1.out _ (first_drew hbw)).mono ?_; rintro e w8 ⟨A8, c8, rfl, r8, hb8, hb8'⟩; have x8 := (gX.after hb8').cell 0)
            | (go_at_call 22; with_reducible refine (C1.out _ A8 c8 r8).mono ?_; rintro e w10 ⟨rfl, rfl⟩)
            | (go_at_call 14; with_reducible refine (K2.out _ hb8').mono ?_; rintro e w9 ⟨A9, c9, rfl, r9, hb9, hb9'⟩; have x9 := (gX.after hb9').cell 0)
            | (go_at_call 22; with_reducible refine (C2.out _ A9 c9 r9).mono ?_; rintro e w11 ⟨rfl, rfl⟩))
        all_goals
          go_wp2
          go_ret
          exact ⟨by simp, chain hb9' hwr⟩
end Go.Proofs.YtigbnldmjafgmaaDoor

/- HouseApart: for every input the law returns true, and each argument reads afterwards as it read before. -/
namespace Go.Proofs.YtigbnldmjafgmaaDoor.houseApart
open Go.ChangeShapes Go.WideShapes Go.ChangeAt Go.RowKit
open Go.ChangeMaps (open_string shut_string)
set_option linter.unusedVariables false

theorem own : ownKnob Tryd.prog.godebug = none := by kernel_rfl
theorem laidOut : laidOutB Tryd.prog = true := by kernel_rfl

set_option maxRecDepth 100000 in
theorem lifted (os : Os) (started : os.Started) (H : Type) (enc : TypeId × Value → H) :
    ReturnsInHanded {} Tryd.checked os 8 .any (fun w args => (Rows.houseApartSpec.pre enc Tryd.prog Tryd.f8 Rows.houseApartRow.domain false w args ∧ laidMetH Tryd.prog Rows.houseApartRow.laid w) ∧ sizedMet enc Tryd.prog Tryd.f8 (OpenSpec.ofChange Rows.houseApartSpec) false w args)
      (Rows.houseApartSpec.post enc Tryd.prog Tryd.f8 false true false false) := by
  refine returnsInHanded_of_change_and (C := Tryd.checked) (X := fun w _ => laidMetH Tryd.prog Rows.houseApartRow.laid w) (fun _ _ _ hh h => h.of_heap hh) own started (by kernel_rfl) Tryd.func8
    (ChangeSpec.witness_shaped (enc := enc) (C := Tryd.checked) (os := os) (X := fun w _ => laidMetH Tryd.prog Rows.houseApartRow.laid w) false (World.laidAll Tryd.prog os Rows.houseApartRow.laid) #[.slice none 0 0, .string ByteArray.empty] 8 (World.laidAll_os _ _ _)
      (World.shaped_of_ZipB (by kernel_rfl) (by kernel_rfl)) (by kernel_rfl) (by kernel_rfl) (by kernel_rfl)
      (by rw [MakeChecks.laidMetH_plain _ _ _ (by kernel_rfl)]; exact laidMet_laidAll _ (by kernel_rfl) (by kernel_rfl))) ?_
  intro W base args ds gs before hval0 hW hcnd hsz0 hL _
  have hval : ∀ (j : Nat) t v, Tryd.f8.params[j]? = some t → args[j]? = some v → Value.okWide Tryd.prog W .any base t v := hval0
  have hsz : (DataW.weightsEach Tryd.prog (Tryd.f8.params.toList ++ Rows.houseApartSpec.plain.varTypes Tryd.prog) (ds ++ gs)).all (· ≤ reachBytes) = true := hsz0
  have hW' := hW
  obtain ⟨p, q, hA0, hV, rfl, hfz, hnd⟩ := hW
  have hA : DataW.TrodAll enc Tryd.prog W 0 (fun _ => true) true Tryd.f8.params.toList args.toList ds p := hA0
  rw [Tryd.params8] at hA hval hsz
  obtain ⟨v0, vs0, d0, ds0, p0, q0, hargs, rfl, rfl, h0, r0⟩ := trodAll_cons hA
  obtain ⟨v1, vs1, d1, ds1, p1, q1, rfl, rfl, rfl, h1, r1⟩ := trodAll_cons r0
  obtain ⟨rfl, rfl, rfl⟩ := trodAll_nil r1
  obtain rfl : args = #[v0, v1] := by cases args; simp_all
  obtain ⟨rfl, rfl⟩ := trodVars_none hV
  obtain ⟨a0, len0, cap0, rfl⟩ := okWide_slice Tryd.underlying22 (hval 0 22 v0 rfl rfl)
  have k0 := h0
  have lt0 : ∀ x ∈ p0, x.block < W.heap.size := by obtain ⟨m, hm⟩ := k0; exact DataW.trod_lt m _ _ _ hm
  obtain ⟨z0, w0⟩ : ∃ zs, DeedsIn W a0 len0 cap0 zs := deeds_in h0 lt0 (fun n hn => of_decide_eq_true (List.all_eq_true.1 hsz n (DataW.weights_mem_each (j := 0) rfl rfl n hn)))
  obtain ⟨a1, rfl, rfl, rfl, w1⟩ := open_string Tryd.underlying9 (hval 1 9 v1 rfl rfl) h1
  clear hA0 hval0
  have b1 : a1.size ≤ 140737488351232 := sized_string hsz (j := 1) rfl rfl
  have htab : Tab W := tab_of_laid hL (by kernel_rfl) (by kernel_rfl)
  refine (houseApart_walk a0 len0 cap0 z0 a1 w0 b1 (w := W) htab).mono fun e W' ⟨he, bel⟩ => ?_
  subst he
  exact ⟨_, rfl, _, _, _, [], _, [], hW', trodAll_mk1 (shut_bool Tryd.underlying4 _), (trodAll_cons_mk (Below.trod laidOut (by kernel_rfl) (of_decide_eq_true (by kernel_rfl)) k0 bel lt0) (trodAll_cons_mk (shut_string Tryd.underlying9 w1) trodAll_mk0)), rfl, bel.frame _, fun h => by cases h⟩

theorem holds : Rows.HouseApartSaid :=
  OpenClaim.holds_of_wide 8 Tryd.f8 rfl rfl rfl rfl rfl rfl rfl ⟨rfl, rfl, rfl, rfl, rfl⟩ rfl rfl rfl rfl rfl (by kernel_rfl) Tryd.func8 (by kernel_rfl)
    (of_decide_eq_true (by kernel_rfl)) (by unfold Func.isWrapper; first | (rw [if_pos (by decide +kernel)]; kernel_rfl) | (rw [if_neg (by decide +kernel)]; exact ⟨rfl, rfl⟩))
    (fun os started H enc _ => lifted os started H enc)
set_option maxRecDepth 100000 in
theorem card_holds : Rows.HouseApartCardSaid :=
  Claim7.holds_tied_plain_at .later [] Rows.houseApartCard.laidKinds true Rows.houseApartCard.stood.harness false
    holds (fun _ h => by cases h) (by kernel_rfl) (fun _ h => by cases h) houseApart_row_tie rfl ⟨rfl, rfl⟩ (by kernel_rfl) rfl
    (fun f fn hf hfn => by
      obtain rfl : f = 8 := Option.some.inj ((show Tryd.prog.funcNamed "quillward/quillkeep.HouseApart" = some 8 by kernel_rfl).symm.trans hf) |>.symm
      obtain rfl : fn = Tryd.f8 := (Option.some.inj (Tryd.func8.symm.trans hfn)).symm
      exact ⟨by kernel_rfl, fun j t ht => by
        have hall : (Tryd.f8.params.toList.all fun u => !Tryd.prog.wantsStandIn u) = true := by kernel_rfl
        exact (show Tryd.prog.wantsStandIn t = false by simpa using List.all_eq_true.1 hall t (by simpa using Array.mem_of_getElem? ht))⟩)
    (by kernel_rfl)
#print axioms card_holds
end Go.Proofs.YtigbnldmjafgmaaDoor.houseApart

