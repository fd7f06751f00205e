import Derived.Test.YtigbnldmjafgmaaDoorHouseG2
import Derived.Shelf.SlSortCmp.Whole1
import Derived.Test.YtigbnldmjafgmaaDoorProg
import Derived.Shelf.Small.Strs
import Derived.Lib.Bytealg
import Derived.Shelf.SlSortCmp.NoneTotal
import Derived.Test.YtigbnldmjafgmaaDoorLib
import Derived.Test.YtigbnldmjafgmaaDoorHouseG1
import Derived.Test.YtigbnldmjafgmaaDoorPlain
import Derived.Test.YtigbnldmjafgmaaDoorCheck
import Derived.IntWalk
import Derived.Test.YtigbnldmjafgmaaDoorRows
import Derived.Test.YtigbnldmjafgmaaDoorCards
import Derived.Test.YtigbnldmjafgmaaDoorTie
import Derived.WalkKit
import Derived.ProofKit
import Derived.OpenShut
import Derived.ShutString
import Derived.SizedLaws
import Derived.ChangeOld
import Derived.Below
import Derived.LaidMore
import Derived.Lay
import Derived.MakeChecks
import Derived.SevenTiedAt
import Derived.Stop.Joined
import Derived.Test.YtigbnldmjafgmaaDoorTab
import Derived.Test.YtigbnldmjafgmaaDoorArgs
/- Several texts in one: XHouseStepsP XHousePair XTopHouseP XLaidIntSort XLaidCompare XTurnP XIntSort XLaidIntSort0 XIntSort0 XOwnU XAppEq XTurnWalk XGoodT XTopWorks XTopHouse XTopHouseRow. -/
/- Plain: a text that was made is undone and redone. -/
namespace Go.Proofs.YtigbnldmjafgmaaDoor
open Go.RowKit
set_option linter.unusedVariables false

theorem textP_some {P : List Pg} {name : ByteArray} {p : Pg} (h : pageOf name P = some p) : textP P name = (p.t, true) := by unfold textP; rw [h]
theorem textP_none {P : List Pg} {name : ByteArray} (h : pageOf name P = none) : textP P name = (⟨#[]⟩, false) := by unfold textP; rw [h]
theorem oneD_some {full : Prop} [Decidable full] {p : Pg} {d : Dd} (hk : 2 ≤ d.kind ∧ d.kind ≤ 10) (h9 : d.kind ≠ 9) (hn : nameE d.name = 0) : oneD full (some p) d = ((pageD p d).1, (pageD p d).2.1, some (pageD p d).2.2) := by
  unfold oneD
  rw [if_neg (by omega), if_neg (by rw [hn]; decide)]
  show (if d.kind = 1 then _ else _) = _
  rw [if_neg (by omega), if_neg h9]
theorem oneD_none {full : Prop} [Decidable full] {d : Dd} (hk : 2 ≤ d.kind ∧ d.kind ≤ 10) : (oneD full none d).2.1 ≠ 0 := by
  unfold oneD
  rw [if_neg (by omega)]
  by_cases hn : nameE d.name ≠ 0
  · rw [if_pos hn]; exact hn
  · rw [if_neg hn]
    show (if d.kind = 1 then _ else _ : ByteArray × Int × Option Pg).2.1 ≠ 0
    rw [if_neg (by omega)]
    decide
theorem make_zero {p : Pg} {text : ByteArray} (h : (makeP p text).1 = 0) : ∃ l, checkE p.t.size l = 0 ∧ makeP p text = (0, { p with t := text, B := (p.B ++ [p.t]).drop (p.B.length + 1 - 30), O := [], H := p.H ++ [(101 :: writeL l, text)] }) := by
  unfold makeP at h ⊢
  by_cases h0 : ce p.t text ≠ 0
  · rw [if_pos h0] at h; exact absurd (show (2 : Int) = 0 from h) (by decide)
  rw [if_neg h0] at h ⊢
  by_cases h20 : 20 < cv p.t text
  · rw [if_pos h20] at h; exact absurd (show (11 : Int) = 0 from h) (by decide)
  rw [if_neg h20] at h ⊢
  have hz : ce p.t text = 0 := by simpa using h0
  obtain ⟨m1, m2, _⟩ := makes_law p.t text hz (by omega)
  unfold editP at h ⊢
  by_cases hl : makeE p.t text = []
  · rw [if_pos hl] at h; exact absurd (show (5 : Int) = 0 from h) (by decide)
  rw [if_neg hl] at h ⊢
  by_cases hE : leafE p.t p.H (makeE p.t text) ≠ 0
  · rw [if_pos hE] at h; exact absurd h hE
  rw [if_neg hE]
  have hE0 : leafE p.t p.H (makeE p.t text) = 0 := by simpa using hE
  have e2 : leafT p.t p.H (makeE p.t text) = text := by unfold leafT; rw [if_pos hE0]; exact m2
  have e3 : leafH p.t p.H (makeE p.t text) = p.H ++ [(101 :: writeL (makeE p.t text), text)] := by unfold leafH; rw [if_pos hE0, e2]
  exact ⟨makeE p.t text, m1, by rw [e2, e3]⟩
theorem last_back {B : List ByteArray} {t : ByteArray} (h : B.length ≤ 30) : (B ++ [t]).drop (B.length + 1 - 30) ≠ [] ∧ ((B ++ [t]).drop (B.length + 1 - 30)).getLastD ⟨#[]⟩ = t := by
  have e : (B ++ [t]).drop (B.length + 1 - 30) = B.drop (B.length + 1 - 30) ++ [t] := by rw [List.drop_append_of_le_length (by omega)]
  rw [e]
  exact ⟨by simp, by rw [List.getLastD_concat]⟩

theorem steps_no {P : List Pg} (hP : HOk P) (name text : ByteArray) (h : (houseD P (dd 10 0 name text)).2.1 ≠ 0 ∨ (textP P name).2 = false) : (houseD P (dd 10 0 name text)).2.1 ≠ 0 ∧ (houseD P (dd 10 0 name text)).2.2 = P := by
  have ho := house_one hP (dd 10 0 name text)
  have key : (houseD P (dd 10 0 name text)).2.1 ≠ 0 := by
    rcases h with h | h
    · exact h
    · rw [ho.err]
      have hnone : pageOf name P = none := by
        cases hp : pageOf name P with
        | none => rfl
        | some p => rw [textP_some hp] at h; cases h
      show (oneD (P.length = 6) (pageOf name P) (dd 10 0 name text)).2.1 ≠ 0
      rw [hnone]
      exact oneD_none ⟨by show (2 : Int) ≤ 10; decide, by show (10 : Int) ≤ 10; decide⟩
  exact ⟨key, ho.same (by rw [← ho.err]; exact key)⟩
theorem steps_yes {P : List Pg} (hP : HOk P) (hpg : ∀ p ∈ P, p.Ok) (name text : ByteArray) {P1 P2 P3 : List Pg} {T1 T2 T3 : ByteArray} {E2 E3 : Int} (h1 : houseD P (dd 10 0 name text) = (T1, 0, P1)) (h2 : houseD P1 (dd 3 0 name ⟨#[]⟩) = (T2, E2, P2)) (h3 : houseD P2 (dd 4 0 name ⟨#[]⟩) = (T3, E3, P3)) :
    (textP P name).2 = true ∧ textP P1 name = (text, true) ∧ (E2 = 11 ∨ (E2 = 0 ∧ textP P2 name = ((textP P name).1, true) ∧ ((E3 = 0 ∧ textP P3 name = (text, true)) ∨ (E3 = 11 ∧ textP P3 name = ((textP P name).1, true))))) := by
  have ho := house_one hP (dd 10 0 name text)
  rw [h1] at ho
  have hk10 : 2 ≤ (dd 10 0 name text).kind ∧ (dd 10 0 name text).kind ≤ 10 := ⟨by show (2 : Int) ≤ 10; decide, by show (10 : Int) ≤ 10; decide⟩
  have hk3 : 2 ≤ (dd 3 0 name ⟨#[]⟩).kind ∧ (dd 3 0 name ⟨#[]⟩).kind ≤ 10 := ⟨by show (2 : Int) ≤ 3; decide, by show (3 : Int) ≤ 10; decide⟩
  have hk4 : 2 ≤ (dd 4 0 name ⟨#[]⟩).kind ∧ (dd 4 0 name ⟨#[]⟩).kind ≤ 10 := ⟨by show (2 : Int) ≤ 4; decide, by show (4 : Int) ≤ 10; decide⟩
  cases hp : pageOf name P with
  | none =>
    exfalso
    have e := ho.err
    have hq : pageOf (dd 10 0 name text).name P = none := hp
    rw [hq] at e
    exact oneD_none hk10 e.symm
  | some p =>
    have hpm := pageOf_mem hp
    have hpo := hpg p hpm
    have hn : nameE name = 0 := by rw [← (pageOf_some hp).1]; exact hP.nm p hpm
    have hq : pageOf (dd 10 0 name text).name P = some p := hp
    rw [hq, oneD_some hk10 (by show (10 : Int) ≠ 9; decide) hn, pageD10 (show (dd 10 0 name text).kind = 10 from rfl)] at ho
    have e1 : (makeP p text).1 = 0 := ho.err.symm
    obtain ⟨l, _, hm⟩ := make_zero e1
    have hp1 : pageOf name P1 = some (makeP p text).2 := ho.page
    rw [hm] at hp1
    refine ⟨by rw [textP_some hp], by rw [textP_some hp1], ?_⟩
    have ho2 := house_one ho.ok (dd 3 0 name ⟨#[]⟩)
    have hq2 : pageOf (dd 3 0 name ⟨#[]⟩).name P1 = _ := hp1
    rw [h2] at ho2
    have hlb := last_back (t := p.t) (show p.B.length ≤ 30 by have := hpo.few; omega)
    have hb := ho2
    rw [hq2, oneD_some hk3 (by show (3 : Int) ≠ 9; decide) hn, pageD3 (show (dd 3 0 name ⟨#[]⟩).kind = 3 from rfl)] at hb
    unfold backP at hb
    by_cases hf : fits (p.H ++ [(101 :: writeL l, text)]) (((p.B ++ [p.t]).drop (p.B.length + 1 - 30)).getLastD ⟨#[]⟩)
    · rw [if_neg hlb.1, if_pos hf] at hb
      have e2 : E2 = 0 := hb.err
      have hp2 : pageOf name P2 = some _ := hb.page
      right
      refine ⟨e2, ?_, ?_⟩
      · rw [textP_some hp2, textP_some hp]
        exact Prod.ext hlb.2 rfl
      have hq3 : pageOf (dd 4 0 name ⟨#[]⟩).name P2 = _ := hp2
      have ho3 := house_one ho2.ok (dd 4 0 name ⟨#[]⟩)
      rw [h3] at ho3
      have hb3 := ho3
      rw [hq3, oneD_some hk4 (by show (4 : Int) ≠ 9; decide) hn, pageD4 (show (dd 4 0 name ⟨#[]⟩).kind = 4 from rfl)] at hb3
      unfold onP at hb3
      rw [if_neg (by simp)] at hb3
      split at hb3
      · left
        refine ⟨hb3.err, ?_⟩
        rw [textP_some (show pageOf name P3 = some _ from hb3.page)]
        rfl
      · right
        have e3 : E3 = 11 := hb3.err
        refine ⟨e3, ?_⟩
        rw [textP_some (show pageOf name P3 = some _ from hb3.page), textP_some hp]
        exact Prod.ext hlb.2 rfl
    · rw [if_neg hlb.1, if_neg hf] at hb
      exact .inl hb.err
end Go.Proofs.YtigbnldmjafgmaaDoor

/- Two houses in a law, beside blocks of others. -/
namespace Go.Proofs.YtigbnldmjafgmaaDoor
open Go.RowKit
set_option linter.unusedVariables false

theorem Pair.mk {w0 w w' : World} {own1 own2 : Nat → Nat} {ga gb : Nat} {Qa Qb : List (Pl × Pg)} {Pa Pb : List Pg} (h1 : InLaw w0 own1 w ga Qa Pa) (h2 : InLaw w own2 w' gb Qb Pb) (hs : ∀ k, k < w.heap.size → own2 k = own1 k) : Pair w0 ga Pa gb Pb w' := by
  have hG : Goes own1 own2 (fun _ => False) w w' := ⟨h2.below.os, h2.below.tape, h2.below.output, h2.below.size, fun k hk _ => h2.below.block k hk, hs⟩
  have hsz := h1.below.size
  have g1 := h1.apart hG (fun _ _ h => h) (fun _ h => h.elim) h2.based
  refine ⟨own2, Qa, Qb, g1, ⟨g1.below, h2.house, h2.pages, h2.ok, h2.based, g1.low, fun i hi => Nat.le_trans hsz (h2.ids i hi)⟩, fun i hi hj => ?_⟩
  have := h1.house.lt i hi
  have := h2.ids i hj
  omega
theorem based_self (w : World) : Based (fun k => k) w := fun k hk => hk
/-- Two houses, and blocks that are not theirs. -/
def PairK (w0 : World) (ga : Nat) (Pa : List Pg) (gb : Nat) (Pb : List Pg) (K : Nat → Prop) (w : World) : Prop :=
  ∃ own Qa Qb, InLaw w0 own w ga Qa Pa ∧ InLaw w0 own w gb Qb Pb ∧ (∀ i ∈ idsH ga Qa, i ∉ idsH gb Qb) ∧ ∀ b, K b → b < w.heap.size ∧ own b ∉ idsH ga Qa ∧ own b ∉ idsH gb Qb
theorem PairK.pair {w0 w : World} {ga gb : Nat} {Pa Pb : List Pg} {K : Nat → Prop} (h : PairK w0 ga Pa gb Pb K w) : Pair w0 ga Pa gb Pb w := by
  obtain ⟨own, Qa, Qb, h1, h2, h3, _⟩ := h
  exact ⟨own, Qa, Qb, h1, h2, h3⟩
theorem PairK.swap {w0 w : World} {ga gb : Nat} {Pa Pb : List Pg} {K : Nat → Prop} (h : PairK w0 ga Pa gb Pb K w) : PairK w0 gb Pb ga Pa K w := by
  obtain ⟨own, Qa, Qb, h1, h2, h3, h4⟩ := h
  exact ⟨own, Qb, Qa, h2, h1, fun i hi hj => h3 i hj hi, fun b hb => ⟨(h4 b hb).1, (h4 b hb).2.2, (h4 b hb).2.1⟩⟩
theorem Pair.fresh {w0 w w' : World} {ga gb : Nat} {Pa Pb : List Pg} (h : Pair w0 ga Pa gb Pb w) (hb : Below w.heap.size w w') : PairK w0 ga Pa gb Pb (fun b => w.heap.size ≤ b ∧ b < w'.heap.size) w' := by
  obtain ⟨own, Qa, Qb, h1, h2, h3⟩ := h
  have l1 := h1.house.lt
  have l2 := h2.house.lt
  refine ⟨_, Qa, Qb, h1.after hb, h2.after hb, h3, fun b ⟨g1, g2⟩ => ⟨g2, fun hi => ?_, fun hi => ?_⟩⟩
  · unfold newO at hi
    rw [if_neg (by omega)] at hi
    have := l1 b hi
    omega
  · unfold newO at hi
    rw [if_neg (by omega)] at hi
    have := l2 b hi
    omega
theorem PairK.do_ {w0 w : World} {ga gb : Nat} {Pa Pb : List Pg} {K : Nat → Prop} (h : PairK w0 ga Pa gb Pb K w) (ht : Tab w) (d : Dd) (Ad : Option Addr) (cd : Nat) (hd : DeedAt w d Ad cd) :
    Calls Tryd.prog 12 #[.pointer (some ⟨ga, 0, none⟩), .agg (cDeed d Ad cd)] w fun e w' => e = .returned (.tuple #[.string (houseD Pa d).1, .int .i64 (houseD Pa d).2.1]) ∧ PairK w0 ga (houseD Pa d).2.2 gb Pb K w' ∧ Kept K w w' := by
  obtain ⟨own, Qa, Qb, h1, h2, h3, h4⟩ := h
  refine (do_law h1 ht d Ad cd hd).mono fun e w' ⟨he, own', Qa', g1, g2, g3⟩ => ⟨he, ⟨own', Qa', Qb, g1, h2.apart g2 (fun k hk hs => h3 k hs hk) h1.ids g1.based, fun i hi hj => ?_, fun b hb => ?_⟩, g2.os, g2.tape, g2.output, g2.size, fun b hb => g2.block b (h4 b hb).1 (h4 b hb).2.1⟩
  · rcases g3 i hi with h | h
    · exact h3 i h hj
    · have := h2.house.lt i hj
      omega
  · obtain ⟨k1, k2, k3⟩ := h4 b hb
    rw [g2.same b k1]
    refine ⟨Nat.lt_of_lt_of_le k1 g2.size, fun hi => ?_, k3⟩
    rcases g3 _ hi with h | h
    · exact k2 h
    · have := h1.based b k1
      omega
theorem deeds_row {w w' : World} {A : Option Addr} {len cap : Nat} {l : List DRow} (h : DeedsIn w A len cap l) (hb : Below w.heap.size w w') {k : Nat} {d : Dd} {Ad : Option Addr} {cd : Nat} (hk : l[k]? = some (d, Ad, cd)) : DeedAt w' d Ad cd := by
  have hx := h.2.2.2.1 _ (List.mem_of_getElem? hk)
  exact ⟨(edsAt_of hx.2.2.2.2).after hb, hx.2.2.1, hx.2.1⟩
end Go.Proofs.YtigbnldmjafgmaaDoor

/- A house of one page and an editor beside it. -/
namespace Go.Proofs.YtigbnldmjafgmaaDoor
open Go.RowKit
set_option linter.unusedVariables false

def one3 : ByteArray := ⟨#[111, 110, 101]⟩
theorem one3_ok : nameE one3 = 0 := by decide +kernel
theorem hok_one {p : Pg} (h : p.name = one3) : HOk [p] := ⟨by show 1 ≤ 6; decide, by simp, fun q hq => by rw [List.mem_singleton.1 hq, h]; exact one3_ok⟩
theorem houseD_single {p : Pg} {d : Dd} (hn : p.name = one3) (hd : d.name = one3) (hk : 2 ≤ d.kind ∧ d.kind ≤ 10) (h9 : d.kind ≠ 9) : houseD [p] d = ((pageD p d).1, (pageD p d).2.1, [(pageD p d).2.2]) := by
  have h1 : nameE d.name = 0 := by rw [hd]; exact one3_ok
  have h2 : placeN d.name [p] 0 = 0 := by unfold placeN; rw [if_pos (by rw [hn, hd])]; rfl
  unfold houseD
  rw [if_neg (by omega), if_neg (by rw [h1]; decide), if_neg (by omega), h2, if_neg (by decide), if_neg h9]
  rfl
theorem houseD_first (s : ByteArray) : houseD [] (dd 1 0 one3 s) = if 200 < s.size then (⟨#[]⟩, 2, []) else (⟨#[]⟩, 0, [newP one3 s]) := by
  obtain ⟨d, hd⟩ : ∃ d, dd 1 0 one3 s = d := ⟨_, rfl⟩
  have hk : d.kind = 1 := by rw [← hd]; rfl
  have hn : d.name = one3 := by rw [← hd]; rfl
  have htx : d.text = s := by rw [← hd]; rfl
  rw [hd]
  unfold houseD
  rw [if_neg (by omega), hn, if_neg (by rw [one3_ok]; decide), if_pos hk, if_neg (show ¬ (0 : Int) ≤ placeN one3 [] 0 by decide), if_neg (by decide), htx]
  rfl
/-- A page that is saved or packed, and then crashes with nothing kept beyond, is the same text. -/
theorem save_crash {p : Pg} (hp : p.Ok) : ∃ q, crashP (saveP p) 0 = (0, q) ∧ q.t = p.t ∧ q.name = p.name := by
  have hj : safeN (saveP p) = (framesL (recs p.H)).length := by
    unfold safeN saveP
    show (framesL ((recs p.H).take p.H.length)).length = _
    rw [List.take_of_length_le (by rw [recs_len]; exact Nat.le_refl _)]
  have hH : (saveP p).H = p.H := rfl
  unfold crashP
  rw [if_neg (by rw [hj, hH]; omega), hj, hH]
  have hw := wholeI_to p.H ((framesL (recs p.H)).length + (0 : Int).toNat)
  have hi : wholeI p.H ((framesL (recs p.H)).length + (0 : Int).toNat) = p.H.length := hw.all
  rw [hi]
  refine ⟨_, rfl, ?_, rfl⟩
  show endT ⟨#[]⟩ (p.H.take p.H.length) = p.t
  rw [List.take_length]
  exact hp.end_.symm
theorem pack_zero (p : Pg) : packP p 0 = (0, { p with H := [(98 :: p.t.data.toList, p.t)], j := 1 }) := by
  unfold packP
  rw [if_neg (by decide), if_neg (by decide), if_pos rfl]
theorem pack_crash (p : Pg) : ∃ q, crashP { p with H := [(98 :: p.t.data.toList, p.t)], j := 1 } 0 = (0, q) ∧ q.t = p.t ∧ q.name = p.name := by
  have hj : safeN { p with H := [(98 :: p.t.data.toList, p.t)], j := 1 } = (framesL (recs [(98 :: p.t.data.toList, p.t)])).length := by
    unfold safeN
    rw [List.take_of_length_le (by rw [recs_len]; exact Nat.le_refl _)]
  unfold crashP
  rw [if_neg (by rw [hj]; show ¬ ((0 : Int) < 0 ∨ ((framesL (recs [(98 :: p.t.data.toList, p.t)])).length : Int) - _ < 0); omega), hj]
  have hw := wholeI_to [(98 :: p.t.data.toList, p.t)] ((framesL (recs [(98 :: p.t.data.toList, p.t)])).length + (0 : Int).toNat)
  have hi : wholeI [(98 :: p.t.data.toList, p.t)] ((framesL (recs [(98 :: p.t.data.toList, p.t)])).length + (0 : Int).toNat) = 1 := hw.all
  refine ⟨_, rfl, ?_, rfl⟩
  show endT ⟨#[]⟩ ([(98 :: p.t.data.toList, p.t)].take (wholeI [(98 :: p.t.data.toList, p.t)] ((framesL (recs [(98 :: p.t.data.toList, p.t)])).length + (0 : Int).toNat))) = p.t
  rw [hi]
  rfl

/-- A house, an editor that is not its own, and blocks of others. -/
def HouseEd (w0 : World) (gh : Nat) (P : List Pg) (ge : Nat) (t : ByteArray) (B O : List ByteArray) (K : Nat → Prop) (w : World) : Prop :=
  ∃ own Q, InLaw w0 own w gh Q P ∧ EdIn own w ge t B O ∧ ge ∉ idsH gh Q ∧ w0.heap.size ≤ ge ∧ ∀ b, K b → b < w.heap.size ∧ own b ∉ idsH gh Q ∧ own b ≠ ge
section
variable {w0 w w' : World} {gh ge : Nat} {P P' : List Pg} {t : ByteArray} {B O : List ByteArray} {K : Nat → Prop}
theorem HouseEd.lone (h : HouseEd w0 gh P ge t B O K w) : Lone w0 gh P w := by obtain ⟨o, Q, h, _⟩ := h; exact ⟨o, Q, h⟩
theorem HouseEd.at_ (h : HouseEd w0 gh P ge t B O K w) : ∃ K', EdAt w K' ge t B O := by obtain ⟨o, Q, _, h, _⟩ := h; exact ⟨_, h⟩
theorem HouseEd.forget (h : HouseEd w0 gh P ge t B O K w) : HouseEd w0 gh P ge t B O (fun _ => False) w := by
  obtain ⟨o, Q, h1, h2, h3, h4, _⟩ := h
  exact ⟨o, Q, h1, h2, h3, h4, fun b hb => hb.elim⟩
theorem HouseEd.fresh (h : HouseEd w0 gh P ge t B O K w) (hb : Below w.heap.size w w') : HouseEd w0 gh P ge t B O (fun b => w.heap.size ≤ b ∧ b < w'.heap.size) w' := by
  obtain ⟨o, Q, h1, h2, h3, h4, _⟩ := h
  have hlt := h1.house.lt
  have hge := h2.lt
  refine ⟨_, Q, h1.after hb, h2.apart (newO_goes (S := fun _ => False) hb) (fun h => h), h3, h4, fun b ⟨g1, g2⟩ => ⟨g2, fun hi => ?_, fun hi => ?_⟩⟩
  · unfold newO at hi
    rw [if_neg (by omega)] at hi
    have := hlt b hi
    omega
  · unfold newO at hi
    rw [if_neg (by omega)] at hi
    omega
theorem HouseEd.stay (h : HouseEd w0 gh P ge t B O K w) (hb : Below w.heap.size w w') : HouseEd w0 gh P ge t B O K w' := by
  obtain ⟨o, Q, h1, h2, h3, h4, h5⟩ := h
  refine ⟨_, Q, h1.after hb, h2.apart (newO_goes (S := fun _ => False) hb) (fun h => h), h3, h4, fun b hk => ?_⟩
  obtain ⟨k1, k2, k3⟩ := h5 b hk
  unfold newO
  rw [if_pos k1]
  exact ⟨Nat.lt_of_lt_of_le k1 hb.size, k2, k3⟩
theorem HouseEd.do_ (h : HouseEd w0 gh P ge t B O K w) (ht : Tab w) (d : Dd) (Ad : Option Addr) (cd : Nat) (hd : DeedAt w d Ad cd) :
    Calls Tryd.prog 12 #[.pointer (some ⟨gh, 0, none⟩), .agg (cDeed d Ad cd)] w fun e w' => e = .returned (.tuple #[.string (houseD P d).1, .int .i64 (houseD P d).2.1]) ∧ HouseEd w0 gh (houseD P d).2.2 ge t B O K w' ∧ Kept K w w' := by
  obtain ⟨own, Q, h1, h2, h3, h4, h5⟩ := h
  refine (do_law h1 ht d Ad cd hd).mono fun e w' ⟨he, own', Q', g1, g2, g3⟩ => ⟨he, ⟨own', Q', g1, h2.apart g2 h3, fun hi => ?_, h4, fun b hb => ?_⟩, g2.os, g2.tape, g2.output, g2.size, fun b hb => g2.block b (h5 b hb).1 (h5 b hb).2.1⟩
  · rcases g3 _ hi with h | h
    · exact h3 h
    · have := h2.lt
      omega
  · obtain ⟨k1, k2, k3⟩ := h5 b hb
    rw [g2.same b k1]
    refine ⟨Nat.lt_of_lt_of_le k1 g2.size, fun hi => ?_, k3⟩
    rcases g3 _ hi with h | h
    · exact k2 h
    · have := h1.based b k1
      omega
/-- The editor's own step. -/
theorem HouseEd.step {F : Nat} {args : Array Value} {E : Ending} {t' : ByteArray} {B' O' : List ByteArray} (h : HouseEd w0 gh P ge t B O K w)
    (hs : ∀ K1 : Nat → Prop, (∀ k, K1 k → k < w.heap.size) → EdAt w K1 ge t B O → Calls Tryd.prog F args w fun e w' => e = E ∧ EdAt w' K1 ge t' B' O' ∧ Kept K1 w w') :
    Calls Tryd.prog F args w fun e w' => e = E ∧ HouseEd w0 gh P ge t' B' O' K w' ∧ Kept K w w' := by
  obtain ⟨own, Q, h1, h2, h3, h4, h5⟩ := h
  refine (hs _ (fun k hk => hk.1) h2).mono fun e w' ⟨he, hed, hk⟩ => ?_
  obtain ⟨g1, g2⟩ := EdIn.kept hed hk
  have hlt := h2.lt
  refine ⟨he, ⟨_, Q, h1.apart g2 (fun k hk1 hk2 => h3 (by rw [← hk2]; exact hk1)) (fun k hk1 => by rw [hk1]; exact h4) (fun k hk1 => ?_), g1, h3, h4, fun b hb => ?_⟩, hk.os, hk.tape, hk.output, hk.size, fun b hb => hk.block b ⟨(h5 b hb).1, (h5 b hb).2.2⟩⟩
  · unfold updO
    split
    · exact Nat.lt_of_lt_of_le hlt hk.size
    · exact Nat.lt_of_lt_of_le (h1.based k (by omega)) hk.size
  · obtain ⟨k1, k2, k3⟩ := h5 b hb
    rw [updO_lt own k1]
    exact ⟨Nat.lt_of_lt_of_le k1 hk.size, k2, k3⟩
/-- An editor that has just been made. -/
theorem HouseEd.new (h : Lone w0 gh P w) (hed : EdAt w' (fun k => k < w.heap.size) w.heap.size t B O) (hb : Below w.heap.size w w') : HouseEd w0 gh P w.heap.size t B O (fun _ => False) w' := by
  obtain ⟨own, Q, h⟩ := h
  have hlt := h.house.lt
  have hed2 : EdIn (updO own w.heap.size w.heap.size) w' w.heap.size t B O := EdAt.weak hed fun k ⟨h1, h2⟩ => .inl (by
    rcases Nat.lt_or_ge k w.heap.size with h | h
    · exact h
    · exact absurd (updO_ge own h) h2)
  refine ⟨_, Q, h.apart (Goes.of_belowU (S := fun _ => False) hb _) (fun _ _ h => h) (fun _ h => h.elim) (fun k hk => ?_), hed2, fun hi => ?_, h.below.size, fun b hb => hb.elim⟩
  · unfold updO
    split
    · exact hed.lt
    · exact Nat.lt_of_lt_of_le (h.based k (by omega)) hb.size
  · have := hlt _ hi
    omega
end
end Go.Proofs.YtigbnldmjafgmaaDoor

/- IntSort: contracts of the library laid at this program: the tables of numbers and the facts that they ask. -/
namespace Go.Proofs.YtigbnldmjafgmaaDoor
open Go.RowKit
set_option linter.unusedVariables false

def layIntSort_ren : Go.Shelf.Ren := ⟨fun | 6 => 73 | 15 => 68 | 14 => 94 | 28 => 92 | 29 => 93 | 20 => 105 | 21 => 106 | 22 => 107 | 23 => 108 | 24 => 109 | 25 => 110 | 26 => 111 | 27 => 112 | 46 => 116 | 47 => 100 | 48 => 101 | 49 => 117 | 50 => 118 | 57 => 120 | n => n, fun | 22 => 100 | 24 => 3 | 25 => 114 | 3 => 3 | 39 => 107 | 0 => 0 | 53 => 109 | 55 => 133 | 4 => 4 | 46 => 124 | 45 => 123 | 50 => 129 | 5 => 5 | 9 => 9 | 66 => 138 | 70 => 142 | 76 => 149 | 77 => 76 | n => n, fun | n => n⟩
theorem layIntSort : Go.Proofs.SlLaysF.n6 Tryd.prog layIntSort_ren := {
  mixed := by kernel_rfl,
  f6 := ⟨Tryd.f73.name, by decide, Tryd.func73.trans (congrArg some (by kernel_rfl))⟩,
  f14 := ⟨Tryd.f94.name, by decide, Tryd.func94.trans (congrArg some (by kernel_rfl))⟩,
  f15 := Tryd.func68.trans (congrArg some (by kernel_rfl)),
  f20 := ⟨Tryd.f105.name, by decide, Tryd.func105.trans (congrArg some (by kernel_rfl))⟩,
  f21 := ⟨Tryd.f106.name, by decide, Tryd.func106.trans (congrArg some (by kernel_rfl))⟩,
  f22 := ⟨Tryd.f107.name, by decide, Tryd.func107.trans (congrArg some (by kernel_rfl))⟩,
  f23 := ⟨Tryd.f108.name, by decide, Tryd.func108.trans (congrArg some (by kernel_rfl))⟩,
  f24 := ⟨Tryd.f109.name, by decide, Tryd.func109.trans (congrArg some (by kernel_rfl))⟩,
  f25 := ⟨Tryd.f110.name, by decide, Tryd.func110.trans (congrArg some (by kernel_rfl))⟩,
  f26 := ⟨Tryd.f111.name, by decide, Tryd.func111.trans (congrArg some (by kernel_rfl))⟩,
  f27 := ⟨Tryd.f112.name, by decide, Tryd.func112.trans (congrArg some (by kernel_rfl))⟩,
  f28 := Tryd.func92.trans (congrArg some (by kernel_rfl)),
  f29 := Tryd.func93.trans (congrArg some (by kernel_rfl)),
  f46 := ⟨Tryd.f116.name, by decide, Tryd.func116.trans (congrArg some (by kernel_rfl))⟩,
  f47 := Tryd.func100.trans (congrArg some (by kernel_rfl)),
  f48 := Tryd.func101.trans (congrArg some (by kernel_rfl)),
  f49 := ⟨Tryd.f117.name, by decide, Tryd.func117.trans (congrArg some (by kernel_rfl))⟩,
  f50 := ⟨Tryd.f118.name, by decide, Tryd.func118.trans (congrArg some (by kernel_rfl))⟩,
  f57 := ⟨Tryd.f120.name, by decide, Tryd.func120.trans (congrArg some (by kernel_rfl))⟩,
  t0 := Tryd.underlying0,
  a0 := Tryd.isAgg0,
  z0 := Tryd.sizeOf0,
  v0 := Tryd.zeroValue0,
  t3 := Tryd.underlying3,
  a3 := Tryd.isAgg3,
  z3 := Tryd.sizeOf3,
  v3 := Tryd.zeroValue3,
  t4 := Tryd.underlying4,
  a4 := Tryd.isAgg4,
  z4 := Tryd.sizeOf4,
  v4 := Tryd.zeroValue4,
  t5 := Tryd.underlying5,
  a5 := Tryd.isAgg5,
  z5 := Tryd.sizeOf5,
  v5 := Tryd.zeroValue5,
  t9 := Tryd.underlying9,
  a9 := Tryd.isAgg9,
  z9 := Tryd.sizeOf9,
  v9 := Tryd.zeroValue9,
  t22 := Tryd.underlying100,
  a22 := Tryd.isAgg100,
  z22 := Tryd.sizeOf100,
  v22 := Tryd.zeroValue100,
  a24 := Tryd.isAgg3,
  z24 := Tryd.sizeOf3,
  t25 := Tryd.underlying114,
  a25 := Tryd.isAgg114,
  z25 := Tryd.sizeOf114,
  v25 := Tryd.zeroValue114,
  t39 := Tryd.underlying107,
  a39 := Tryd.isAgg107,
  z39 := Tryd.sizeOf107,
  v39 := Tryd.zeroValue107,
  t45 := Tryd.underlying123,
  a45 := Tryd.isAgg123,
  z45 := Tryd.sizeOf123,
  v45 := Tryd.zeroValue123,
  t46 := Tryd.underlying124,
  a46 := Tryd.isAgg124,
  z46 := Tryd.sizeOf124,
  v46 := Tryd.zeroValue124,
  t50 := Tryd.underlying129,
  a50 := Tryd.isAgg129,
  z50 := Tryd.sizeOf129,
  v50 := Tryd.zeroValue129,
  t53 := Tryd.underlying109,
  a53 := Tryd.isAgg109,
  z53 := Tryd.sizeOf109,
  v53 := Tryd.zeroValue109,
  t55 := Tryd.underlying133,
  a55 := Tryd.isAgg133,
  z55 := Tryd.sizeOf133,
  v55 := Tryd.zeroValue133,
  t66 := Tryd.underlying138,
  a66 := Tryd.isAgg138,
  z66 := Tryd.sizeOf138,
  v66 := Tryd.zeroValue138,
  t70 := Tryd.underlying142,
  a70 := Tryd.isAgg142,
  z70 := Tryd.sizeOf142,
  v70 := Tryd.zeroValue142,
  t76 := Tryd.underlying149,
  a76 := Tryd.isAgg149,
  z76 := Tryd.sizeOf149,
  v76 := Tryd.zeroValue149,
  t77 := Tryd.underlying76,
  a77 := Tryd.isAgg76,
  z77 := Tryd.sizeOf76,
  v77 := Tryd.zeroValue76 }

end Go.Proofs.YtigbnldmjafgmaaDoor

/- Compare: contracts of the library laid at this program: the tables of numbers and the facts that they ask. -/
namespace Go.Proofs.YtigbnldmjafgmaaDoor
open Go.RowKit
set_option linter.unusedVariables false

def layCompare_ren : Go.Shelf.Ren := ⟨fun | 106 => 75 | 213 => 95 | 265 => 113 | n => n, fun | 9 => 9 | 3 => 3 | n => n, fun | n => n⟩
theorem layCompare : Go.Proofs.Lays.n106 Tryd.prog layCompare_ren := {
  mixed := by kernel_rfl,
  f106 := Tryd.func75.trans (congrArg some (by kernel_rfl)),
  f213 := Tryd.func95.trans (congrArg some (by kernel_rfl)),
  f265 := Tryd.func113.trans (congrArg some (by kernel_rfl)),
  t3 := Tryd.underlying3,
  a3 := Tryd.isAgg3,
  z3 := Tryd.sizeOf3,
  v3 := Tryd.zeroValue3,
  t9 := Tryd.underlying9,
  a9 := Tryd.isAgg9,
  z9 := Tryd.sizeOf9,
  v9 := Tryd.zeroValue9 }

end Go.Proofs.YtigbnldmjafgmaaDoor

/- Plain: the turns of a word in order, and their last bytes (Burrows, Wheeler). -/
namespace Go.Proofs.YtigbnldmjafgmaaDoor
set_option linter.unusedVariables false

theorem compare_llt : ∀ a b : List UInt8, Lib.compareBytes a b = if llt a b = true then -1 else if a = b then 0 else 1
  | [], [] => by simp [Lib.compareBytes, llt]
  | [], _ :: _ => by simp [Lib.compareBytes, llt]
  | _ :: _, [] => by simp [Lib.compareBytes, llt]
  | x :: a, y :: b => by
    rw [Lib.compareBytes, compare_llt a b]
    by_cases h1 : x < y
    · rw [if_pos h1, if_pos ((llt_cons x y a b).2 (.inl h1))]
    · rw [if_neg h1]
      by_cases h2 : y < x
      · have hne : x ≠ y := fun e => by subst e; exact u8_irrefl x h2
        rw [if_pos h2, if_neg, if_neg]
        · intro e; injection e with e _; exact hne e
        · rw [llt_cons]
          rintro (h | ⟨h, _⟩)
          · exact h1 h
          · exact hne h
      · have e : x = y := by
          rcases u8_tri x y with h | h | h
          · exact absurd h h1
          · exact h
          · exact absurd h h2
        subst e
        rw [if_neg h2]
        have : llt (x :: a) (x :: b) = llt a b := by
          rw [Bool.eq_iff_iff, llt_cons]
          exact ⟨fun h => h.elim (fun h => absurd h h1) (·.2), fun h => .inr ⟨rfl, h⟩⟩
        rw [this]
        by_cases h3 : a = b
        · subst h3; simp
        · rw [if_neg h3, if_neg (c := x :: a = x :: b) (by simpa using h3)]

/-- Two rows of one order, of the same elements, are one. -/
theorem sorted_eq {α : Type} {R : α → α → Prop} (hR : ∀ a b, R a b → R b a → a = b) : ∀ {l m : List α}, l.Perm m → l.Pairwise R → m.Pairwise R → l = m
  | [], m, h, _, _ => h.nil_eq
  | a :: l, [], h, _, _ => absurd h.length_eq (by simp)
  | a :: l, b :: m, h, h1, h2 => by
    obtain ⟨a1, l1⟩ := List.pairwise_cons.1 h1
    obtain ⟨b1, m1⟩ := List.pairwise_cons.1 h2
    have e : a = b := by
      rcases List.mem_cons.1 (h.mem_iff.1 (show a ∈ a :: l by simp)) with e | ha
      · exact e
      · rcases List.mem_cons.1 (h.mem_iff.2 (show b ∈ b :: m by simp)) with e | hb
        · exact e.symm
        · exact hR a b (a1 b hb) (b1 a ha)
    subst e
    rw [sorted_eq hR (List.perm_cons a |>.1 h) l1 m1]

def rotL (s : List UInt8) (i : Nat) : List UInt8 := s.drop i ++ s.take i
theorem rotL_len (s : List UInt8) (i : Nat) : (rotL s i).length = s.length := by
  unfold rotL
  rw [List.length_append, List.length_drop, List.length_take]; omega
/-- How turns i and k stand to each other. -/
def ltR (s : List UInt8) (i k : Nat) : Prop := llt (rotL s i) (rotL s k) = true ∨ rotL s i = rotL s k ∧ i < k
def cmpR (s : List UInt8) (i k : Nat) : Int := if Lib.compareBytes (rotL s i) (rotL s k) ≠ 0 then Lib.compareBytes (rotL s i) (rotL s k) else (i : Int) - (k : Int)
theorem cmpR_lt (s : List UInt8) (i k : Nat) : cmpR s i k < 0 ↔ ltR s i k := by
  unfold cmpR ltR
  rw [compare_llt]
  by_cases h1 : llt (rotL s i) (rotL s k) = true
  · simp [h1]
  · by_cases h2 : rotL s i = rotL s k
    · rw [if_neg h1, if_pos h2]
      simp only [ne_eq, not_true_eq_false, if_false]
      constructor
      · intro h; exact .inr ⟨h2, by omega⟩
      · rintro (h | ⟨_, h⟩)
        · exact absurd h h1
        · omega
    · rw [if_neg h1, if_neg h2]
      simp [h1, h2]
theorem ltR_irrefl (s : List UInt8) (i : Nat) : ¬ ltR s i i := by
  rintro (h | ⟨_, h⟩)
  · rw [llt_irrefl] at h; cases h
  · omega
theorem ltR_trans {s : List UInt8} {i j k : Nat} (h1 : ltR s i j) (h2 : ltR s j k) : ltR s i k := by
  rcases h1 with h1 | ⟨h1, h1'⟩ <;> rcases h2 with h2 | ⟨h2, h2'⟩
  · exact .inl (llt_trans h1 h2)
  · exact .inl (h2 ▸ h1)
  · exact .inl (h1 ▸ h2)
  · exact .inr ⟨h1.trans h2, by omega⟩
theorem ltR_tri (s : List UInt8) (i k : Nat) : ltR s i k ∨ i = k ∨ ltR s k i := by
  rcases llt_tri (rotL s i) (rotL s k) with h | h | h
  · exact .inl (.inl h)
  · rcases Nat.lt_trichotomy i k with h' | h' | h'
    · exact .inl (.inr ⟨h, h'⟩)
    · exact .inr (.inl h')
    · exact .inr (.inr (.inr ⟨h.symm, h'⟩))
  · exact .inr (.inr (.inl h))
/-- The places of a word in the order of its turns. -/
structure IsOrd (s : List UInt8) (o : List Nat) : Prop where
  perm : o.Perm (List.range s.length)
  sorted : o.Pairwise (ltR s)
theorem IsOrd.unique {s : List UInt8} {o o' : List Nat} (h : IsOrd s o) (h' : IsOrd s o') : o = o' :=
  sorted_eq (R := ltR s) (fun a b h1 h2 => absurd (ltR_trans h1 h2) (ltR_irrefl s a)) (h.perm.trans h'.perm.symm) h.sorted h'.sorted
theorem IsOrd.len {s : List UInt8} {o : List Nat} (h : IsOrd s o) : o.length = s.length := by rw [h.perm.length_eq, List.length_range]
theorem IsOrd.lt {s : List UInt8} {o : List Nat} (h : IsOrd s o) {i : Nat} (hi : i ∈ o) : i < s.length := List.mem_range.1 (h.perm.mem_iff.1 hi)
/-- The byte ahead of a place, in the ring. -/
def prevB (s : List UInt8) (i : Nat) : UInt8 := (s ++ s).getD (i + s.length - 1) 0
/-- The last bytes. -/
def lastB (s : List UInt8) (o : List Nat) : List UInt8 := o.map (prevB s)
/-- The rows. -/
def rowsR (s : List UInt8) (o : List Nat) : List (List UInt8) := o.map (rotL s)
theorem IsOrd.rows_sorted {s : List UInt8} {o : List Nat} (h : IsOrd s o) : (rowsR s o).Pairwise lle := by
  unfold rowsR
  refine List.Pairwise.map _ (fun a b hab => ?_) h.sorted
  rcases hab with h | ⟨h, _⟩
  · exact lle_of_lt h
  · rw [h]; exact lle_refl _
/-- All turns. -/
def turnsL (s : List UInt8) : List (List UInt8) := (List.range s.length).map (rotL s)
theorem IsOrd.rows_perm {s : List UInt8} {o : List Nat} (h : IsOrd s o) : (rowsR s o).Perm (turnsL s) := h.perm.map _
theorem getD_app_r (a b : List UInt8) (k : Nat) : (a ++ b).getD (a.length + k) 0 = b.getD k 0 := by
  rw [List.getD_eq_getElem?_getD, List.getElem?_append_right (by omega), Nat.add_sub_cancel_left, List.getD_eq_getElem?_getD]
theorem getD_app_l (a b : List UInt8) {k : Nat} (h : k < a.length) : (a ++ b).getD k 0 = a.getD k 0 := by
  rw [List.getD_eq_getElem?_getD, List.getElem?_append_left h, List.getD_eq_getElem?_getD]
/-- A turn's last byte. -/
theorem prevB_last {s : List UInt8} {i : Nat} (hi : i < s.length) : prevB s i = (rotL s i).getD (s.length - 1) 0 := by
  unfold prevB rotL
  rcases Nat.eq_zero_or_pos i with h0 | h0
  · subst h0
    rw [List.drop_zero, List.take_zero, List.append_nil, Nat.zero_add, getD_app_l _ _ (by omega)]
  · have e1 : i + s.length - 1 = s.length + (i - 1) := by omega
    have e2 : s.length - 1 = (s.drop i).length + (i - 1) := by rw [List.length_drop]; omega
    rw [e1, getD_app_r, e2, getD_app_r, List.getD_eq_getElem?_getD, List.getD_eq_getElem?_getD, List.getElem?_take, if_pos (by omega)]
theorem lastB_rows {s : List UInt8} {o : List Nat} (h : ∀ i ∈ o, i < s.length) : lastB s o = (rowsR s o).map (·.getD (s.length - 1) 0) := by
  unfold lastB rowsR
  rw [List.map_map]
  exact List.map_congr_left fun i hi => prevB_last (h i hi)
theorem rotL_rotL {s : List UInt8} {k j : Nat} (hk : k ≤ s.length) (hj : j < s.length) : rotL (rotL s k) j = rotL s ((j + k) % s.length) := by
  unfold rotL
  have l1 : (s.drop k).length = s.length - k := List.length_drop
  have l2 : (s.take k).length = k := by rw [List.length_take]; omega
  rcases Nat.lt_or_ge (j + k) s.length with h | h
  · rw [Nat.mod_eq_of_lt h, List.drop_append_of_le_length (by omega), List.take_append_of_le_length (by omega), List.drop_drop, List.append_assoc]
    rw [Nat.add_comm k j]
    congr 1
    rw [← List.take_append_drop k (s.take (j + k)), List.take_take, Nat.min_eq_left (by omega), List.drop_take, show j + k - k = j from by omega]
  · have e : (j + k) % s.length = j + k - s.length := by
      rw [Nat.mod_eq_sub_mod h, Nat.mod_eq_of_lt (by omega)]
    rw [e]
    obtain ⟨d, hd⟩ : ∃ d, d = j + k - s.length := ⟨_, rfl⟩
    rw [← hd]
    have e1 : (s.drop k ++ s.take k).drop j = (s.drop d).take (k - d) := by
      rw [List.drop_append, List.drop_eq_nil_of_le (by omega), List.nil_append, l1, show j - (s.length - k) = d from by omega, List.drop_take]
    have e2 : (s.drop k ++ s.take k).take j = s.drop k ++ s.take d := by
      rw [List.take_append, List.take_of_length_le (by omega), l1, show j - (s.length - k) = d from by omega, List.take_take, Nat.min_eq_left (by omega)]
    have e3 : s.drop k = (s.drop d).drop (k - d) := by rw [List.drop_drop]; congr 1; omega
    rw [e1, e2, e3, ← List.append_assoc, List.take_append_drop]
theorem turns_perm (s : List UInt8) {k : Nat} (hk : k ≤ s.length) : (turnsL (rotL s k)).Perm (turnsL s) := by
  unfold turnsL
  rw [rotL_len]
  obtain ⟨m, hm⟩ := Nat.exists_eq_add_of_le hk
  have e1 : (List.range s.length).map (rotL (rotL s k)) = (List.range m).map (fun j => rotL s (k + j)) ++ (List.range k).map (rotL s) := by
    rw [hm, Nat.add_comm k m, List.range_add, List.map_append, List.map_map]
    congr 1
    · refine List.map_congr_left fun j hj => ?_
      have := List.mem_range.1 hj
      rw [rotL_rotL hk (by omega), Nat.mod_eq_of_lt (by omega), Nat.add_comm]
    · refine List.map_congr_left fun j hj => ?_
      have := List.mem_range.1 hj
      show rotL (rotL s k) (m + j) = _
      rw [rotL_rotL hk (by omega), show m + j + k = j + s.length from by omega, Nat.add_mod_right, Nat.mod_eq_of_lt (by omega)]
  have e2 : (List.range s.length).map (rotL s) = (List.range k).map (rotL s) ++ (List.range m).map (fun j => rotL s (k + j)) := by
    rw [hm, List.range_add, List.map_append, List.map_map]
    rfl
  rw [e1, e2]
  exact List.perm_append_comm
/-- All turns of a word have the same rows, and the same last bytes. -/
theorem turn_rows {s : List UInt8} {o o' : List Nat} {k : Nat} (hk : k ≤ s.length) (h : IsOrd s o) (h' : IsOrd (rotL s k) o') : rowsR (rotL s k) o' = rowsR s o :=
  sorted_eq (R := lle) (fun a b h1 h2 => lle_antisymm h1 h2) (h'.rows_perm.trans ((turns_perm s hk).trans h.rows_perm.symm)) h'.rows_sorted h.rows_sorted
theorem turn_same {s : List UInt8} {o o' : List Nat} {k : Nat} (hk : k ≤ s.length) (h : IsOrd s o) (h' : IsOrd (rotL s k) o') : lastB (rotL s k) o' = lastB s o := by
  rw [lastB_rows fun i hi => h'.lt hi, lastB_rows fun i hi => h.lt hi, turn_rows hk h h', rotL_len]
/-- Where the word itself stands. -/
def zeroAt (o : List Nat) : Nat := o.idxOf 0

/-- The order of places by their bytes, and of the same by place. -/
def ltB (t : List UInt8) (i k : Nat) : Prop := t.getD i 0 < t.getD k 0 ∨ t.getD i 0 = t.getD k 0 ∧ i < k
def cmpB (t : List UInt8) (i k : Nat) : Int := if t.getD i 0 ≠ t.getD k 0 then ((t.getD i 0).toNat : Int) - ((t.getD k 0).toNat : Int) else (i : Int) - (k : Int)
theorem cmpB_lt (t : List UInt8) (i k : Nat) : cmpB t i k < 0 ↔ ltB t i k := by
  unfold cmpB ltB
  by_cases h : t.getD i 0 = t.getD k 0
  · rw [if_neg (by simpa using h), h]
    constructor
    · intro h; exact .inr ⟨rfl, by omega⟩
    · rintro (h | ⟨_, h⟩)
      · exact absurd h (u8_irrefl _)
      · omega
  · rw [if_pos (by simpa using h)]
    constructor
    · intro h'; exact .inl (UInt8.lt_iff_toNat_lt.2 (by omega))
    · rintro (h' | ⟨h', _⟩)
      · have := UInt8.lt_iff_toNat_lt.1 h'; omega
      · exact absurd h' h
theorem ltB_irrefl (t : List UInt8) (i : Nat) : ¬ ltB t i i := by
  rintro (h | ⟨_, h⟩)
  · exact u8_irrefl _ h
  · omega
theorem ltB_trans {t : List UInt8} {i j k : Nat} (h1 : ltB t i j) (h2 : ltB t j k) : ltB t i k := by
  rcases h1 with h1 | ⟨h1, h1'⟩ <;> rcases h2 with h2 | ⟨h2, h2'⟩
  · exact .inl (u8_trans h1 h2)
  · exact .inl (h2 ▸ h1)
  · exact .inl (h1 ▸ h2)
  · exact .inr ⟨h1.trans h2, by omega⟩
theorem ltB_tri (t : List UInt8) (i k : Nat) : ltB t i k ∨ i = k ∨ ltB t k i := by
  rcases u8_tri (t.getD i 0) (t.getD k 0) with h | h | h
  · exact .inl (.inl h)
  · rcases Nat.lt_trichotomy i k with h' | h' | h'
    · exact .inl (.inr ⟨h, h'⟩)
    · exact .inr (.inl h')
    · exact .inr (.inr (.inr ⟨h.symm, h'⟩))
  · exact .inr (.inr (.inl h))
structure IsOrdB (t : List UInt8) (o : List Nat) : Prop where
  perm : o.Perm (List.range t.length)
  sorted : o.Pairwise (ltB t)
theorem IsOrdB.unique {t : List UInt8} {o o' : List Nat} (h : IsOrdB t o) (h' : IsOrdB t o') : o = o' :=
  sorted_eq (R := ltB t) (fun a b h1 h2 => absurd (ltB_trans h1 h2) (ltB_irrefl t a)) (h.perm.trans h'.perm.symm) h.sorted h'.sorted
theorem IsOrdB.len {t : List UInt8} {o : List Nat} (h : IsOrdB t o) : o.length = t.length := by rw [h.perm.length_eq, List.length_range]
theorem IsOrdB.lt {t : List UInt8} {o : List Nat} (h : IsOrdB t o) {i : Nat} (hi : i ∈ o) : i < t.length := List.mem_range.1 (h.perm.mem_iff.1 hi)
/-- Step by step, from a place: the bytes that come up. -/
def stepsG (t : List UInt8) (l : List Nat) : Nat → Nat → List UInt8
  | _, 0 => []
  | k, n + 1 => t.getD (l.getD k 0) 0 :: stepsG t l (l.getD k 0) n
def placeG (l : List Nat) (k : Nat) : Nat → Nat
  | 0 => k
  | n + 1 => l.getD (placeG l k n) 0
theorem stepsG_snoc (t : List UInt8) (l : List Nat) : ∀ (n k : Nat), stepsG t l k (n + 1) = stepsG t l k n ++ [t.getD (placeG l k (n + 1)) 0]
  | 0, k => rfl
  | n + 1, k => by
    have e : ∀ m k, placeG l (l.getD k 0) m = placeG l k (m + 1) := fun m => by
      induction m with
      | zero => intro k; rfl
      | succ m ih => intro k; show l.getD (placeG l (l.getD k 0) m) 0 = l.getD (placeG l k (m + 1)) 0; rw [ih]
    rw [stepsG, stepsG_snoc t l n, stepsG, List.cons_append, e]
theorem stepsG_len (t : List UInt8) (l : List Nat) : ∀ (n k : Nat), (stepsG t l k n).length = n
  | 0, _ => rfl
  | n + 1, k => by rw [stepsG, List.length_cons, stepsG_len]
end Go.Proofs.YtigbnldmjafgmaaDoor

/- A block of cells that the library sorts whole; strings.Compare. -/
namespace Go.Proofs.YtigbnldmjafgmaaDoor
open Go.RowKit Go.Sort Go.Shelf Go.Lib
set_option linter.unusedVariables false

theorem Blk.sortedW {α : Type} [Inhabited α] (enc : α → Value) {w : World} {g : Nat} {T : TypeId} {cs : Array Value} (d : Array α) (h : Blk w g T cs) (hs : cs.size = d.size) (m : Nat) (os : Array Obj) :
    Blk (sortWorld enc w g 0 m d os) g T (d.map enc) ∧ w.grownBy (sortWorld enc w g 0 m d os) (some g) := by
  refine ⟨?_, ⟨rfl, rfl, rfl, by simp [sortWorld], fun k hk hne => ?_⟩⟩
  · unfold Blk at h ⊢
    have hg' : g < w.heap.size := (Array.getElem?_eq_some_iff.1 h).1
    unfold sortWorld
    rw [heap_grow_old _ _ (by simpa using hg')]
    have e : putCells enc 0 d cs = d.map enc := by
      refine Array.ext (by simp [putCells, hs]) fun j h1 h2 => ?_
      have hj : j < d.size := by simpa using h2
      simp only [putCells, Array.getElem_mapIdx, Array.getElem_map]
      rw [if_pos (by omega), Nat.sub_zero, getElem!_pos d j hj]
    simp [putRow, mapBlock, Sort.ahead, Array.getElem?_modify, h, onCells, e]
  · unfold sortWorld
    rw [heap_grow_old _ _ (by simpa using hk)]
    have : g ≠ k := fun e => hne (by rw [e])
    simp [putRow, mapBlock, Sort.ahead, Array.getElem?_modify, this]
theorem Blk.holds1 {α : Type} [Inhabited α] (enc : α → Value) {w : World} {g : Nat} {T : TypeId} (d : Array α) (h : Blk w g T (d.map enc)) : Holds enc w g 0 d := fun j hj => by
  refine ⟨?_, h.frozen _⟩
  rw [h.cell, Nat.zero_add, Array.getElem?_eq_getElem (by simpa using hj), Array.getElem_map, getElem!_pos d j hj]

theorem compare_any (a b : ByteArray) (w : World) : Calls Tryd.prog 75 #[.string a, .string b] w fun e w' => e = .returned (.int .i64 (Lib.compareBytes a.data.toList b.data.toList)) ∧ w = w' := by
  have h := Any.strings_Compare layCompare a b w
  change Calls Tryd.prog 75 _ _ _ at h
  exact h.mono fun _ _ ⟨h1, h2⟩ => ⟨h1, h2.symm⟩
/-- slices.SortFunc of ints: what comes out of it. -/
theorem intSort_any {α : Type} [Inhabited α] (enc : α → Int) (cf : α → α → Int) (hO : SWO (ltOf cf)) (g : Nat) (cb : Array Value) (blk : Nat) (d : Array α) (w : World) (hB : Blk w blk 3 (d.map fun x => Value.int .i64 (enc x)))
    (eg : ∀ args w, (callFunc g args).run Tryd.prog w = .ok (.enter g args) w)
    (hcmp : ∀ W, (∀ b t cs, b ≠ blk → Blk w b t cs → Blk W b t cs) → ∀ x y : α, Calls Tryd.prog g (#[.int .i64 (enc x), .int .i64 (enc y)] ++ cb) W fun e w' => e = .returned (.int .i64 (cf x y)) ∧ ∃ q os', w' = grow (W.drewN q) os') (hsz : d.size < 4611686018427387904) :
    Calls Tryd.prog 73 #[.slice (some ⟨blk, 0, none⟩) d.size d.size, .func (.func g) #[] cb] w fun e w' => e = .returned (.tuple #[]) ∧
      ∃ d' : Array α, d'.toList.Perm d.toList ∧ d'.toList.Pairwise (fun x y => ltOf cf y x = false) ∧ Blk w' blk 3 (d'.map fun x => Value.int .i64 (enc x)) ∧ w.grownBy w' (some blk) := by
  have hL : CmpLays1 Tryd.prog g cb (fun x => Value.int .i64 (enc x)) cf blk 0 d.size w := fun m os dk hdk x y => by
    refine hcmp _ (fun b t cs hb hblk => ?_) x y
    have hgr := (Blk.sortedW (fun x => Value.int .i64 (enc x)) dk hB (by simp [hdk]) m os).2
    exact hblk.grown hgr (fun e => hb (by injection e with e; exact e.symm))
  have h := Any.slices_SortFunc layIntSort (fun x => Value.int .i64 (enc x)) (fun _ => rfl) cf hO g cb blk 0 d.size d w eg hL (Blk.holds1 _ d hB) hB.lt hsz
  change Calls Tryd.prog 73 _ _ _ at h
  refine h.mono fun e w' ⟨he, d', n, os, ⟨hs, _, hp⟩, hsort, hw⟩ => ⟨he, d', ?_, ?_, ?_⟩
  · have e1 : ∀ x : Array α, x.size = d.size → (x.extract 0 d.size).toList = x.toList := fun x hx => by rw [← hx, Array.extract_size]
    rwa [e1 _ hs, e1 _ rfl] at hp
  · refine List.pairwise_iff_getElem.2 fun i j hi hj hij => ?_
    have := hsort i j (Nat.zero_le _) hij (by rw [← hs]; simpa using hj)
    rwa [getElem!_pos d' j (by simpa using hj), getElem!_pos d' i (by simpa using hi)] at this
  · rw [hw]
    exact Blk.sortedW _ d' hB (by simp [hs]) n os
end Go.Proofs.YtigbnldmjafgmaaDoor

/- IntSort0: contracts of the library laid at this program: the tables of numbers and the facts that they ask. -/
namespace Go.Proofs.YtigbnldmjafgmaaDoor
open Go.RowKit
set_option linter.unusedVariables false

def layIntSort0_ren : Go.Shelf.Ren := ⟨fun | 6 => 73 | 15 => 68 | 14 => 94 | 28 => 92 | 29 => 93 | 20 => 105 | 21 => 106 | 22 => 107 | 23 => 108 | 24 => 109 | 25 => 110 | 26 => 111 | 27 => 112 | 46 => 116 | 47 => 100 | 48 => 101 | 49 => 117 | 50 => 118 | 57 => 120 | n => n, fun | 22 => 100 | 24 => 3 | 25 => 114 | 3 => 3 | 39 => 107 | 0 => 0 | 53 => 109 | 55 => 133 | 4 => 4 | 46 => 124 | 45 => 123 | 50 => 129 | 5 => 5 | 9 => 9 | 66 => 138 | 70 => 142 | 76 => 149 | 77 => 76 | n => n, fun | n => n⟩
theorem layIntSort0 : Go.Proofs.SlLaysF0.n6 Tryd.prog layIntSort0_ren := {
  mixed := by kernel_rfl,
  f6 := ⟨Tryd.f73.name, by decide, Tryd.func73.trans (congrArg some (by kernel_rfl))⟩,
  f14 := ⟨Tryd.f94.name, by decide, Tryd.func94.trans (congrArg some (by kernel_rfl))⟩,
  f15 := Tryd.func68.trans (congrArg some (by kernel_rfl)),
  f20 := ⟨Tryd.f105.name, by decide, Tryd.func105.trans (congrArg some (by kernel_rfl))⟩,
  f21 := ⟨Tryd.f106.name, by decide, Tryd.func106.trans (congrArg some (by kernel_rfl))⟩,
  f22 := ⟨Tryd.f107.name, by decide, Tryd.func107.trans (congrArg some (by kernel_rfl))⟩,
  f23 := ⟨Tryd.f108.name, by decide, Tryd.func108.trans (congrArg some (by kernel_rfl))⟩,
  f24 := ⟨Tryd.f109.name, by decide, Tryd.func109.trans (congrArg some (by kernel_rfl))⟩,
  f25 := ⟨Tryd.f110.name, by decide, Tryd.func110.trans (congrArg some (by kernel_rfl))⟩,
  f26 := ⟨Tryd.f111.name, by decide, Tryd.func111.trans (congrArg some (by kernel_rfl))⟩,
  f27 := ⟨Tryd.f112.name, by decide, Tryd.func112.trans (congrArg some (by kernel_rfl))⟩,
  f28 := Tryd.func92.trans (congrArg some (by kernel_rfl)),
  f29 := Tryd.func93.trans (congrArg some (by kernel_rfl)),
  f46 := ⟨Tryd.f116.name, by decide, Tryd.func116.trans (congrArg some (by kernel_rfl))⟩,
  f47 := Tryd.func100.trans (congrArg some (by kernel_rfl)),
  f48 := Tryd.func101.trans (congrArg some (by kernel_rfl)),
  f49 := ⟨Tryd.f117.name, by decide, Tryd.func117.trans (congrArg some (by kernel_rfl))⟩,
  f50 := ⟨Tryd.f118.name, by decide, Tryd.func118.trans (congrArg some (by kernel_rfl))⟩,
  f57 := ⟨Tryd.f120.name, by decide, Tryd.func120.trans (congrArg some (by kernel_rfl))⟩,
  t0 := Tryd.underlying0,
  a0 := Tryd.isAgg0,
  z0 := Tryd.sizeOf0,
  v0 := Tryd.zeroValue0,
  t3 := Tryd.underlying3,
  a3 := Tryd.isAgg3,
  z3 := Tryd.sizeOf3,
  v3 := Tryd.zeroValue3,
  t4 := Tryd.underlying4,
  a4 := Tryd.isAgg4,
  z4 := Tryd.sizeOf4,
  v4 := Tryd.zeroValue4,
  t5 := Tryd.underlying5,
  a5 := Tryd.isAgg5,
  z5 := Tryd.sizeOf5,
  v5 := Tryd.zeroValue5,
  t9 := Tryd.underlying9,
  a9 := Tryd.isAgg9,
  z9 := Tryd.sizeOf9,
  v9 := Tryd.zeroValue9,
  t22 := Tryd.underlying100,
  a22 := Tryd.isAgg100,
  z22 := Tryd.sizeOf100,
  v22 := Tryd.zeroValue100,
  t25 := Tryd.underlying114,
  a25 := Tryd.isAgg114,
  z25 := Tryd.sizeOf114,
  v25 := Tryd.zeroValue114,
  t39 := Tryd.underlying107,
  a39 := Tryd.isAgg107,
  z39 := Tryd.sizeOf107,
  v39 := Tryd.zeroValue107,
  t45 := Tryd.underlying123,
  a45 := Tryd.isAgg123,
  z45 := Tryd.sizeOf123,
  v45 := Tryd.zeroValue123,
  t46 := Tryd.underlying124,
  a46 := Tryd.isAgg124,
  z46 := Tryd.sizeOf124,
  v46 := Tryd.zeroValue124,
  t50 := Tryd.underlying129,
  a50 := Tryd.isAgg129,
  z50 := Tryd.sizeOf129,
  v50 := Tryd.zeroValue129,
  t53 := Tryd.underlying109,
  a53 := Tryd.isAgg109,
  z53 := Tryd.sizeOf109,
  v53 := Tryd.zeroValue109,
  t55 := Tryd.underlying133,
  a55 := Tryd.isAgg133,
  z55 := Tryd.sizeOf133,
  v55 := Tryd.zeroValue133,
  t66 := Tryd.underlying138,
  a66 := Tryd.isAgg138,
  z66 := Tryd.sizeOf138,
  v66 := Tryd.zeroValue138,
  t70 := Tryd.underlying142,
  a70 := Tryd.isAgg142,
  z70 := Tryd.sizeOf142,
  v70 := Tryd.zeroValue142,
  t76 := Tryd.underlying149,
  a76 := Tryd.isAgg149,
  z76 := Tryd.sizeOf149,
  v76 := Tryd.zeroValue149,
  t77 := Tryd.underlying76,
  a77 := Tryd.isAgg76,
  z77 := Tryd.sizeOf76,
  v77 := Tryd.zeroValue76 }

end Go.Proofs.YtigbnldmjafgmaaDoor

/- slices.SortFunc of no ints. -/
namespace Go.Proofs.YtigbnldmjafgmaaDoor
open Go.RowKit Go.Sort Go.Shelf Go.Lib
set_option linter.unusedVariables false
theorem intSort_none (p : Option Addr) (cap : Nat) (fv : Value) (w : World) : Calls Tryd.prog 73 #[.slice p 0 cap, fv] w fun e w' => e = .returned (.tuple #[]) ∧ w = w' := by
  have h := AnyF.slices_SortFunc_none layIntSort0 p cap fv w
  change Calls Tryd.prog 73 _ _ _ at h
  exact h.mono fun _ _ ⟨h1, h2⟩ => ⟨h1, h2.symm⟩
end Go.Proofs.YtigbnldmjafgmaaDoor

/- A row of bytes of one's own beside another one: append, string. -/
namespace Go.Proofs.YtigbnldmjafgmaaDoor
open Go.RowKit
set_option linter.unusedVariables false

/-- A slice of bytes that lies anywhere in a row of one's own. -/
def OwnU (w : World) (K : Nat → Prop) (A : Option Addr) (n c : Nat) (l : List UInt8) : Prop :=
  l.length = n ∧ ((A = none ∧ n = 0 ∧ c = 0) ∨
    ∃ g o cur, A = some ⟨g, o, none⟩ ∧ ¬ K g ∧ Blk w g 5 cur ∧ n ≤ c ∧ c ≤ maxLen ∧ cur.size = o + c ∧ (cur.toList.drop o).take n = l.map b8)
section
variable {w w' : World} {K : Nat → Prop} {A : Option Addr} {n c g o : Nat} {l : List UInt8}
theorem OwnU.nil (w : World) (K : Nat → Prop) : OwnU w K none 0 0 [] := ⟨rfl, .inl ⟨rfl, rfl, rfl⟩⟩
theorem OwnU.cap (h : OwnU w K A n c l) : n ≤ c ∧ c ≤ maxLen := by
  rcases h.2 with ⟨_, h1, h2⟩ | ⟨g, o, cur, _, _, _, h1, h2, _⟩
  · omega
  · exact ⟨h1, h2⟩
theorem OwnU.keep (h : OwnU w K A n c l) (hk : ∀ k, ¬ K k → (Value.slice A n c).ownBlock = some k → k < w.heap.size → w'.heap[k]? = w.heap[k]?) : OwnU w' K A n c l := by
  refine ⟨h.1, ?_⟩
  rcases h.2 with h0 | ⟨g, o, cur, hv, hb, hg, rest⟩
  · exact .inl h0
  · exact .inr ⟨g, o, cur, hv, hb, by unfold Blk; rw [hk g hb (by rw [hv]; rfl) hg.lt]; exact hg, rest⟩
theorem OwnU.after (h : OwnU w K A n c l) (hb : Below w.heap.size w w') : OwnU w' K A n c l := h.keep fun k _ _ hk => hb.block k hk
theorem OwnU.alloc (h : OwnU w K A n c l) (o : Obj) : OwnU (w.alloc o) K A n c l := h.keep fun k _ _ hk => Below.heap_alloc w o k hk
theorem OwnU.far (h : OwnU w K A n c l) (hp : (Value.slice A n c).ownBlock ≠ some g) (i : Nat) (u : Value) : OwnU (w.setCell ⟨g, i, none⟩ u) K A n c l :=
  h.keep fun k _ hq _ => Below.heap_setCell w ⟨g, i, none⟩ u k (by rintro rfl; exact hp hq)
theorem OwnU.grown {row : Option Nat} (h : OwnU w K A n c l) (hg : w.grownBy w' row) (hp : ∀ k, row = some k → (Value.slice A n c).ownBlock ≠ some k) : OwnU w' K A n c l :=
  h.keep fun k _ hq hk => hg.block k hk (fun e => hp k e.symm hq)
theorem OwnU.lt (h : OwnU w K A n c l) : ∀ k, (Value.slice A n c).ownBlock = some k → ¬ K k ∧ k < w.heap.size := fun k hk => by
  rcases h.2 with ⟨rfl, _⟩ | ⟨g, o, cur, rfl, hb, hg, _⟩
  · cases hk
  · injection hk with hk
    subst hk
    exact ⟨hb, hg.lt⟩
theorem OwnU.weak {K' : Nat → Prop} (h : OwnU w K A n c l) (hK : ∀ k, (Value.slice A n c).ownBlock = some k → ¬ K' k) : OwnU w K' A n c l := by
  refine ⟨h.1, ?_⟩
  rcases h.2 with h0 | ⟨g, o, cur, hv, hb, rest⟩
  · exact .inl h0
  · exact .inr ⟨g, o, cur, hv, hK g (by rw [hv]; rfl), rest⟩
theorem OwnU.ne_blk {t : TypeId} {cs : Array Value} (h : OwnU w K A n c l) (hg : Blk w g t cs) (ht : 5 ≠ t) : (Value.slice A n c).ownBlock ≠ some g := fun hq => by
  rcases h.2 with ⟨rfl, _⟩ | ⟨g', o, cur, rfl, hb, hg', _⟩
  · cases hq
  · injection hq with hq
    subst hq
    have := hg'.symm.trans hg
    injection this with this
    injection this with _ this _
    exact ht this
theorem OwnU.shape (h : OwnU w K A n c l) (hn : 0 < n) : ∃ g o, A = some ⟨g, o, none⟩ ∧ g < w.heap.size := by
  rcases h.2 with ⟨_, h0, _⟩ | ⟨g, o, _, hv, _, hg, _⟩
  · omega
  · exact ⟨g, o, hv, hg.lt⟩
theorem OwnU.cell (h : OwnU w K (some ⟨g, o, none⟩) n c l) (j : Nat) (hj : j < n) : w.cell? ⟨g, o + j, none⟩ = some (b8 (l.getD j 0)) := by
  rcases h.2 with ⟨h0, _⟩ | ⟨g', o', cur, hv, hb, hg, h1, h2, h3, h4⟩
  · cases h0
  · injection hv with hv
    injection hv with hv hv2
    subst hv hv2
    rw [hg.cell, ← Array.getElem?_toList]
    have : ((cur.toList.drop o).take n)[j]? = cur.toList[o + j]? := by rw [List.getElem?_take, if_pos hj, List.getElem?_drop]
    rw [← this, h4, List.getElem?_map, List.getElem?_eq_getElem (by rw [h.1]; exact hj), List.getD_eq_getElem?_getD, List.getElem?_eq_getElem (by rw [h.1]; exact hj)]
    rfl
/-- The first of them. -/
theorem OwnU.short (h : OwnU w K A n c l) (m : Nat) (hm : m ≤ n) : OwnU w K A m c (l.take m) := by
  refine ⟨by rw [List.length_take, h.1]; omega, ?_⟩
  rcases h.2 with ⟨h0, h1, h2⟩ | ⟨g, o, cur, hv, hb, hg, h1, h2, h3, h4⟩
  · exact .inl ⟨h0, by omega, h2⟩
  · refine .inr ⟨g, o, cur, hv, hb, hg, by omega, h2, h3, ?_⟩
    rw [List.map_take, ← h4, List.take_take, Nat.min_eq_left hm]
/-- All but the first of them. -/
theorem OwnU.tail (h : OwnU w K (some ⟨g, o, none⟩) (n + 1) c l) : OwnU w K (some ⟨g, o + 1, none⟩) n (c - 1) (l.drop 1) := by
  refine ⟨by rw [List.length_drop, h.1]; omega, ?_⟩
  rcases h.2 with ⟨h0, _⟩ | ⟨g', o', cur, hv, hb, hg, h1, h2, h3, h4⟩
  · cases h0
  · injection hv with hv
    injection hv with hv hv2
    subst hv hv2
    refine .inr ⟨g, o + 1, cur, rfl, hb, hg, by omega, by omega, by omega, ?_⟩
    rw [List.map_drop, ← h4, List.drop_take, List.drop_drop]
    congr 1
end

/-- append of one byte. -/
theorem run_append_U {P : Program} (w : World) (K : Nat → Prop) (t ty : TypeId) (ht : P.underlying t = some (.slice 5)) (hinfo : (P.info? 5).map (fun i => (i.zero, i.size, i.bytes)) = some (some (.int .u8 0), 1, 1))
    (A : Option Addr) (n c : Nat) (l : List UInt8) (hown : OwnU w K A n c l) (a : Addr) (c2 : Nat) (x : UInt8) (hx : w.cell? a = some (b8 x)) (ha : a.spot = none)
    (h63 : n ≤ 8000000000000) (hK : ∀ k, K k → k < w.heap.size) :
    ∃ A' c' w', (Builtin.append_ #[t, t] ty #[.slice A n c, .slice (some a) 1 c2]).run P w = .ok (.slice A' (n + 1) c') w' ∧ OwnU w' K A' (n + 1) c' (l ++ [x]) ∧ w.grownBy w' (Value.slice A n c).ownBlock ∧
      (∀ k, (Value.slice A' (n + 1) c').ownBlock = some k → (Value.slice A n c).ownBlock = some k ∨ w.heap.size ≤ k) := by
  obtain ⟨i, hi, hz, hs1, hby⟩ := info_parts hinfo
  have hnews : ∀ j u, ([b8 x] : List Value)[j]? = some u → w.cell? (a.add j) = some u := fun j u hj => by
    cases j with
    | zero => injection hj with hj; subst hj; obtain ⟨b, o, s⟩ := a; simp only at ha; subst ha; rw [add_at, Nat.add_zero]; exact hx
    | succ j => simp at hj
  have h1 : ∀ u ∈ ([b8 x] : List Value), u.oneCell' = true := b8_one [x]
  have hll : (l ++ [x]).length = n + 1 := by rw [List.length_append, hown.1]; rfl
  rcases hown.2 with ⟨rfl, rfl, rfl⟩ | ⟨g, o, cur, rfl, hb, hg, hnc, hcm, hcs, htake⟩
  · have hl : l = [] := List.eq_nil_of_length_eq_zero hown.1
    subst hl
    have hr := run_append_nil (P := P) w t ty 5 i _ ht hi hz a 1 c2 [b8 x] (by rw [hs1]; rfl) hnews (by omega) (by omega) (by rw [hby]; decide)
    refine ⟨_, _, _, hr, ⟨hll, .inr ⟨w.heap.size, 0, _, rfl, fun hk => Nat.lt_irrefl _ (hK _ hk), Blk.new w.drew _ _, grownCap_ge w 1 0 _, grownCap_le_maxLen w 1 0 _ (by unfold maxLen; omega), ?_, ?_⟩⟩, ⟨rfl, rfl, rfl, by simp, fun k hk _ => Below.heap_alloc w.drew _ k hk⟩, fun k hk => ?_⟩
    · have := grownCap_ge w 1 0 5
      simp only [Array.size_append, List.size_toArray, size_zeroCells, List.length_singleton]
      show 1 + (_ - 1) * 1 = _
      omega
    · simp
    · have hk : w.heap.size = k := by injection hk
      exact .inr (by omega)
  · by_cases hroom : n + 1 ≤ c
    · have hf := run_firstCells_some (P := P) w i.size 1 a 1 c2 [b8 x] (by rw [hs1]; rfl) hnews
      have hst := run_storeCells_T P g (o + n) 5 (0, 0) [b8 x] 0 cur w hg (fun i _ hh => by omega) (by simp; omega) h1
      simp only [Nat.add_zero] at hst
      have hr : (Builtin.append_ #[t, t] ty #[.slice (some ⟨g, o, none⟩) n c, .slice (some a) 1 c2]).run P w =
          .ok (.slice (some ⟨g, o, none⟩) (n + 1) c) (w.setRow g (cur.toList.take (o + n) ++ [b8 x] ++ cur.toList.drop (o + n + [b8 x].length)).toArray) := by
        rw [hs1] at hf
        simp [Builtin.append_, run_underlying ht, sizeOf, typeInfo, hi, Builtin.lenOf, hroom, hf, add_at, hs1, hst]
      refine ⟨_, _, _, hr, ⟨hll, .inr ⟨g, o, _, rfl, hb, setRow_heap w g cur _ _ _ hg, hroom, hcm, ?_, ?_⟩⟩, ⟨rfl, rfl, rfl, by simp, fun k _ hk => setRow_other w g k _ (fun e => hk (by simp [Value.ownBlock, e]))⟩, fun k hk => .inl hk⟩
      · simp only [List.size_toArray, List.length_append, List.length_take, List.length_drop, Array.length_toList, List.length_singleton]; omega
      · rw [List.map_append, ← htake]
        have hlen : (cur.toList.take (o + n)).length = o + n := by rw [List.length_take, Array.length_toList]; omega
        rw [List.append_assoc, List.drop_append_of_le_length (by omega), List.drop_take, show o + n - o = n from by omega]
        have hl2 : ((cur.toList.drop o).take n).length = n := by rw [List.length_take, List.length_drop, Array.length_toList]; omega
        rw [List.take_append, List.take_of_length_le (by omega), hl2, show n + 1 - n = 1 from by omega]
        rfl
    · have holds : ∀ j u, (l.map b8)[j]? = some u → w.cell? ((⟨g, o, none⟩ : Addr).add j) = some u := fun j u hj => by
        have hj' : j < n := by have := (List.getElem?_eq_some_iff.1 hj).1; rw [List.length_map, hown.1] at this; exact this
        rw [add_at, hg.cell, ← Array.getElem?_toList, ← hj, ← htake, List.getElem?_take, if_pos hj', List.getElem?_drop]
      have hr := run_append_grow (P := P) w t ty 5 i _ ht hi hz ⟨g, o, none⟩ n c (l.map b8) (by rw [List.length_map, hown.1, hs1]; omega) holds a 1 c2 [b8 x] (by rw [hs1]; rfl) hnews (by omega) (by omega) (growslice_fits (by omega) (by rw [hby]; omega))
      refine ⟨_, _, _, hr, ⟨hll, .inr ⟨w.heap.size, 0, _, rfl, fun hk => Nat.lt_irrefl _ (hK _ hk), Blk.new w.drew _ _, grownCap_ge w (n + 1) c _, grownCap_le_maxLen w (n + 1) c _ (by unfold maxLen; omega), ?_, ?_⟩⟩, ⟨rfl, rfl, rfl, by simp, fun k hk _ => Below.heap_alloc w.drew _ k hk⟩, fun k hk => ?_⟩
      · have := grownCap_ge w (n + 1) c 5
        simp only [Array.size_append, List.size_toArray, size_zeroCells, List.length_singleton, List.length_map, hown.1]
        show n + 1 + (_ - (n + 1)) * 1 = _
        omega
      · rw [List.drop_zero, Array.toList_append, Array.toList_append, List.take_append_of_le_length (by simp [hown.1]), List.take_of_length_le (by simp [hown.1])]
        simp
      · have hk : w.heap.size = k := by injection hk
        exact .inr (by omega)

/-- append of one byte, as one step of a region that draws. -/
theorem step_append_U {P : Program} {w : World} {ops : Array Oper} {o : Oper} {a : Act} {Kq : Act → World → Prop} {Q : Exit → Act → World → Prop} {E : Prop} (hgd : o.guard = none) (s x : Operand) (t : TypeId)
    (ho : o.op = .call { callee := .builtin .append, args := #[s, x], argTypes := #[t, t] }) (K : Nat → Prop)
    (hinfo : (P.info? 5).map (fun i => (i.zero, i.size, i.bytes)) = some (some (.int .u8 0), 1, 1)) (ht : P.underlying t = some (.slice 5))
    (A : Option Addr) (n c : Nat) (l : List UInt8) (hs : a.eval s = .slice A n c) (hown : OwnU w K A n c l)
    (ad : Addr) (c2 : Nat) (y : UInt8) (hx : a.eval x = .slice (some ad) 1 c2) (hy : w.cell? ad = some (b8 y)) (had : ad.spot = none)
    (h63 : n ≤ 8000000000000) (hK : ∀ k, K k → k < w.heap.size)
    (h : ∀ A' c' w1, OwnU w1 K A' (n + 1) c' (l ++ [y]) → w.grownBy w1 (Value.slice A n c).ownBlock → (∀ k, (Value.slice A' (n + 1) c').ownBlock = some k → (Value.slice A n c).ownBlock = some k ∨ w.heap.size ≤ k) → Kq (a.put o.dst (.slice A' (n + 1) c')) w1) :
    if Region.wanted o (yielded ops a.tmps) = true then Oper.wp P o a w Kq Q else E := by
  rw [if_pos (by simp [Region.wanted, hgd])]
  obtain ⟨A', c', w1, hr, h1, h2, h3⟩ := run_append_U (P := P) w K t o.type ht hinfo A n c l hown ad c2 y hy had h63 hK
  unfold Oper.wp execOp
  simp only [ho, resolve, invoke, builtin, Sem.run_bind, Sem.run_pure, Result.andThen_ok, List.map_toArray, List.map_cons, List.map_nil, hs, hx, hr]
  exact h A' c' w1 h1 h2 h3

theorem infoU8 : (Tryd.prog.info? 5).map (fun i => (i.zero, i.size, i.bytes)) = some (some (.int .u8 0), 1, 1) := by kernel_rfl
theorem run_string_U {P : Program} {w : World} {K : Nat → Prop} {A : Option Addr} {n c : Nat} {l : List UInt8} (src dst : TypeId) (h : OwnU w K A n c l) (hs : P.underlying src = some (.slice 5)) (he : P.underlying 5 = some (.int .u8)) (hd : P.underlying dst = some .string) :
    (convert src dst (.slice A n c)).run P w = .ok (.string ⟨l.toArray⟩) w := by
  rcases h.2 with ⟨rfl, rfl, rfl⟩ | ⟨g, o, cur, rfl, hb, hg, h1, h2, h3, h4⟩
  · have hl : l = [] := List.eq_nil_of_length_eq_zero h.1
    subst hl
    rw [run_convert_bytes_string w src dst 5 none 0 0 hs he hd]
    simp [Conv.bytesToString]
    rfl
  · refine run_string_of w src dst 5 ⟨g, o, none⟩ n c l h.1 hs he hd fun j hj => ?_
    have := h.cell j (by rw [← h.1]; exact hj)
    rw [add_at, this, getD_some _ _ _ hj]
    rfl
end Go.Proofs.YtigbnldmjafgmaaDoor

/- append by its own run equation, at the operation. -/
namespace Go.Proofs.YtigbnldmjafgmaaDoor
open Go.RowKit
set_option linter.unusedVariables false
theorem wpList_app_eq {P : Program} {w w' : World} {ops : Array Oper} {rest : List Oper} {o : Oper} {a : Act} {Q : Exit → Act → World → Prop} (hgd : o.guard = none) (s x : Operand) (t u : TypeId)
    (ho : o.op = .call { callee := .builtin .append, args := #[s, x], argTypes := #[t, u] }) (v1 v2 v : Value) (hs : a.eval s = v1) (hx : a.eval x = v2) (hr : (Builtin.append_ #[t, u] o.type #[v1, v2]).run P w = .ok v w')
    (h : wpList P ops Q rest (a.put o.dst v) w') : wpList P ops Q (o :: rest) a w := by
  refine wpList_plain hgd fun K hK => ?_
  unfold Oper.wp execOp
  simp only [ho, resolve, invoke, builtin, Sem.run_bind, Sem.run_pure, Result.andThen_ok, List.map_toArray, List.map_cons, List.map_nil, hs, hx, hr]
  exact hK _ _ h
end Go.Proofs.YtigbnldmjafgmaaDoor

/- The walk of turn.Put. -/
namespace Go.Proofs.YtigbnldmjafgmaaDoor
open Go.RowKit Go.Sort Go.Shelf Go.Lib
set_option linter.unusedVariables false

theorem ext_rot (s : ByteArray) (i : Nat) (hi : i ≤ s.size) : ((s ++ s).extract i (i + s.size)).data.toList = rotL s.data.toList i := by
  rw [Lib.extract_data, show (s ++ s).data.toList = s.data.toList ++ s.data.toList from by simp [ByteArray.data_append], Nat.add_sub_cancel_left]
  have hl : s.data.toList.length = s.size := rfl
  unfold rotL
  rw [List.drop_append_of_le_length (by omega), List.take_append, List.take_of_length_le (by rw [List.length_drop]; omega), List.length_drop, show s.size - (s.data.toList.length - i) = i from by omega]

theorem quiet_leftT {P : Program} {f : FuncId} {args : Array Value} {w : World} {n : Nat} {v : Value} (h : Calls P f args (w.drewN n) fun e w' => e = .returned v ∧ w.drewN n = w') :
    Calls P f args (w.drewN n) fun e w'' => e = .returned v ∧ ∃ m, w'' = w.drewN m := h.mono fun _ _ ⟨he, hb⟩ => ⟨he, n, hb.symm⟩
set_option maxHeartbeats 1000000 in
theorem turnCmp (s : ByteArray) (hs : s.size ≤ 200) (b2 b3 : Nat) (i k : Nat) (hi : i < s.size) (hk : k < s.size) (W : World) (c2 : W.cell? ⟨b2, 0, none⟩ = some (.string (s ++ s))) (c3 : W.cell? ⟨b3, 0, none⟩ = some (.string s)) :
    Calls Tryd.prog 74 #[.int .i64 i, .int .i64 k, .pointer (some ⟨b2, 0, none⟩), .pointer (some ⟨b3, 0, none⟩)] W fun e w' => e = .returned (.int .i64 (cmpR s.data.toList i k)) ∧ ∃ q os', w' = grow (W.drewN q) os' := by
  obtain ⟨p, hp⟩ : ∃ p, p = i + s.size := ⟨_, rfl⟩
  obtain ⟨q, hq⟩ : ∃ q, q = k + s.size := ⟨_, rfl⟩
  obtain ⟨tw, htw⟩ : ∃ tw, tw = s ++ s := ⟨_, rfl⟩
  have hts : tw.size = s.size + s.size := by rw [htw, ByteArray.size_append]
  rw [← htw] at c2
  have hc := fun w => compare_any (tw.extract i p) (tw.extract k q) w
  rw [htw, hp, hq, ext_rot s i (by omega), ext_rot s k (by omega)] at hc
  rw [← htw, ← hp, ← hq] at hc
  unfold cmpR
  generalize Lib.compareBytes (rotL s.data.toList i) (rotL s.data.toList k) = c at *
  have hpw : IntKind.i64.wrap ((i : Int) + (s.size : Int)) = (p : Int) := by rw [IntKind.wrap_i64]; omega
  have hqw : IntKind.i64.wrap ((k : Int) + (s.size : Int)) = (q : Int) := by rw [IntKind.wrap_i64]; omega
  have hp1 : p ≤ tw.size := by omega
  have hq1 : q ≤ tw.size := by omega
  have hip : i ≤ p := by omega
  have hkq : k ≤ q := by omega
  have hp1' : (p : Int) ≤ tw.size := by omega
  have hq1' : (q : Int) ≤ tw.size := by omega
  have hip' : (i : Int) ≤ p := by omega
  have hkq' : (k : Int) ≤ q := by omega
  obtain ⟨R, hR⟩ : ∃ R, R = if c ≠ 0 then c else (i : Int) - (k : Int) := ⟨_, rfl⟩
  rw [← hR]
  have HR := Lib.hid hR
  have Hp := Lib.hid hp
  have Hq := Lib.hid hq
  have Hts := Lib.hid hts
  have Hi := Lib.hid hi
  have Hk := Lib.hid hk
  have Hs := Lib.hid hs
  clear htw hp hq hts hi hk hs hR
  go_enter Tryd.func74, Tryd.ntmps74
  go_wp2_with fail
  go_quiet ((go_at_call 75; exact quiet_leftT (hc _)))
  by_cases hc0 : c = 0
  · have q1 : (c != 0) = false := by simp [hc0]
    obtain rfl : R = (i : Int) - (k : Int) := by rw [HR.out, if_neg (by simp [hc0])]
    have e1 : IntKind.i64.wrap ((i : Int) - k) = (i : Int) - k := by have := Hi.out; have := Hk.out; have := Hs.out; rw [IntKind.wrap_i64]; omega
    have e2 : wrap64 ((i : Int) - k) = (i : Int) - k := by have := Hi.out; have := Hk.out; have := Hs.out; exact IntWalk.wrap64_in _ (by omega)
    clear hpw hqw hp1 hq1 hip hkq hp1' hq1' hip' hkq'
    go_wp2
    go_ret
    exact ⟨by first | rfl | simp [e2], _, #[], by simp; try rfl⟩
  · have q1 : (c != 0) = true := by simpa using hc0
    obtain rfl : R = c := by rw [HR.out, if_pos hc0]
    clear hpw hqw hp1 hq1 hip hkq hp1' hq1' hip' hkq'
    go_wp2
    go_ret
    exact ⟨rfl, _, #[], by simp; try rfl⟩

theorem turnSwo (s : List UInt8) (m : Nat) : SWO (ltOf fun x y : Fin (m + 1) => cmpR s x.1 y.1) := by
  have e : ∀ x y : Fin (m + 1), ltOf (fun x y : Fin (m + 1) => cmpR s x.1 y.1) x y = true ↔ ltR s x.1 y.1 := fun x y => by unfold ltOf; rw [decide_eq_true_iff]; exact cmpR_lt s x.1 y.1
  refine ⟨fun x => ?_, fun x y z h1 h2 => ?_, fun x y z h1 h2 => ?_⟩
  · rw [Bool.eq_false_iff]; intro h; exact ltR_irrefl s _ ((e x x).1 h)
  · rw [e] at *; exact ltR_trans h1 h2
  · rw [Bool.eq_false_iff] at *
    intro h
    have h3 := (e x z).1 h
    rcases ltR_tri s x.1 y.1 with k | k | k
    · exact h1 ((e x y).2 k)
    · exact h2 ((e y z).2 (by rw [← k]; exact h3))
    · exact h2 ((e y z).2 (ltR_trans k h3))
/-- What the sort leaves is the order of turns. -/
theorem turnOrd (s : List UInt8) (m : Nat) (hm : s.length = m + 1) (d' : Array (Fin (m + 1))) (hp : d'.toList.Perm (List.finRange (m + 1))) (hs : d'.toList.Pairwise (fun x y => ltOf (fun x y : Fin (m + 1) => cmpR s x.1 y.1) y x = false)) : IsOrd s (d'.toList.map (·.1)) := by
  have hn : d'.toList.Nodup := hp.nodup_iff.2 (List.nodup_finRange _)
  refine ⟨?_, ?_⟩
  · have := hp.map (fun x : Fin (m + 1) => x.1)
    rw [hm]
    refine this.trans ?_
    have e : (List.finRange (m + 1)).map (fun x : Fin (m + 1) => x.1) = List.range (m + 1) := List.ext_getElem (by simp) fun j h1 h2 => by simp
    rw [e]
  · refine List.Pairwise.map _ (fun a b h => ?_) (List.Pairwise.and hs hn)
    obtain ⟨h1, h2⟩ := h
    unfold ltOf at h1
    have h1 := of_decide_eq_false h1
    rw [cmpR_lt] at h1
    rcases ltR_tri s a.1 b.1 with k | k | k
    · exact k
    · exact absurd (Fin.ext k) h2
    · exact absurd k h1

def atK (o : List Nat) (k : Nat) : Nat := if zeroAt o < k then zeroAt o else 0
theorem atK_succ {o : List Nat} (hn : o.Nodup) {k : Nat} (hk : k < o.length) : atK o (k + 1) = if o.getD k 0 = 0 then k else atK o k := by
  have hg : o.getD k 0 = o[k] := by rw [List.getD_eq_getElem?_getD, List.getElem?_eq_getElem hk]; rfl
  unfold atK zeroAt
  by_cases h : o.getD k 0 = 0
  · rw [if_pos h]
    have : o.idxOf 0 = k := by
      rw [hg] at h
      rw [← h]
      exact List.Nodup.idxOf_getElem hn k hk
    rw [if_pos (by omega), this]
  · rw [if_neg h]
    have : o.idxOf 0 ≠ k := fun e => by
      have h1 : o.idxOf 0 < o.length := by omega
      have h2 := List.getElem_idxOf h1
      apply h
      rw [hg]
      simpa [e] using h2
    by_cases h1 : o.idxOf 0 < k
    · rw [if_pos h1, if_pos (by omega)]
    · rw [if_neg h1, if_neg (by omega)]

/-- What Put tells of a word. -/
def ToldPut (s : ByteArray) (w : World) (e : Ending) (w' : World) : Prop :=
  ∃ o, IsOrd s.data.toList o ∧ e = .returned (.tuple #[.string ⟨(lastB s.data.toList o).toArray⟩, .int .i64 (zeroAt o : Int), .int .i64 0]) ∧ RowKit.Below w.heap.size w w'

set_option maxRecDepth 100000 in
set_option maxHeartbeats 4000000 in
theorem turnPut_pos (s : ByteArray) (h0 : 0 < s.size) (hs : s.size ≤ 200) (w : World) : Calls Tryd.prog 54 #[.string s] w (ToldPut s w) := by
  obtain ⟨m, hm⟩ : ∃ m, s.size = m + 1 := ⟨s.size - 1, by omega⟩
  have Hm := Lib.hid hm
  clear hm
  have hbx := Blk.new w 9 #[.string s]
  have hb0 : RowKit.Below w.heap.size w (w.alloc (Obj.cells #[.string s] 9)) := (Below.refl _ _).alloc (Nat.le_refl _) _
  have hC := Lib.hid (wordCheck_ok s hs)
  have hmk := fun w => make_ints (P := Tryd.prog) 100 3 Tryd.underlying100 (by kernel_rfl) s.size s.size rfl (by omega) w
  have eg : ∀ args w, (callFunc 74 args).run Tryd.prog w = .ok (.enter 74 args) w := enters_of Tryd.func74 (by kernel_rfl) rfl
  have hca : ∀ w, (Op.stringOp .add s s).run Tryd.prog w = .ok (.string (s ++ s)) w := fun w => run_string_add_sum w _ _ (by omega)
  go_enter Tryd.func54, Tryd.ntmps54
  go_wp2_with fail
  have c1 : (w.alloc (Obj.cells #[.string s] 9)).cell? ⟨w.heap.size, 0, none⟩ = some (.string s) := hbx.cell 0
  have hz1 : (w.alloc (Obj.cells #[.string s] 9)).heap.size = w.heap.size + 1 := by simp
  generalize w.alloc (Obj.cells #[.string s] 9) = w1 at *
  go_wp2_with fail
  refine (hC.out _).mono ?_
  rintro e w2 ⟨rfl, rfl⟩
  have hMz : (madeCells #[.int .i64 0] s.size).size = s.size := by
    have := toList_madeCells_one (.int .i64 0) s.size
    rw [← Array.length_toList, this, List.length_replicate]
  have hgo := Blk.new w1 3 (madeCells #[.int .i64 0] s.size)
  have hbx2 := hbx.alloc (Obj.cells (madeCells #[.int .i64 0] s.size) 3)
  have hb2 := hb0.alloc hb0.size (Obj.cells (madeCells #[.int .i64 0] s.size) 3)
  have hgs : w1.heap.size = w.heap.size + 1 := hz1
  rw [hgs] at hgo
  go_wp2
  generalize w1.alloc (Obj.cells (madeCells #[.int .i64 0] s.size) 3) = w2 at *
  generalize madeCells #[.int .i64 0] s.size = cs0 at *
  go_loopw [7, 23] (fun _ iv wr => ∃ (k : Nat) (cs : Array Value), k ≤ s.size ∧ iv = .int .i64 k ∧ cs.size = s.size ∧ Hid (∀ j, j < k → cs[j]? = some (.int .i64 j)) ∧ Blk wr (w.heap.size + 1) 3 cs ∧ Blk wr w.heap.size 9 #[.string s] ∧ RowKit.Below w.heap.size w wr ∧ w.heap.size + 2 ≤ wr.heap.size) (fun _ iv _ => s.size - (intOf iv).toNat)
  case atStart => exact ⟨0, cs0, Nat.zero_le _, rfl, hMz, Lib.hid (fun j hj => by omega), hgo, hbx2, hb2, hgo.lt⟩
  case round =>
    clear hgo hbx2 hb2 hMz
    obtain ⟨k, cs, hk, rfl, hcs, Hcs, hg, hx, hbr, hsz⟩ := hrel
    by_cases hlt : k < s.size
    · have f0 := hg.frozen k
      have g0 : wr.cell? ⟨w.heap.size + 1, k, none⟩ = some (cs[k]'(by omega)) := by rw [hg.cell, Array.getElem?_eq_getElem]
      have ilt : (k : Int) < s.size := by omega
      generalize hck : cs[k]'(by omega) = ck at *
      clear hck
      go_wp2
      go_roundw
      case rel =>
        refine ⟨k + 1, _, by omega, by go_num, ?_, Lib.hid fun j hj => ?_, hg.set_ k (.int .i64 k), hx.far (by show w.heap.size ≠ w.heap.size + 1; omega) _, hbr.setCell (by show w.heap.size ≤ w.heap.size + 1; omega) _, by rw [size_setCell]; exact hsz⟩
        · simpa using hcs
        · rw [Array.getElem?_setIfInBounds]
          by_cases e : k = j
          · subst e; rw [if_pos rfl, if_pos (by omega)]
          · rw [if_neg e]; exact Hcs.out j (by omega)
      case measure => simp [intOf]; omega
    · obtain rfl : k = s.size := by omega
      generalize wr = V at *
      have hcd : cs = ((List.finRange (m + 1)).toArray.map fun x : Fin (m + 1) => Value.int .i64 (x.1 : Int)) := by
        refine Array.ext (by simp [hcs, Hm.out]) fun j h1 h2 => ?_
        have := Hcs.out j (by omega)
        rw [Array.getElem?_eq_getElem h1] at this
        injection this with this
        rw [this]; simp
      rw [hcd] at hg
      have e1 : V.cell? ⟨w.heap.size, 0, none⟩ = some (.string s) := hx.cell 0
      have hy := Blk.new V 9 #[.string (s ++ s)]
      have hx3 := hx.alloc (Obj.cells #[.string (s ++ s)] 9)
      have hg3 := hg.alloc (Obj.cells #[.string (s ++ s)] 9)
      have hb3 := hbr.alloc hbr.size (Obj.cells #[.string (s ++ s)] 9)
      have hz3 : (V.alloc (Obj.cells #[.string (s ++ s)] 9)).heap.size = V.heap.size + 1 := by simp
      clear hx hg hbr Hcs hcd hcs
      go_wp2_with fail
      have hS := intSort_any (fun x : Fin (m + 1) => (x.1 : Int)) (fun x y => cmpR s.data.toList x.1 y.1) (turnSwo s.data.toList m) 74 #[.pointer (some ⟨V.heap.size, 0, none⟩), .pointer (some ⟨w.heap.size, 0, none⟩)] (w.heap.size + 1) (List.finRange (m + 1)).toArray (V.alloc (Obj.cells #[.string (s ++ s)] 9)) hg3 eg
        (fun W hW x y => turnCmp s hs V.heap.size w.heap.size x.1 y.1 (by have := x.2; have := Hm.out; omega) (by have := y.2; have := Hm.out; omega) W ((hW _ _ _ (by omega) hy).cell 0) ((hW _ _ _ (by omega) hx3).cell 0)) (by have := Hm.out; simp; omega)
      rw [show (List.finRange (m + 1)).toArray.size = s.size from by simp [Hm.out]] at hS
      refine hS.mono ?_
      rintro e w4 ⟨rfl, d', hp, hsd, hg4, hgr⟩
      have hx4 := hx3.grown hgr (fun e => by injection e with e; omega)
      have hy4 := hy.grown hgr (fun e => by injection e with e; omega)
      have hb4 : RowKit.Below w.heap.size w w4 := hb3.grown hgr hb3.size (fun k hk => by injection hk with hk; omega)
      have hz4 : V.heap.size + 1 ≤ w4.heap.size := by have := hgr.size; omega
      have hord := turnOrd s.data.toList m Hm.out d' (by simpa using hp) hsd
      obtain ⟨o, ho⟩ : ∃ o, o = d'.toList.map (·.1) := ⟨_, rfl⟩
      rw [← ho] at hord
      have hol : o.length = s.size := hord.len
      have hnd : o.Nodup := hord.perm.nodup_iff.2 List.nodup_range
      have hcell : ∀ k, k < s.size → w4.cell? ⟨w.heap.size + 1, k, none⟩ = some (.int .i64 ((o.getD k 0 : Nat) : Int)) := fun k hk => by
        have hk2 : k < d'.size := by rw [← hol, ho] at hk; simpa using hk
        rw [hg4.cell, Array.getElem?_eq_getElem (by simpa using hk2), Array.getElem_map, ho, List.getD_eq_getElem?_getD, List.getElem?_eq_getElem (by simpa using hk2), List.getElem_map]
        rfl
      have hbz : w.heap.size + 1 < w4.heap.size := hg4.lt
      have hK4 : ∀ k, k < w.heap.size → k < w4.heap.size := fun k hk => by omega
      have Ho := Lib.hid ho
      have Hord := Lib.hid hord
      have Hol := Lib.hid hol
      have Hnd := Lib.hid hnd
      clear hS hy hx3 hg3 hb3 hgr hp hsd ho hord hol hnd hz3 hca hmk
      go_wp2
      go_loopw [9, 10, 11, 12, 40] (fun bv av _ _ iv W => ∃ (k : Nat) (A : Option Addr) (c : Nat), k ≤ s.size ∧ iv = .int .i64 k ∧ av = .int .i64 ((atK o k : Nat) : Int) ∧ bv = .slice A k c ∧ OwnU W (fun q => q < w4.heap.size) A k c (lastB s.data.toList (o.take k)) ∧ RowKit.Below w4.heap.size w4 W) (fun _ _ _ _ iv _ => s.size - (intOf iv).toNat)
      case atStart =>
        refine ⟨0, _, 0, Nat.zero_le _, rfl, rfl, rfl, ⟨rfl, .inr ⟨w4.heap.size, 0, #[], rfl, by omega, Blk.new w4 _ _, Nat.le_refl _, Nat.zero_le _, rfl, rfl⟩⟩, (Below.refl _ _).alloc (Nat.le_refl _) _⟩
      case round =>
        obtain ⟨k, A, c, hk, rfl, rfl, rfl, hown, hbr⟩ := hrel
        have hb5 : RowKit.Below w.heap.size w wr := hb4.trans (hbr.mono (by omega))
        by_cases hlt : k < s.size
        · have k0 : wr.cell? ⟨w.heap.size + 1, k, none⟩ = some (.int .i64 ((o.getD k 0 : Nat) : Int)) := (hbr.cell (p := ⟨w.heap.size + 1, k, none⟩) hbz).trans (hcell k hlt)
          have k1 : wr.cell? ⟨V.heap.size, 0, none⟩ = some (.string (s ++ s)) := (hy4.below hbr hy4.lt).cell 0
          have k2 : wr.cell? ⟨w.heap.size, 0, none⟩ = some (.string s) := (hx4.below hbr hx4.lt).cell 0
          have hat := atK_succ Hnd.out (k := k) (by rw [Hol.out]; exact hlt)
          have htk : o.take (k + 1) = o.take k ++ [o.getD k 0] := take_succ_getD o k 0 (by rw [Hol.out]; exact hlt)
          have hii : o.getD k 0 < s.size := Hord.out.lt (by rw [List.getD_eq_getElem?_getD, List.getElem?_eq_getElem (by rw [Hol.out]; exact hlt)]; exact List.getElem_mem _)
          have hlb : lastB s.data.toList (o.take (k + 1)) = lastB s.data.toList (o.take k) ++ [prevB s.data.toList (o.getD k 0)] := by rw [htk]; unfold lastB; rw [List.map_append]; rfl
          have Hat := Lib.hid hat
          have Hlb := Lib.hid hlb
          clear hat htk hlb
          generalize o.getD k 0 = i at *
          obtain ⟨p, hp⟩ : ∃ p, p = i + s.size - 1 := ⟨_, rfl⟩
          obtain ⟨tw, htw⟩ : ∃ tw, tw = s ++ s := ⟨_, rfl⟩
          have hts : tw.size = s.size + s.size := by rw [htw, ByteArray.size_append]
          have hpt : p < tw.size := by omega
          have hpt' : (p : Int) < tw.size := by omega
          have hpe : (i : Int) + (s.size : Int) - 1 = (p : Int) := by omega
          have hpb : prevB s.data.toList i = tw[p] := by
            rw [← getD_bytes tw p hpt, htw, hp]
            unfold prevB
            rw [show (s ++ s).data.toList = s.data.toList ++ s.data.toList from by simp [ByteArray.data_append]]
            rfl
          rw [← htw] at k1
          have hk8 : k ≤ 8000000000000 := by omega
          obtain ⟨A', c', wr', r1, r2, r3, r4⟩ := run_append_U (P := Tryd.prog) (wr.alloc (Obj.cells #[.int .u8 (tw[p].toNat : Int)] 5)) (fun q => q < w4.heap.size) 95 95 Tryd.underlying95 infoU8 A k c _ (hown.alloc _) ⟨wr.heap.size, 0, none⟩ 1 tw[p] (by
              rw [World.cell?_alloc_mark]; rfl) rfl hk8 (fun q hq => by have := hbr.size; simp; omega)
          have hbr2 : RowKit.Below w4.heap.size w4 wr' := (hbr.alloc hbr.size _).grown r3 (by have := hbr.size; simp; omega) fun q hq => by have := (hown.lt q hq).1; omega
          rw [← hpb, ← Hlb.out] at r2
          have Hr2 := Lib.hid r2
          have Hts := Lib.hid hts
          have Hp := Lib.hid hp
          clear hts hp htw hpb r2 r3 r4
          have qz : ((i : Int) == 0) = decide (i = 0) := by
            by_cases h : i = 0
            · simp [h]
            · rw [decide_eq_false h]; simpa using (show (i : Int) ≠ 0 by omega)
          by_cases hi0 : i = 0
          · rw [if_pos hi0] at Hat
            have qz1 : ((i : Int) == 0) = true := by rw [qz]; exact decide_eq_true hi0
            clear qz hi0
            go_wp2_with (first | (at_builtin; go_must (refine wpList_app_eq rfl (.tmp 45) (.tmp 53) 95 95 rfl _ _ _ rfl rfl r1 ?_)))
            clear r1
            go_wp2
            go_roundw
            case rel => exact ⟨k + 1, A', c', by omega, by go_num, by rw [Hat.out], rfl, Hr2.out, hbr2⟩
            case measure => simp [intOf]; omega
          · rw [if_neg hi0] at Hat
            have qz2 : ((i : Int) == 0) = false := by rw [qz]; exact decide_eq_false hi0
            clear qz
            go_wp2_with (first | (at_builtin; go_must (refine wpList_app_eq rfl (.tmp 45) (.tmp 53) 95 95 rfl _ _ _ rfl rfl r1 ?_)))
            clear r1
            go_wp2
            go_roundw
            case rel => exact ⟨k + 1, A', c', by omega, by go_num, by rw [Hat.out], rfl, Hr2.out, hbr2⟩
            case measure => simp [intOf]; omega
        · obtain rfl : k = s.size := by omega
          have e : o.take s.size = o := List.take_of_length_le (by rw [Hol.out]; exact Nat.le_refl _)
          rw [e] at hown
          have hstr := run_string_U (P := Tryd.prog) 95 9 hown Tryd.underlying95 Tryd.underlying5 Tryd.underlying9
          have hz : atK o s.size = zeroAt o := by
            unfold atK zeroAt
            rw [if_pos]
            rw [← Hol.out]
            exact List.idxOf_lt_length_of_mem (Hord.out.perm.mem_iff.2 (List.mem_range.2 h0))
          rw [hz]
          have Hz := Lib.hid hz
          clear hz e
          go_wp2
          refine bodyPost_ret (by simp [results, Tryd.results54, go_sem]; try rfl) rfl ?_
          exact ⟨o, Hord.out, rfl, hb5⟩

set_option maxRecDepth 100000 in
set_option maxHeartbeats 2000000 in
theorem turnPut_zero (w : World) : Calls Tryd.prog 54 #[.string ⟨#[]⟩] w (ToldPut ⟨#[]⟩ w) := by
  have hC := Lib.hid (wordCheck_ok ⟨#[]⟩ (by decide))
  have hmk := fun w => make_ints (P := Tryd.prog) 100 3 Tryd.underlying100 (by kernel_rfl) 0 0 rfl (by omega) w
  have hca : ∀ w, (Op.stringOp .add (⟨#[]⟩ : ByteArray) ⟨#[]⟩).run Tryd.prog w = .ok (.string (⟨#[]⟩ ++ ⟨#[]⟩)) w := fun w => run_string_add_sum w _ _ (by decide)
  have hbx := Blk.new w 9 #[.string ⟨#[]⟩]
  have hb0 : RowKit.Below w.heap.size w (w.alloc (Obj.cells #[.string ⟨#[]⟩] 9)) := (Below.refl _ _).alloc (Nat.le_refl _) _
  have c1 : (w.alloc (Obj.cells #[.string ⟨#[]⟩] 9)).cell? ⟨w.heap.size, 0, none⟩ = some (.string ⟨#[]⟩) := hbx.cell 0
  go_enter Tryd.func54, Tryd.ntmps54
  go_wp2_with fail
  generalize w.alloc (Obj.cells #[.string ⟨#[]⟩] 9) = w1 at *
  go_wp2_with fail
  refine (hC.out _).mono ?_
  rintro e w2 ⟨rfl, rfl⟩
  have hbx2 := hbx.alloc (Obj.cells (madeCells #[.int .i64 0] 0) 3)
  have hb2 := hb0.alloc hb0.size (Obj.cells (madeCells #[.int .i64 0] 0) 3)
  go_wp2
  generalize w1.heap.size = g1 at *
  generalize w1.alloc (Obj.cells (madeCells #[.int .i64 0] 0) 3) = w2 at *
  go_loopw [7, 23] (fun _ iv wr => iv = .int .i64 0 ∧ wr = w2) (fun _ iv _ => 0)
  case atStart => exact ⟨rfl, rfl⟩
  case round =>
    obtain ⟨rfl, rfl⟩ := hrel
    have e1 : wr.cell? ⟨w.heap.size, 0, none⟩ = some (.string ⟨#[]⟩) := hbx2.cell 0
    generalize wr = V at *
    have hb3 := hb2.alloc hb2.size (Obj.cells #[.string ((⟨#[]⟩ : ByteArray) ++ ⟨#[]⟩)] 9)
    go_wp2_with fail
    refine (intSort_none _ _ _ _).mono ?_
    rintro e w4 ⟨rfl, rfl⟩
    have hb4 := hb3.alloc hb3.size (Obj.cells #[] 5)
    go_wp2
    go_loopw [9, 10, 11, 12, 40] (fun bv av _ _ iv W => iv = .int .i64 0 ∧ av = .int .i64 0 ∧ OwnU W (fun q => q < w.heap.size) none 0 0 [] ∧ (∃ g, bv = .slice (some ⟨g, 0, none⟩) 0 0) ∧ RowKit.Below w.heap.size w W) (fun _ _ _ _ iv _ => 0)
    case atStart => exact ⟨rfl, rfl, OwnU.nil _ _, ⟨_, rfl⟩, hb4⟩
    case round =>
      obtain ⟨rfl, rfl, hown, ⟨g, rfl⟩, hbr⟩ := hrel
      have hstr : (convert 95 9 (.slice (some ⟨g, 0, none⟩) 0 0)).run Tryd.prog wr = .ok (.string ⟨#[]⟩) wr := by
        refine run_string_of wr 95 9 5 ⟨g, 0, none⟩ 0 0 [] rfl Tryd.underlying95 Tryd.underlying5 Tryd.underlying9 fun j hj => by simp at hj
      go_wp2
      refine bodyPost_ret (by simp [results, Tryd.results54, go_sem]; try rfl) rfl ?_
      exact ⟨[], ⟨by simp, by simp⟩, rfl, hbr⟩
theorem turnPut_ok (s : ByteArray) (hs : s.size ≤ 200) (w : World) : Calls Tryd.prog 54 #[.string s] w (ToldPut s w) := by
  rcases Nat.eq_zero_or_pos s.size with h0 | h0
  · obtain rfl : s = ⟨#[]⟩ := by
      obtain ⟨⟨l⟩⟩ := s
      cases l with
      | nil => rfl
      | cons a l => simp [ByteArray.size] at h0
    exact turnPut_zero w
  · exact turnPut_pos s h0 hs w
set_option maxHeartbeats 1000000 in
theorem turnPut_no (s : ByteArray) (hs : 200 < s.size) (w : World) : Calls Tryd.prog 54 #[.string s] w fun e w' => e = .returned (.tuple #[.string ⟨#[]⟩, .int .i64 0, .int .i64 2]) ∧ RowKit.Below w.heap.size w w' := by
  have hC := Lib.hid (wordCheck_no s hs)
  have hbx := Blk.new w 9 #[.string s]
  have hb0 : RowKit.Below w.heap.size w (w.alloc (Obj.cells #[.string s] 9)) := (Below.refl _ _).alloc (Nat.le_refl _) _
  have c1 : (w.alloc (Obj.cells #[.string s] 9)).cell? ⟨w.heap.size, 0, none⟩ = some (.string s) := hbx.cell 0
  go_enter Tryd.func54, Tryd.ntmps54
  go_wp2_with fail
  generalize w.alloc (Obj.cells #[.string s] 9) = w1 at *
  go_wp2_with fail
  refine (hC.out _).mono ?_
  rintro e w2 ⟨rfl, rfl⟩
  go_wp2
  refine bodyPost_ret (by simp [results, Tryd.results54, go_sem]; try rfl) rfl ?_
  exact ⟨rfl, hb0⟩
/- turns: of banana. -/
end Go.Proofs.YtigbnldmjafgmaaDoor

/- The walk of the laws' helper good (of quilltop): no error among those given. -/
namespace Go.Proofs.YtigbnldmjafgmaaDoor
open Go.RowKit
set_option linter.unusedVariables false

set_option maxHeartbeats 400000 in
theorem notOkT_any (x : Int) (w : World) :
    Calls Tryd.prog 57 #[.int .i64 x] w fun e w' => e = .returned (.bool (x != 0)) ∧ w = w' := by
  go_enter Tryd.func57, Tryd.ntmps57
  go_wp2
  go_ret
  exact ⟨rfl, rfl⟩

/-- Where the first error stands, or -1. -/
def firstBadT : List Int → Nat → Int
  | [], _ => -1
  | x :: l, k => if x = 0 then firstBadT l (k + 1) else (k : Int)
theorem firstBadT_neg : ∀ (l : List Int) (k : Nat), decide (0 ≤ firstBadT l k) = !(l.all (· == 0))
  | [], k => by simp [firstBadT]
  | x :: l, k => by
    unfold firstBadT
    by_cases h : x = 0
    · rw [if_pos h, firstBadT_neg l (k + 1)]; simp [h]
    · rw [if_neg h]; simp [h]

set_option maxHeartbeats 400000 in
theorem indexBadT_any (g o n c : Nat) (es : List Int) (hes : es.length = n) (hn : n ≤ 1000) (w : World) (hc : ∀ j, j < n → w.cell? ⟨g, o + j, none⟩ = some (.int .i64 (es.getD j 0))) :
    Calls Tryd.prog 77 #[.slice (some ⟨g, o, none⟩) n c, .func (Fn.func 57) #[] #[]] w
      fun e w' => e = .returned (.int .i64 (firstBadT es 0)) ∧ w = w' := by
  have Hc := Lib.hid hc
  clear hc
  go_enter Tryd.func77, Tryd.ntmps77
  go_wp2
  go_loop [5, 8] (fun _ i => ∃ k : Nat, k ≤ n ∧ i = .int .i64 k ∧ firstBadT es 0 = firstBadT (es.drop k) k) (fun _ i => n - (intOf i).toNat)
  case atStart => exact ⟨0, Nat.zero_le _, rfl, by simp⟩
  case round =>
    obtain ⟨k, hk, rfl, hf⟩ := hrel
    have Hf := Lib.hid hf
    clear hf
    by_cases hlt : k < n
    · have hck := Hc.out k hlt
      have hd : es.drop k = es.getD k 0 :: es.drop (k + 1) := drop_getD es k 0 (by omega)
      have Hd := Lib.hid hd
      clear hd
      by_cases h0 : es.getD k 0 = 0
      · rw [h0] at hck
        have hv : ∀ w, Calls Tryd.prog 57 #[.int .i64 0] w fun e w' => e = .returned (.bool false) ∧ w = w' := fun w => notOkT_any 0 w
        have Hv := Lib.hid hv
        have H0 := Lib.hid h0
        clear hv h0
        go_wp2_with fail
        refine (Hv.out _).mono ?_
        rintro e w1 ⟨rfl, rfl⟩
        go_wp2
        go_round
        case rel => exact ⟨k + 1, by omega, by go_num, by rw [Hf.out, Hd.out, firstBadT, if_pos H0.out]⟩
        case measure => simp [intOf]; omega
      · have hv : ∀ w, Calls Tryd.prog 57 #[.int .i64 (es.getD k 0)] w fun e w' => e = .returned (.bool true) ∧ w = w' := fun w =>
          (notOkT_any (es.getD k 0) w).mono fun e w' ⟨he, hw⟩ => ⟨by rw [he]; congr 2; simpa using h0, hw⟩
        generalize es.getD k 0 = v at *
        have Hv := Lib.hid hv
        have H0 := Lib.hid h0
        clear hv h0
        go_wp2_with fail
        refine (Hv.out _).mono ?_
        rintro e w1 ⟨rfl, rfl⟩
        go_wp2
        go_ret
        exact ⟨by rw [Hf.out, Hd.out, firstBadT, if_neg H0.out]; rfl, rfl⟩
    · obtain rfl : k = n := by omega
      go_wp2
      go_ret
      exact ⟨by rw [Hf.out, List.drop_of_length_le (by omega)]; rfl, rfl⟩

set_option maxHeartbeats 400000 in
theorem goodT_any (g o n c : Nat) (es : List Int) (hes : es.length = n) (hn : n ≤ 1000) (w : World) (hc : ∀ j, j < n → w.cell? ⟨g, o + j, none⟩ = some (.int .i64 (es.getD j 0))) :
    Calls Tryd.prog 32 #[.slice (some ⟨g, o, none⟩) n c] w fun e w' => e = .returned (.bool (es.all (· == 0))) ∧ w = w' := by
  have hcf : Calls Tryd.prog 56 #[.slice (some ⟨g, o, none⟩) n c, .func (Fn.func 57) #[] #[]] w
      fun e w' => e = .returned (.bool (!(es.all (· == 0)))) ∧ w = w' := by
    have hr := firstBadT_neg es 0
    have Hr := Lib.hid hr
    clear hr
    have H1 := Lib.hid (indexBadT_any g o n c es hes hn w hc)
    clear hc
    go_enter Tryd.func56, Tryd.ntmps56
    go_wp2_with fail
    refine H1.out.mono ?_
    rintro e w1 ⟨rfl, rfl⟩
    generalize firstBadT es 0 = v at *
    go_wp2
    go_ret
    exact ⟨congrArg (fun b => Ending.returned (.bool b)) Hr.out, rfl⟩
  have Hcf := Lib.hid hcf
  clear hcf hc
  go_enter Tryd.func32, Tryd.ntmps32
  go_wp2_with fail
  refine Hcf.out.mono ?_
  rintro e w1 ⟨rfl, rfl⟩
  go_wp2
  go_ret
  exact ⟨by simp, rfl⟩

/-- At a slice that the call has just made. -/
theorem goodT_fresh (es : List Int) (n c : Nat) (hes : es.length = n) (hn : n ≤ 1000) (w : World) (T : TypeId) :
    Calls Tryd.prog 32 #[.slice (some ⟨w.heap.size, 0, none⟩) n c] (w.alloc (.cells (es.map (Value.int .i64)).toArray T))
      fun e w' => e = .returned (.bool (es.all (· == 0))) ∧ Below w.heap.size w w' := by
  refine (goodT_any w.heap.size 0 n c es hes hn _ fun j hj => ?_).mono fun e w' ⟨he, hw⟩ => ⟨he, by rw [← hw]; exact (Below.refl _ _).alloc (Nat.le_refl _) _⟩
  rw [Nat.zero_add, World.cell?_alloc_mark]
  simp [hes, hj, List.getD]

end Go.Proofs.YtigbnldmjafgmaaDoor

/- The walk of the helper works. -/
namespace Go.Proofs.YtigbnldmjafgmaaDoor
open Go.RowKit
set_option linter.unusedVariables false

theorem works_hello : checkE 5 [(0, 1, ⟨#[74]⟩)] = 0 ∧ app [104, 101, 108, 108, 111] 0 [(0, 1, ⟨#[74]⟩)] = [74, 101, 108, 108, 111] := by decide +kernel
set_option maxRecDepth 100000 in
set_option maxHeartbeats 1000000 in
theorem works_any (w : World) : Calls Tryd.prog 27 #[] w fun e w' => e = .returned (.bool true) ∧ Below w.heap.size w w' := by
  have hP := Lib.hid (turnPut_ok ⟨#[98, 97, 110, 97, 110, 97]⟩ (by decide))
  have hB : IsOrd (⟨#[98, 97, 110, 97, 110, 97]⟩ : ByteArray).data.toList [5, 3, 1, 0, 4, 2] := ⟨by decide, by unfold ltR; decide⟩
  have c1 : ∀ w A c, Reads w w.heap.size A 1 3 [.int .i64 0, .int .i64 1, .string ⟨#[74]⟩] → Calls Tryd.prog 55 #[.string ⟨#[104, 101, 108, 108, 111]⟩, .slice A 1 c] w fun e w' => e = .returned (.tuple #[.string ⟨#[74, 101, 108, 108, 111]⟩, .int .i64 0]) ∧ Below w.heap.size w w' := fun w A c h => by
    have := apply_ok ⟨#[104, 101, 108, 108, 111]⟩ A 1 c w.heap.size [(0, 1, ⟨#[74]⟩)] rfl works_hello.1 w h (Nat.le_refl _)
    have e := works_hello.2
    have e1 : (ByteArray.mk #[104, 101, 108, 108, 111]).data.toList = [104, 101, 108, 108, 111] := rfl
    rw [e1, e] at this
    exact this
  have C1 := Lib.hid c1
  clear c1
  have hbd := buildEdit
  go_enter Tryd.func27, Tryd.ntmps27
  go_wp2_with fail
  refine (hP.out _).mono ?_
  rintro e w1 ⟨o, ho, rfl, hb1⟩
  obtain rfl := ho.unique hB
  have e1 : (⟨(lastB (⟨#[98, 97, 110, 97, 110, 97]⟩ : ByteArray).data.toList [5, 3, 1, 0, 4, 2]).toArray⟩ : ByteArray) = ⟨#[110, 110, 98, 97, 97, 97]⟩ := by decide
  have e2 : zeroAt [5, 3, 1, 0, 4, 2] = 3 := by decide
  rw [e1, e2]
  clear e1 e2 ho hB hP
  go_wp2_with fail
  refine (C1.out _ _ _ (Reads.made w1 #[.int .i64 0, .int .i64 1, .string ⟨#[74]⟩] _ 1 3 rfl)).mono ?_
  rintro e w2 ⟨rfl, hb2⟩
  have hb3 : Below w.heap.size w w2 := (hb1.alloc hb1.size _).trans (hb2.mono (by have := hb1.size; simp; omega))
  go_wp2
  all_goals (go_ret; exact ⟨by first | rfl | simp, hb3⟩)
end Go.Proofs.YtigbnldmjafgmaaDoor

/- TopHouse's walk: a text in a collection behaves like one in its own editor, and saved or compacted texts survive a crash. -/
namespace Go.Proofs.YtigbnldmjafgmaaDoor
open Go.RowKit
set_option linter.unusedVariables false

theorem houseD_told {p : Pg} {k n : Int} {t : ByteArray} (hn : p.name = one3) (hk : 2 ≤ k ∧ k ≤ 10) (h9 : k ≠ 9) : houseD [p] (dd k n one3 t) = ((pageD p (dd k n one3 t)).1, (pageD p (dd k n one3 t)).2.1, [(pageD p (dd k n one3 t)).2.2]) := houseD_single hn rfl hk h9

/-- A deed at the one page, its outcome given. -/
theorem top_do {w0 w : World} {gh ge : Nat} {p p' : Pg} {t T : ByteArray} {B O : List ByteArray} {K : Nat → Prop} {E : Int} (h : HouseEd w0 gh [p] ge t B O K w) (ht : Tab w) (hp : p.name = one3) (d : Dd) (Ad : Option Addr) (cd : Nat) (hd : DeedAt w { d with name := one3 } Ad cd) (hk : 2 ≤ d.kind ∧ d.kind ≤ 10) (h9 : d.kind ≠ 9) (hR : pageD p { d with name := one3 } = (T, E, p')) :
    Calls Tryd.prog 12 #[.pointer (some ⟨gh, 0, none⟩), .agg #[.int .i64 d.kind, .int .i64 d.n, .string ⟨#[111, 110, 101]⟩, .string d.text, .slice Ad d.edits.length cd]] w fun e w' => e = .returned (.tuple #[.string T, .int .i64 E]) ∧ HouseEd w0 gh [p'] ge t B O K w' ∧ Kept K w w' := by
  have := h.do_ ht { d with name := one3 } Ad cd hd
  rw [houseD_single (d := { d with name := one3 }) hp rfl hk h9, hR] at this
  exact this
/-- A deed without edits at the one page. -/
theorem top_dd {w0 w : World} {gh ge : Nat} {p p' : Pg} {t T : ByteArray} {B O : List ByteArray} {K : Nat → Prop} {E : Int} (k n : Int) (h : HouseEd w0 gh [p] ge t B O K w) (ht : Tab w) (hp : p.name = one3) (hm : -9223372036854775808 ≤ n ∧ n ≤ 9223372036854775807) (hk : 2 ≤ k ∧ k ≤ 10) (h9 : k ≠ 9) (hR : pageD p (dd k n one3 ⟨#[]⟩) = (T, E, p')) :
    Calls Tryd.prog 12 #[.pointer (some ⟨gh, 0, none⟩), .agg #[.int .i64 k, .int .i64 n, .string ⟨#[111, 110, 101]⟩, .string ⟨#[]⟩, .slice none 0 0]] w fun e w' => e = .returned (.tuple #[.string T, .int .i64 E]) ∧ HouseEd w0 gh [p'] ge t B O K w' ∧ Kept K w w' := by
  have := h.do_ ht (dd k n one3 ⟨#[]⟩) none 0 (dd_at w k n one3 ⟨#[]⟩ (by decide) hm)
  rw [houseD_told hp hk h9, hR] at this
  exact this
theorem ends_with {B : List ByteArray} (h : B ≠ []) : B = B.dropLast ++ [B.getLastD ⟨#[]⟩] := by
  rw [List.getLastD_eq_getLast?, List.getLast?_eq_some_getLast h]
  exact (List.dropLast_concat_getLast h).symm

set_option maxRecDepth 100000 in
set_option maxHeartbeats 8000000 in
theorem topHouse_walk (s : ByteArray) (A : Option Addr) (len cap : Nat) (l : List DRow) (packs : Bool) {w : World} (hs : s.size ≤ 140737488351232) (hl : DeedsIn w A len cap l) (ht : Tab w) :
    Calls Tryd.prog 9 #[.string s, .slice A len cap, .bool packs] w fun e w' => e = .returned (.bool true) ∧ Below w.heap.size w w' := by
  have hlen : len ≤ 1954687338211 := by have := hl.2.2.1; omega
  have Ht := Lib.hid (fun (w1 : World) (hb : Below w.heap.size w w1) => ht.after hb)
  have bk := buildDeedK
  have bt := buildDeedT
  have bn : ∀ (w : World) (k n : Int) (name : ByteArray), (Instr.build 25 #[(0, .int .i64 k), (2, .string name), (1, .int .i64 n)]).run Tryd.prog w = .ok (.agg #[.int .i64 k, .int .i64 n, .string name, .string ⟨#[]⟩, .slice none 0 0]) w := fun w k n name => run_build w 25 _ _ (by kernel_rfl)
  have N := Lib.hid (Lone.new (w := w))
  go_enter Tryd.func9, Tryd.ntmps9
  go_wp2_with fail
  refine N.out.mono ?_
  rintro e w1 ⟨rfl, h1⟩
  have Wk := Lib.hid (works_any w1)
  obtain ⟨gh, hgh⟩ : ∃ g, g = w.heap.size := ⟨_, rfl⟩
  rw [← hgh] at h1
  rw [← hgh]
  clear N hgh
  go_wp2_with fail
  refine Wk.out.mono ?_
  rintro e w2 ⟨rfl, hb2⟩
  have h2 := h1.after hb2
  clear Wk h1 hb2
  by_cases h200 : s.size ≤ 200
  case neg =>
    have N2 := Lib.hid (newE_no s (by omega) w2)
    have e1 := houseD_first s
    rw [if_pos (by omega)] at e1
    have q1 : decide ((200 : Int) < (s.size : Int)) = true := decide_eq_true (by omega)
    have q1' : decide (200 < s.size) = true := decide_eq_true (by omega)
    have D := fun (w3 : World) (h : Lone w gh [] w3) => do_told 1 0 one3 s e1 (by decide) (by decide) h (Ht.out _ h.below)
    have D : ∀ w3, Lone w gh [] w3 → Calls Tryd.prog 12 #[.pointer (some ⟨gh, 0, none⟩), .agg #[.int .i64 1, .int .i64 0, .string ⟨#[111, 110, 101]⟩, .string s, .slice none 0 0]] w3 fun e w' => e = .returned (.tuple #[.string ⟨#[]⟩, .int .i64 2]) ∧ Lone w gh [] w' := D
    have D := Lib.hid D
    clear e1 h200
    go_wp2_with fail
    refine N2.out.mono ?_
    rintro e w3 ⟨rfl, rfl⟩
    go_wp2_with fail
    refine (D.out _ h2).mono ?_
    rintro e w4 ⟨rfl, h4⟩
    have hbf := h4.below
    go_wp2
    go_ret
    exact ⟨rfl, hbf⟩
  have N2 := Lib.hid (newE_ok s h200 (fun k => k < w2.heap.size) w2 (fun k hk => hk))
  have e1 := houseD_first s
  rw [if_neg (by omega)] at e1
  go_wp2_with fail
  refine N2.out.mono ?_
  rintro e w3 ⟨rfl, hed, hb3, _⟩
  have h3 := HouseEd.new h2 hed hb3
  obtain ⟨ge, hge⟩ : ∃ g, g = w2.heap.size := ⟨_, rfl⟩
  rw [← hge] at h3
  rw [← hge]
  clear hge
  have D := h3.do_ (Ht.out _ h3.lone.below) (dd 1 0 one3 s) none 0 (dd_at w3 1 0 one3 s (by decide) (by decide))
  rw [e1] at D
  have D : Calls Tryd.prog 12 #[.pointer (some ⟨gh, 0, none⟩), .agg #[.int .i64 1, .int .i64 0, .string ⟨#[111, 110, 101]⟩, .string s, .slice none 0 0]] w3 fun e w' => e = .returned (.tuple #[.string ⟨#[]⟩, .int .i64 0]) ∧ HouseEd w gh [newP one3 s] ge s [] [] (fun _ => False) w' ∧ Kept (fun _ => False) w3 w' := D
  have D := Lib.hid D
  clear e1 h2 hed hb3 h3 N2 h200
  go_wp2_with fail
  refine D.out.mono ?_
  rintro e w4 ⟨rfl, h4, _⟩
  clear D
  go_wp2
  go_loopw [9, 13, 14, 57] (fun _ _ _ i wr => ∃ (k : Nat) (p : Pg), k ≤ len ∧ i = .int .i64 k ∧ p.name = one3 ∧ HouseEd w gh [p] ge p.t p.B p.O (fun _ => False) wr) (fun _ _ _ i _ => len - (intOf i).toNat)
  case atStart => exact ⟨0, newP one3 s, Nat.zero_le _, rfl, rfl, h4⟩
  case round =>
    clear h4
    obtain ⟨k, p, hk, rfl, hpn, hH⟩ := hrel
    by_cases hlt : k < len
    · obtain ⟨b, o, d, Ad, cd, rfl, hx, hd, _, _, c0, c1, c2, c3, c4⟩ := deeds_at hl hH.lone.below k hlt
      have hbr := hH.lone.below
      have hpo := hH.lone.pg p (by simp)
      have hba : Below wr.heap.size wr (wr.alloc (Obj.cells #[.int .i64 d.kind, .int .i64 d.n, .string ⟨#[111, 110, 101]⟩, .string d.text, .slice Ad d.edits.length cd] 25)) := (Below.refl _ _).alloc (Nat.le_refl _) _
      have hbd := Blk.new wr 25 #[.int .i64 d.kind, .int .i64 d.n, .string ⟨#[111, 110, 101]⟩, .string d.text, .slice Ad d.edits.length cd]
      have hF := hH.fresh hba
      have hsz : (wr.alloc (Obj.cells #[.int .i64 d.kind, .int .i64 d.n, .string ⟨#[111, 110, 101]⟩, .string d.text, .slice Ad d.edits.length cd] 25)).heap.size = wr.heap.size + 1 := by simp
      rw [hsz] at hF
      have hd1 : DeedAt (wr.alloc (Obj.cells #[.int .i64 d.kind, .int .i64 d.n, .string ⟨#[111, 110, 101]⟩, .string d.text, .slice Ad d.edits.length cd] 25)) { d with name := one3 } Ad cd := ⟨(hd.after hba).eds, by show one3.size ≤ _; decide, hd.num⟩
      have hedw := hd1.eds
      have htb := Ht.out _ (chain hba hbr)
      have a0 := hbd.cell 0
      have a1 := hbd.cell 1
      have a2 := hbd.cell 2
      have a3 := hbd.cell 3
      have a4 : (wr.alloc (Obj.cells #[.int .i64 d.kind, .int .i64 d.n, .string ⟨#[111, 110, 101]⟩, .string d.text, .slice Ad d.edits.length cd] 25)).cell? ⟨wr.heap.size, 4, none⟩ = some (.slice Ad d.edits.length cd) := hbd.cell 4
      have Hd := Lib.hid (fun (w2 : World) (h : Below w.heap.size w w2) => (deeds_row hl h hx).eds)
      have Hpn := Lib.hid hpn
      have Hst := Lib.hid (hH.stay hba)
      clear hH hd hba hsz hbr hx
      by_cases k2 : d.kind = 2
      · have q2 : (d.kind == 2) = true := by rw [k2]; rfl
        have hR0 := pageD2 (p := p) (d := { d with name := one3 }) k2
        have hk10 : 2 ≤ d.kind ∧ d.kind ≤ 10 := by omega
        have h9 : d.kind ≠ 9 := by omega
        have hln : d.edits.length = d.edits.length := rfl
        by_cases hnil : d.edits = []
        · have hR : pageD p { d with name := one3 } = (⟨#[]⟩, 5, p) := by rw [hR0]; unfold editP; rw [if_pos hnil]
          have D := Lib.hid (top_do hF htb Hpn.out d Ad cd hd1 hk10 h9 hR)
          have Hl0 := Lib.hid (show d.edits.length = 0 by rw [hnil]; rfl)
          clear k2 hR hR0 hedw hF hd1 htb hk10 h9 hnil hpn hln
          go_wp2_with fail
          refine D.out.mono ?_
          rintro e w6 ⟨rfl, hH6, hk6⟩
          have g4 : w6.cell? ⟨wr.heap.size, 4, none⟩ = some (.slice Ad d.edits.length cd) := by rw [← a4]; simp only [World.cell?, hk6.block _ ⟨Nat.le_refl _, Nat.lt_succ_self _⟩]
          obtain ⟨K', hE'⟩ := hH6.at_
          have N := do_nil ge p.t hpo.text p.B p.O K' w6 hE' Ad cd
          rw [show (Value.slice Ad 0 cd) = .slice Ad d.edits.length cd from by rw [Hl0.out]] at N
          have N := Lib.hid N
          clear a0 a1 a2 a3 a4 D hE' hbd Hst
          go_wp2_with fail
          refine N.out.mono ?_
          rintro e w7 ⟨rfl, hb7⟩
          have hH7 := (hH6.stay hb7).forget
          clear hH6 N g4
          go_wp2
          go_roundw
          case rel => exact ⟨k + 1, p, by omega, by go_num, Hpn.out, hH7⟩
          case measure => simp only [intOf]; omega
        by_cases hE : leafE p.t p.H d.edits = 0
        · obtain ⟨hck, _⟩ := leafE_zero hE
          have e2 : leafT p.t p.H d.edits = ⟨(app p.t.data.toList 0 d.edits).toArray⟩ := by unfold leafT; rw [if_pos hE]
          obtain ⟨p', hp'⟩ : ∃ p', (editP p d.edits).2 = p' := ⟨_, rfl⟩
          have hE1 : editP p d.edits = (0, p') := by
            rw [← hp']; unfold editP; rw [if_neg hnil, if_neg (by rw [hE]; decide)]
          have hp1 : p'.t = ⟨(app p.t.data.toList 0 d.edits).toArray⟩ ∧ p'.B = (p.B ++ [p.t]).drop (p.B.length + 1 - 30) ∧ p'.O = [] ∧ p'.name = p.name := by
            rw [← hp']; unfold editP; rw [if_neg hnil, if_neg (by rw [hE]; decide)]; exact ⟨e2, rfl, rfl, rfl⟩
          have hR : pageD p { d with name := one3 } = (⟨#[]⟩, 0, p') := by rw [hR0]; exact congrArg (Prod.mk _) hE1
          have D := Lib.hid (top_do hF htb Hpn.out d Ad cd hd1 hk10 h9 hR)
          have hpos : 0 < d.edits.length := List.length_pos_iff.2 hnil
          have DY := Lib.hid (fun (K1 : Nat → Prop) (w6 : World) (hb : Below w.heap.size w w6) (hK : ∀ k, K1 k → k < w6.heap.size) (hE' : EdAt w6 K1 ge p.t p.B p.O) => do_yes ge p.t p.B p.O K1 w6 hK (by have := hpo.few; omega) hE' Ad _ cd w6.heap.size d.edits rfl hck hpos (Hd.out _ hb).at_ (Nat.le_refl _))
          rw [← hp1.1, ← hp1.2.1] at DY
          have Hp1 := Lib.hid hp1
          clear k2 hR hR0 hedw hF hd1 htb hk10 h9 hnil hpn hln hE e2 hp' hE1 hp1 hpos hck
          go_wp2_with fail
          refine D.out.mono ?_
          rintro e w6 ⟨rfl, hH6, hk6⟩
          have g4 : w6.cell? ⟨wr.heap.size, 4, none⟩ = some (.slice Ad d.edits.length cd) := by rw [← a4]; simp only [World.cell?, hk6.block _ ⟨Nat.le_refl _, Nat.lt_succ_self _⟩]
          have N := Lib.hid (hH6.step (fun K1 hK hE' => DY.out K1 w6 hH6.lone.below hK hE'))
          clear a0 a1 a2 a3 a4 D hbd Hst DY
          go_wp2_with fail
          refine N.out.mono ?_
          rintro e w7 ⟨rfl, hH7, _⟩
          have hH7 := hH7.forget
          clear hH6 N g4
          go_wp2
          go_roundw
          case rel => exact ⟨k + 1, p', by omega, by go_num, Hp1.out.2.2.2.trans Hpn.out, by rw [Hp1.out.2.2.1]; exact hH7⟩
          case measure => simp only [intOf]; omega
        obtain ⟨E, hEE⟩ : ∃ E, leafE p.t p.H d.edits = E := ⟨_, rfl⟩
        have hR : pageD p { d with name := one3 } = (⟨#[]⟩, E, p) := by rw [hR0]; unfold editP; rw [if_neg hnil, if_pos hE, hEE]
        have D := Lib.hid (top_do hF htb Hpn.out d Ad cd hd1 hk10 h9 hR)
        have hE0 : E ≠ 0 := by rw [← hEE]; exact hE
        have q0 : (E == 0) = false := by rw [beq_eq_false_iff_ne]; exact hE0
        by_cases h11 : E = 11
        · have q11 : (E != 11) = false := by rw [h11]; rfl
          clear k2 hR hR0 hedw hF hd1 htb hk10 h9 hnil hpn hln hE hEE hE0 h11
          go_wp2_with fail
          refine D.out.mono ?_
          rintro e w6 ⟨rfl, hH6, hk6⟩
          have hH6 := hH6.forget
          clear a0 a1 a2 a3 a4 D hbd Hst
          go_wp2
          go_roundw
          case rel => exact ⟨k + 1, p, by omega, by go_num, Hpn.out, hH6⟩
          case measure => simp only [intOf]; omega
        have q11 : (E != 11) = true := by simpa using h11
        have hck : checkE p.t.size d.edits = E := by
          unfold leafE at hEE
          by_cases hc : checkE p.t.size d.edits ≠ 0
          · rw [if_pos hc] at hEE; exact hEE
          · rw [if_neg hc] at hEE
            split at hEE
            · exact absurd hEE.symm h11
            · exact absurd hEE.symm hE0
        clear k2 hR hR0 hedw hF hd1 htb hk10 h9 hnil hpn hln hE hEE h11
        go_wp2_with fail
        refine D.out.mono ?_
        rintro e w6 ⟨rfl, hH6, hk6⟩
        have g4 : w6.cell? ⟨wr.heap.size, 4, none⟩ = some (.slice Ad d.edits.length cd) := by rw [← a4]; simp only [World.cell?, hk6.block _ ⟨Nat.le_refl _, Nat.lt_succ_self _⟩]
        obtain ⟨K', hE'⟩ := hH6.at_
        have hed6 := Hd.out _ hH6.lone.below
        have N := Lib.hid (do_no ge p.t (by have := hpo.text; omega) p.B p.O K' w6 hE' Ad _ cd w6.heap.size d.edits hed6.small rfl hed6.ok E hck hE0 hed6.at_ (Nat.le_refl _))
        clear a0 a1 a2 a3 a4 D hE' hbd Hst hck hed6 hE0
        go_wp2_with fail
        refine N.out.mono ?_
        rintro e w7 ⟨rfl, hb7⟩
        have hH7 := (hH6.stay hb7).forget
        clear hH6 N g4
        go_wp2
        go_roundw
        case rel => exact ⟨k + 1, p, by omega, by go_num, Hpn.out, hH7⟩
        case measure => simp only [intOf]; omega
      by_cases k3 : d.kind = 3
      · have q2 : (d.kind == 2) = false := by rw [beq_eq_false_iff_ne]; omega
        have q3 : (d.kind == 3) = true := by rw [k3]; rfl
        have hR0 := pageD3 (p := p) (d := { d with name := one3 }) k3
        have hk10 : 2 ≤ d.kind ∧ d.kind ≤ 10 := by omega
        have h9 : d.kind ≠ 9 := by omega
        by_cases hnil : p.B = []
        · have hR : pageD p { d with name := one3 } = (⟨#[]⟩, 4, p) := by rw [hR0]; unfold backP; rw [if_pos hnil]
          have D := Lib.hid (top_do hF htb Hpn.out d Ad cd hd1 hk10 h9 hR)
          have Hnil := Lib.hid hnil
          clear k3 hR hR0 hedw hF hd1 htb hk10 h9 hnil hpn
          go_wp2_with fail
          refine D.out.mono ?_
          rintro e w6 ⟨rfl, hH6, hk6⟩
          obtain ⟨K', hE'⟩ := hH6.at_
          rw [Hnil.out] at hE'
          have N := Lib.hid (undo_no ge p.t p.O K' w6 hE')
          clear a0 a1 a2 a3 a4 D hE' hbd Hst
          go_wp2_with fail
          refine N.out.mono ?_
          rintro e w7 ⟨rfl, hb7⟩
          have hH7 := (hH6.stay hb7).forget
          clear hH6 N
          go_wp2
          go_roundw
          case rel => exact ⟨k + 1, p, by omega, by go_num, Hpn.out, hH7⟩
          case measure => simp only [intOf]; omega
        by_cases hf : fits p.H (p.B.getLastD ⟨#[]⟩)
        · obtain ⟨p', hp'⟩ : ∃ p', (backP p).2 = p' := ⟨_, rfl⟩
          have hE1 : backP p = (0, p') := by rw [← hp']; unfold backP; rw [if_neg hnil, if_pos hf]
          have hp1 : p'.t = p.B.getLastD ⟨#[]⟩ ∧ p'.B = p.B.dropLast ∧ p'.O = p.O ++ [p.t] ∧ p'.name = p.name := by
            rw [← hp']; unfold backP; rw [if_neg hnil, if_pos hf]; exact ⟨rfl, rfl, rfl, rfl⟩
          have hR : pageD p { d with name := one3 } = (⟨#[]⟩, 0, p') := by rw [hR0]; exact congrArg (Prod.mk _) hE1
          have D := Lib.hid (top_do hF htb Hpn.out d Ad cd hd1 hk10 h9 hR)
          have hew := ends_with hnil
          have hfew := hpo.few
          have hdl : (p.B.dropLast).length ≤ 1000000 := by rw [List.length_dropLast]; omega
          have DY := Lib.hid (fun (K1 : Nat → Prop) (w6 : World) (hK : ∀ k, K1 k → k < w6.heap.size) (hE' : EdAt w6 K1 ge p.t p.B p.O) => undo_yes ge p.t p.B.dropLast p.O (p.B.getLastD ⟨#[]⟩) K1 w6 hK (by omega) hdl (by rw [← hew]; exact hE'))
          rw [← hp1.1, ← hp1.2.1, ← hp1.2.2.1] at DY
          have Hp1 := Lib.hid hp1
          clear k3 hR hR0 hedw hF hd1 htb hk10 h9 hnil hpn hf hp' hE1 hp1 hew hfew hdl
          go_wp2_with fail
          refine D.out.mono ?_
          rintro e w6 ⟨rfl, hH6, hk6⟩
          have N := Lib.hid (hH6.step (fun K1 hK hE' => DY.out K1 w6 hK hE'))
          clear a0 a1 a2 a3 a4 D hbd Hst DY
          go_wp2_with fail
          refine N.out.mono ?_
          rintro e w7 ⟨rfl, hH7, _⟩
          have hH7 := hH7.forget
          clear hH6 N
          go_wp2
          go_roundw
          case rel => exact ⟨k + 1, p', by omega, by go_num, Hp1.out.2.2.2.trans Hpn.out, hH7⟩
          case measure => simp only [intOf]; omega
        have hR : pageD p { d with name := one3 } = (⟨#[]⟩, 11, p) := by rw [hR0]; unfold backP; rw [if_neg hnil, if_neg hf]
        have D := Lib.hid (top_do hF htb Hpn.out d Ad cd hd1 hk10 h9 hR)
        clear k3 hR hR0 hedw hF hd1 htb hk10 h9 hnil hpn hf
        go_wp2_with fail
        refine D.out.mono ?_
        rintro e w6 ⟨rfl, hH6, hk6⟩
        have hH6 := hH6.forget
        clear a0 a1 a2 a3 a4 D hbd Hst
        go_wp2
        go_roundw
        case rel => exact ⟨k + 1, p, by omega, by go_num, Hpn.out, hH6⟩
        case measure => simp only [intOf]; omega
      by_cases k4 : d.kind = 4
      · have q2 : (d.kind == 2) = false := by rw [beq_eq_false_iff_ne]; omega
        have q3 : (d.kind == 3) = false := by rw [beq_eq_false_iff_ne]; omega
        have q4 : (d.kind == 4) = true := by rw [k4]; rfl
        have hR0 := pageD4 (p := p) (d := { d with name := one3 }) k4
        have hk10 : 2 ≤ d.kind ∧ d.kind ≤ 10 := by omega
        have h9 : d.kind ≠ 9 := by omega
        by_cases hnil : p.O = []
        · have hR : pageD p { d with name := one3 } = (⟨#[]⟩, 4, p) := by rw [hR0]; unfold onP; rw [if_pos hnil]
          have D := Lib.hid (top_do hF htb Hpn.out d Ad cd hd1 hk10 h9 hR)
          have Hnil := Lib.hid hnil
          clear k4 hR hR0 hedw hF hd1 htb hk10 h9 hnil hpn
          go_wp2_with fail
          refine D.out.mono ?_
          rintro e w6 ⟨rfl, hH6, hk6⟩
          obtain ⟨K', hE'⟩ := hH6.at_
          rw [Hnil.out] at hE'
          have N := Lib.hid (redo_no ge p.t p.B K' w6 hE')
          clear a0 a1 a2 a3 a4 D hE' hbd Hst
          go_wp2_with fail
          refine N.out.mono ?_
          rintro e w7 ⟨rfl, hb7⟩
          have hH7 := (hH6.stay hb7).forget
          clear hH6 N
          go_wp2
          go_roundw
          case rel => exact ⟨k + 1, p, by omega, by go_num, Hpn.out, hH7⟩
          case measure => simp only [intOf]; omega
        by_cases hf : fits p.H (p.O.getLastD ⟨#[]⟩)
        · obtain ⟨p', hp'⟩ : ∃ p', (onP p).2 = p' := ⟨_, rfl⟩
          have hE1 : onP p = (0, p') := by rw [← hp']; unfold onP; rw [if_neg hnil, if_pos hf]
          have hp1 : p'.t = p.O.getLastD ⟨#[]⟩ ∧ p'.O = p.O.dropLast ∧ p'.B = p.B ++ [p.t] ∧ p'.name = p.name := by
            rw [← hp']; unfold onP; rw [if_neg hnil, if_pos hf]; exact ⟨rfl, rfl, rfl, rfl⟩
          have hR : pageD p { d with name := one3 } = (⟨#[]⟩, 0, p') := by rw [hR0]; exact congrArg (Prod.mk _) hE1
          have D := Lib.hid (top_do hF htb Hpn.out d Ad cd hd1 hk10 h9 hR)
          have hew := ends_with hnil
          have hfew := hpo.few
          have hdl : (p.O.dropLast).length ≤ 1000000 := by rw [List.length_dropLast]; omega
          have DY := Lib.hid (fun (K1 : Nat → Prop) (w6 : World) (hK : ∀ k, K1 k → k < w6.heap.size) (hE' : EdAt w6 K1 ge p.t p.B p.O) => redo_yes ge p.t p.B p.O.dropLast (p.O.getLastD ⟨#[]⟩) K1 w6 hK hdl (by omega) (by rw [← hew]; exact hE'))
          rw [← hp1.1, ← hp1.2.1, ← hp1.2.2.1] at DY
          have Hp1 := Lib.hid hp1
          clear k4 hR hR0 hedw hF hd1 htb hk10 h9 hnil hpn hf hp' hE1 hp1 hew hfew hdl
          go_wp2_with fail
          refine D.out.mono ?_
          rintro e w6 ⟨rfl, hH6, hk6⟩
          have N := Lib.hid (hH6.step (fun K1 hK hE' => DY.out K1 w6 hK hE'))
          clear a0 a1 a2 a3 a4 D hbd Hst DY
          go_wp2_with fail
          refine N.out.mono ?_
          rintro e w7 ⟨rfl, hH7, _⟩
          have hH7 := hH7.forget
          clear hH6 N
          go_wp2
          go_roundw
          case rel => exact ⟨k + 1, p', by omega, by go_num, Hp1.out.2.2.2.trans Hpn.out, hH7⟩
          case measure => simp only [intOf]; omega
        have hR : pageD p { d with name := one3 } = (⟨#[]⟩, 11, p) := by rw [hR0]; unfold onP; rw [if_neg hnil, if_neg hf]
        have D := Lib.hid (top_do hF htb Hpn.out d Ad cd hd1 hk10 h9 hR)
        clear k4 hR hR0 hedw hF hd1 htb hk10 h9 hnil hpn hf
        go_wp2_with fail
        refine D.out.mono ?_
        rintro e w6 ⟨rfl, hH6, hk6⟩
        have hH6 := hH6.forget
        clear a0 a1 a2 a3 a4 D hbd Hst
        go_wp2
        go_roundw
        case rel => exact ⟨k + 1, p, by omega, by go_num, Hpn.out, hH6⟩
        case measure => simp only [intOf]; omega
      have q2 : (d.kind == 2) = false := by rw [beq_eq_false_iff_ne]; exact k2
      have q3 : (d.kind == 3) = false := by rw [beq_eq_false_iff_ne]; exact k3
      have q4 : (d.kind == 4) = false := by rw [beq_eq_false_iff_ne]; exact k4
      clear hedw hF hd1 htb hpn k2 k3 k4
      go_wp2
      go_roundw
      case rel => exact ⟨k + 1, p, by omega, by go_num, Hpn.out, Hst.out⟩
      case measure => simp only [intOf]; omega
    · obtain rfl : k = len := by omega
      clear hlt
      have hpo := hH.lone.pg p (by simp)
      have D1 := Lib.hid (top_dd 8 0 hH (Ht.out _ hH.lone.below) hpn (by decide) (by decide) (by decide) (pageD8 rfl))
      have D1c := Lib.hid (fun (q : Pg) (hq : q.name = one3) (w6 : World) (h : HouseEd w gh [q] ge p.t p.B p.O (fun _ => False) w6) => top_dd 8 0 h (Ht.out _ h.lone.below) hq (by decide) (by decide) (by decide) (pageD8 rfl))
      cases packs with
      | false =>
        obtain ⟨q, hq1, hq2, hq3⟩ := save_crash hpo
        have D2 := Lib.hid (fun (w6 : World) (h : HouseEd w gh [p] ge p.t p.B p.O (fun _ => False) w6) => top_dd 5 0 h (Ht.out _ h.lone.below) hpn (by decide) (by decide) (by decide) (pageD5 rfl))
        have hq1' : pageD (saveP p) (dd 7 0 one3 ⟨#[]⟩) = (⟨#[]⟩, 0, q) := by rw [pageD7 rfl]; exact congrArg (Prod.mk _) hq1
        have D3 := Lib.hid (fun (w6 : World) (h : HouseEd w gh [saveP p] ge p.t p.B p.O (fun _ => False) w6) => top_dd 7 0 h (Ht.out _ h.lone.below) hpn (by decide) (by decide) (by decide) hq1')
        have D4 := D1c.out q (hq3.trans hpn)
        rw [hq2] at D4
        have D4 := Lib.hid D4
        clear hq1 hq2 hq3 hq1' D1c hpn hpo
        go_wp2_with fail
        refine D1.out.mono ?_
        rintro e w5 ⟨rfl, h5, _⟩
        have hba : Below w5.heap.size w5 (w5.alloc (Obj.cells #[.int .i64 5, .int .i64 0, .string ⟨#[111, 110, 101]⟩, .string ⟨#[]⟩, .slice none 0 0] 25)) := (Below.refl _ _).alloc (Nat.le_refl _) _
        have h5a := h5.stay hba
        have hbd := Blk.new w5 25 #[.int .i64 5, .int .i64 0, .string ⟨#[111, 110, 101]⟩, .string ⟨#[]⟩, .slice none 0 0]
        have a0 := hbd.cell 0
        have a1 := hbd.cell 1
        have a2 := hbd.cell 2
        have a3 := hbd.cell 3
        have a4 := hbd.cell 4
        have D2' := Lib.hid (D2.out _ h5a)
        clear D1 h5 h5a hba hbd D2
        go_wp2_with fail
        refine D2'.out.mono ?_
        rintro e w6 ⟨rfl, h6, _⟩
        have D3' := Lib.hid (D3.out _ h6)
        clear D2' D3 h6 a0 a1 a2 a3 a4
        go_wp2_with fail
        refine D3'.out.mono ?_
        rintro e w7 ⟨rfl, h7, _⟩
        have D4' := Lib.hid (D4.out _ h7)
        clear D3' D4 h7
        go_wp2_with fail
        refine D4'.out.mono ?_
        rintro e w8 ⟨rfl, h8, _⟩
        clear D4'
        obtain ⟨t, htt⟩ : ∃ t, t = p.t := ⟨_, rfl⟩
        rw [← htt] at h8
        rw [← htt]
        clear htt
        go_wp2_with fail
        refine (goodT_fresh [0, 0, 0, 0] 4 4 rfl (by decide) _ _).mono ?_
        rintro e w9 ⟨rfl, hb9⟩
        have q0 : ([0, 0, 0, 0] : List Int).all (· == 0) = true := by decide
        have h9 := h8.stay hb9
        obtain ⟨K', hE'⟩ := h9.at_
        have T := Lib.hid (text_any ge t p.B p.O K' w9 hE')
        have hbf := h9.lone.below
        have q1 : (t.toList == t.toList) = true := by simp
        clear hE' h8 h9
        go_wp2_with fail
        refine T.out.mono ?_
        rintro e w10 ⟨rfl, rfl⟩
        go_wp2
        go_ret
        exact ⟨rfl, hbf⟩
      | true =>
        obtain ⟨q, hq1, hq2, hq3⟩ := pack_crash p
        have hq0 : pageD p (dd 6 0 one3 ⟨#[]⟩) = (⟨#[]⟩, 0, { p with H := [(98 :: p.t.data.toList, p.t)], j := 1 }) := by rw [pageD6 rfl]; exact congrArg (Prod.mk _) (pack_zero p)
        have D2 := Lib.hid (fun (w6 : World) (h : HouseEd w gh [p] ge p.t p.B p.O (fun _ => False) w6) => top_dd 6 0 h (Ht.out _ h.lone.below) hpn (by decide) (by decide) (by decide) hq0)
        have hq1' : pageD { p with H := [(98 :: p.t.data.toList, p.t)], j := 1 } (dd 7 0 one3 ⟨#[]⟩) = (⟨#[]⟩, 0, q) := by rw [pageD7 rfl]; exact congrArg (Prod.mk _) hq1
        have D3 := Lib.hid (fun (w6 : World) (h : HouseEd w gh [{ p with H := [(98 :: p.t.data.toList, p.t)], j := 1 }] ge p.t p.B p.O (fun _ => False) w6) => top_dd 7 0 h (Ht.out _ h.lone.below) hpn (by decide) (by decide) (by decide) hq1')
        have D4 := D1c.out q (hq3.trans hpn)
        rw [hq2] at D4
        have D4 := Lib.hid D4
        clear hq0 hq1 hq2 hq3 hq1' D1c hpn hpo
        go_wp2_with fail
        refine D1.out.mono ?_
        rintro e w5 ⟨rfl, h5, _⟩
        have hba : Below w5.heap.size w5 (w5.alloc (Obj.cells #[.int .i64 6, .int .i64 0, .string ⟨#[111, 110, 101]⟩, .string ⟨#[]⟩, .slice none 0 0] 25)) := (Below.refl _ _).alloc (Nat.le_refl _) _
        have h5a := h5.stay hba
        have hbd := Blk.new w5 25 #[.int .i64 6, .int .i64 0, .string ⟨#[111, 110, 101]⟩, .string ⟨#[]⟩, .slice none 0 0]
        have a0 := hbd.cell 0
        have a1 := hbd.cell 1
        have a2 := hbd.cell 2
        have a3 := hbd.cell 3
        have a4 := hbd.cell 4
        have D2' := Lib.hid (D2.out _ h5a)
        clear D1 h5 h5a hba hbd D2
        go_wp2_with fail
        refine D2'.out.mono ?_
        rintro e w6 ⟨rfl, h6, _⟩
        have D3' := Lib.hid (D3.out _ h6)
        clear D2' D3 h6 a0 a1 a2 a3 a4
        go_wp2_with fail
        refine D3'.out.mono ?_
        rintro e w7 ⟨rfl, h7, _⟩
        have D4' := Lib.hid (D4.out _ h7)
        clear D3' D4 h7
        go_wp2_with fail
        refine D4'.out.mono ?_
        rintro e w8 ⟨rfl, h8, _⟩
        clear D4'
        obtain ⟨t, htt⟩ : ∃ t, t = p.t := ⟨_, rfl⟩
        rw [← htt] at h8
        rw [← htt]
        clear htt
        go_wp2_with fail
        refine (goodT_fresh [0, 0, 0, 0] 4 4 rfl (by decide) _ _).mono ?_
        rintro e w9 ⟨rfl, hb9⟩
        have q0 : ([0, 0, 0, 0] : List Int).all (· == 0) = true := by decide
        have h9 := h8.stay hb9
        obtain ⟨K', hE'⟩ := h9.at_
        have T := Lib.hid (text_any ge t p.B p.O K' w9 hE')
        have hbf := h9.lone.below
        have q1 : (t.toList == t.toList) = true := by simp
        clear hE' h8 h9
        go_wp2_with fail
        refine T.out.mono ?_
        rintro e w10 ⟨rfl, rfl⟩
        go_wp2
        go_ret
        exact ⟨rfl, hbf⟩
end Go.Proofs.YtigbnldmjafgmaaDoor

/- TopHouse: for every input the law returns true, and each argument reads afterwards as it read before. -/
namespace Go.Proofs.YtigbnldmjafgmaaDoor.topHouse
open Go.ChangeShapes Go.WideShapes Go.ChangeAt Go.RowKit
open Go.ChangeMaps (open_string shut_string)
set_option linter.unusedVariables false

theorem own : ownKnob Tryd.prog.godebug = none := by kernel_rfl
theorem laidOut : laidOutB Tryd.prog = true := by kernel_rfl

set_option maxRecDepth 100000 in
theorem lifted (os : Os) (started : os.Started) (H : Type) (enc : TypeId × Value → H) :
    ReturnsInHanded {} Tryd.checked os 9 .any (fun w args => (Rows.topHouseSpec.pre enc Tryd.prog Tryd.f9 Rows.topHouseRow.domain false w args ∧ laidMetH Tryd.prog Rows.topHouseRow.laid w) ∧ sizedMet enc Tryd.prog Tryd.f9 (OpenSpec.ofChange Rows.topHouseSpec) false w args)
      (Rows.topHouseSpec.post enc Tryd.prog Tryd.f9 false true false false) := by
  refine returnsInHanded_of_change_and (C := Tryd.checked) (X := fun w _ => laidMetH Tryd.prog Rows.topHouseRow.laid w) (fun _ _ _ hh h => h.of_heap hh) own started (by kernel_rfl) Tryd.func9
    (ChangeSpec.witness_shaped (enc := enc) (C := Tryd.checked) (os := os) (X := fun w _ => laidMetH Tryd.prog Rows.topHouseRow.laid w) false (World.laidAll Tryd.prog os Rows.topHouseRow.laid) #[.string ByteArray.empty, .slice none 0 0, .bool false] 8 (World.laidAll_os _ _ _)
      (World.shaped_of_ZipB (by kernel_rfl) (by kernel_rfl)) (by kernel_rfl) (by kernel_rfl) (by kernel_rfl)
      (by rw [MakeChecks.laidMetH_plain _ _ _ (by kernel_rfl)]; exact laidMet_laidAll _ (by kernel_rfl) (by kernel_rfl))) ?_
  intro W base args ds gs before hval0 hW hcnd hsz0 hL _
  have hval : ∀ (j : Nat) t v, Tryd.f9.params[j]? = some t → args[j]? = some v → Value.okWide Tryd.prog W .any base t v := hval0
  have hsz : (DataW.weightsEach Tryd.prog (Tryd.f9.params.toList ++ Rows.topHouseSpec.plain.varTypes Tryd.prog) (ds ++ gs)).all (· ≤ reachBytes) = true := hsz0
  have hW' := hW
  obtain ⟨p, q, hA0, hV, rfl, hfz, hnd⟩ := hW
  have hA : DataW.TrodAll enc Tryd.prog W 0 (fun _ => true) true Tryd.f9.params.toList args.toList ds p := hA0
  rw [Tryd.params9] at hA hval hsz
  obtain ⟨v0, vs0, d0, ds0, p0, q0, hargs, rfl, rfl, h0, r0⟩ := trodAll_cons hA
  obtain ⟨v1, vs1, d1, ds1, p1, q1, rfl, rfl, rfl, h1, r1⟩ := trodAll_cons r0
  obtain ⟨v2, vs2, d2, ds2, p2, q2, rfl, rfl, rfl, h2, r2⟩ := trodAll_cons r1
  obtain ⟨rfl, rfl, rfl⟩ := trodAll_nil r2
  obtain rfl : args = #[v0, v1, v2] := by cases args; simp_all
  obtain ⟨rfl, rfl⟩ := trodVars_none hV
  obtain ⟨a0, rfl, rfl, rfl, w0⟩ := open_string Tryd.underlying9 (hval 0 9 v0 rfl rfl) h0
  obtain ⟨a1, len1, cap1, rfl⟩ := okWide_slice Tryd.underlying22 (hval 1 22 v1 rfl rfl)
  have k1 := h1
  have lt1 : ∀ x ∈ p1, x.block < W.heap.size := by obtain ⟨m, hm⟩ := k1; exact DataW.trod_lt m _ _ _ hm
  obtain ⟨z1, w1⟩ : ∃ zs, DeedsIn W a1 len1 cap1 zs := deeds_in h1 lt1 (fun n hn => of_decide_eq_true (List.all_eq_true.1 hsz n (DataW.weights_mem_each (j := 1) rfl rfl n hn)))
  obtain ⟨a2, rfl, rfl, rfl⟩ := open_bool Tryd.underlying4 (hval 2 4 v2 rfl rfl) h2
  clear hA0 hval0
  have b0 : a0.size ≤ 140737488351232 := sized_string hsz (j := 0) rfl rfl
  have htab : Tab W := tab_of_laid hL (by kernel_rfl) (by kernel_rfl)
  refine (topHouse_walk a0 a1 len1 cap1 z1 a2 b0 w1 (w := W) htab).mono fun e W' ⟨he, bel⟩ => ?_
  subst he
  exact ⟨_, rfl, _, _, _, [], _, [], hW', trodAll_mk1 (shut_bool Tryd.underlying4 _), (trodAll_cons_mk (shut_string Tryd.underlying9 w0) (trodAll_cons_mk (Below.trod laidOut (by kernel_rfl) (of_decide_eq_true (by kernel_rfl)) k1 bel lt1) (trodAll_cons_mk (shut_bool Tryd.underlying4 a2) trodAll_mk0))), rfl, bel.frame _, fun h => by cases h⟩

theorem holds : Rows.TopHouseSaid :=
  OpenClaim.holds_of_wide 9 Tryd.f9 rfl rfl rfl rfl rfl rfl rfl ⟨rfl, rfl, rfl, rfl, rfl⟩ rfl rfl rfl rfl rfl (by kernel_rfl) Tryd.func9 (by kernel_rfl)
    (of_decide_eq_true (by kernel_rfl)) (by unfold Func.isWrapper; first | (rw [if_pos (by decide +kernel)]; kernel_rfl) | (rw [if_neg (by decide +kernel)]; exact ⟨rfl, rfl⟩))
    (fun os started H enc _ => lifted os started H enc)
set_option maxRecDepth 100000 in
theorem card_holds : Rows.TopHouseCardSaid :=
  Claim7.holds_tied_plain_at .later [] Rows.topHouseCard.laidKinds true Rows.topHouseCard.stood.harness false
    holds (fun _ h => by cases h) (by kernel_rfl) (fun _ h => by cases h) topHouse_row_tie rfl ⟨rfl, rfl⟩ (by kernel_rfl) rfl
    (fun f fn hf hfn => by
      obtain rfl : f = 9 := Option.some.inj ((show Tryd.prog.funcNamed "quillward/quilltop.TopHouse" = some 9 by kernel_rfl).symm.trans hf) |>.symm
      obtain rfl : fn = Tryd.f9 := (Option.some.inj (Tryd.func9.symm.trans hfn)).symm
      exact ⟨by kernel_rfl, fun j t ht => by
        have hall : (Tryd.f9.params.toList.all fun u => !Tryd.prog.wantsStandIn u) = true := by kernel_rfl
        exact (show Tryd.prog.wantsStandIn t = false by simpa using List.all_eq_true.1 hall t (by simpa using Array.mem_of_getElem? ht))⟩)
    (by kernel_rfl)
#print axioms card_holds
end Go.Proofs.YtigbnldmjafgmaaDoor.topHouse

