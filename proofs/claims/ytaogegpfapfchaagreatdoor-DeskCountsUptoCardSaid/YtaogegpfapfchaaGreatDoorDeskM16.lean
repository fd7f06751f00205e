import Derived.Test.YtaogegpfapfchaaGreatDoorDeskM15
import Derived.Test.YtaogegpfapfchaaGreatDoorDeskM12
/- Several texts in one: XDiffMakes XHouseP. -/
/- DiffMakes' walk: the script transforms one string into the other with the stated cost. -/
namespace Go.Proofs.YtaogegpfapfchaaGreatDoor
open Go.RowKit
set_option linter.unusedVariables false

theorem makes_law (a b : ByteArray) (h : ce a b = 0) (h20 : cv a b ≤ 20) : checkE a.size (makeE a b) = 0 ∧ (⟨(app a.data.toList 0 (makeE a b)).toArray⟩ : ByteArray) = b ∧ costE (makeE a b) = cv a b := by
  have hz := ce_zero h
  rw [cv_ok hz] at h20 ⊢
  have hr := rise_all a.data.toList b.data.toList
  have hpl := places_length a.data.toList b.data.toList
  rw [← hpl] at h20 ⊢
  have hsa : a.data.toList.length = a.size := rfl
  have hsb : b.data.toList.length = b.size := rfl
  have e : makeE a b = diffL b.data.toList 0 0 (placesOf a.data.toList b.data.toList ++ [(a.data.toList.length, b.data.toList.length)]) := rfl
  rw [e]
  have happ := diff_app _ 0 0 0 hr (Nat.le_refl _) (Nat.zero_le _) (Nat.zero_le _)
  have hcost := diff_cost _ 0 0 hr (Nat.zero_le _) (Nat.zero_le _)
  have hok := diff_ok _ 0 0 true 0 hr (Nat.zero_le _) (Nat.zero_le _) (fun h => by cases h) (by omega)
  have hlen := cost_len hok
  have hal := app_length (s := a.data.toList) (e := 0) hok (fun _ => rfl) (Nat.zero_le _)
  rw [happ] at hal ⊢
  rw [List.take_zero, List.drop_nil, List.nil_append, List.drop_zero] at hal ⊢
  refine ⟨?_, ?_, by rw [hcost]; omega⟩
  · rw [show ((a.size : Nat) : Int) = (a.data.toList.length : Nat) from rfl, checkE_full (by omega) (by omega) (by omega) hok, if_neg (by omega)]
  · cases b; rfl

end Go.Proofs.YtaogegpfapfchaaGreatDoor

/- Plain: pages of a house and what deeds make of them. -/
namespace Go.Proofs.YtaogegpfapfchaaGreatDoor
open Go.RowKit
set_option linter.unusedVariables false

/-- A page: its name, its text, what is kept to go back and onward, its log's records, how many of them are safe. -/
structure Pg where
  name : ByteArray
  t : ByteArray
  B : List ByteArray
  O : List ByteArray
  H : LH
  j : Nat
structure Dd where
  kind : Int
  n : Int
  name : ByteArray
  text : ByteArray
  edits : List Ed
/-- What holds of every page. -/
structure Pg.Ok (p : Pg) : Prop where
  few : p.B.length + p.O.length ≤ 30
  back : ∀ t ∈ p.B, t.size ≤ 200
  onward : ∀ t ∈ p.O, t.size ≤ 200
  text : p.t.size ≤ 200
  hist : Hist ⟨#[]⟩ p.H
  end_ : p.t = endT ⟨#[]⟩ p.H
  jle : p.j ≤ p.H.length
  disk : (framesL (recs p.H)).length ≤ 4000

def newP (name t : ByteArray) : Pg := ⟨name, t, [], [], [(98 :: t.data.toList, t)], 1⟩
def editP (p : Pg) (l : List Ed) : Int × Pg :=
  if l = [] then (5, p) else if leafE p.t p.H l ≠ 0 then (leafE p.t p.H l, p) else
    (0, { p with t := leafT p.t p.H l, B := (p.B ++ [p.t]).drop (p.B.length + 1 - 30), O := [], H := leafH p.t p.H l })
/-- Does a base record of the text fit? -/
def fits (H : LH) (t : ByteArray) : Prop := (framesL (recs H)).length + (t.size + 7) ≤ 4000
instance (H : LH) (t : ByteArray) : Decidable (fits H t) := inferInstanceAs (Decidable (_ ≤ _))
def backP (p : Pg) : Int × Pg :=
  if p.B = [] then (4, p) else if fits p.H (p.B.getLastD ⟨#[]⟩) then
    (0, { p with t := p.B.getLastD ⟨#[]⟩, B := p.B.dropLast, O := p.O ++ [p.t], H := p.H ++ [(98 :: (p.B.getLastD ⟨#[]⟩).data.toList, p.B.getLastD ⟨#[]⟩)] }) else (11, p)
def onP (p : Pg) : Int × Pg :=
  if p.O = [] then (4, p) else if fits p.H (p.O.getLastD ⟨#[]⟩) then
    (0, { p with t := p.O.getLastD ⟨#[]⟩, O := p.O.dropLast, B := p.B ++ [p.t], H := p.H ++ [(98 :: (p.O.getLastD ⟨#[]⟩).data.toList, p.O.getLastD ⟨#[]⟩)] }) else (11, p)
noncomputable def wholeI (H : LH) (m : Nat) : Nat := Classical.choose (whole_to H m)
theorem wholeI_to (H : LH) (m : Nat) : WholeTo H m (wholeI H m) := Classical.choose_spec (whole_to H m)
/-- The page back at its first i records, nothing to undo. -/
def fallP (p : Pg) (i : Nat) : Pg := { p with t := endT ⟨#[]⟩ (p.H.take i), B := [], O := [], H := p.H.take i, j := i }
def safeN (p : Pg) : Nat := (framesL ((recs p.H).take p.j)).length
noncomputable def crashP (p : Pg) (n : Int) : Int × Pg :=
  if n < 0 ∨ ((framesL (recs p.H)).length : Int) - (safeN p : Int) < n then (1, p) else (0, fallP p (wholeI p.H (safeN p + n.toNat)))
def packP (p : Pg) (n : Int) : Int × Pg :=
  if n < 0 ∨ 3 < n then (1, p) else if n = 1 ∨ n = 2 then (0, fallP p p.j)
  else if n = 0 then (0, { p with H := [(98 :: p.t.data.toList, p.t)], j := 1 }) else (0, { p with B := [], O := [], H := [(98 :: p.t.data.toList, p.t)], j := 1 })
def saveP (p : Pg) : Pg := { p with j := p.H.length }
def makeP (p : Pg) (text : ByteArray) : Int × Pg :=
  if ce p.t text ≠ 0 then (2, p) else if 20 < cv p.t text then (11, p) else editP p (makeE p.t text)
/-- A deed at the page itself: what it answers, its error, the page behind it. -/
noncomputable def pageD (p : Pg) (d : Dd) : ByteArray × Int × Pg :=
  if d.kind = 2 then (⟨#[]⟩, editP p d.edits)
  else if d.kind = 10 then (⟨#[]⟩, makeP p d.text)
  else if d.kind = 3 then (⟨#[]⟩, backP p)
  else if d.kind = 4 then (⟨#[]⟩, onP p)
  else if d.kind = 5 then (⟨#[]⟩, 0, saveP p)
  else if d.kind = 6 then (⟨#[]⟩, packP p d.n)
  else if d.kind = 7 then (⟨#[]⟩, crashP p d.n)
  else (p.t, 0, p)
/-- An error, if it is no name. -/
def nameE (s : ByteArray) : Int := if s.size < 1 ∨ 8 < s.size then 3 else if s.data.toList.all (fun c => decide (97 ≤ c.toNat) && decide (c.toNat ≤ 122)) = true then 0 else 3
/-- Where the page of the name stands, or -1. -/
def placeN (name : ByteArray) : List Pg → Nat → Int
  | [], _ => -1
  | p :: l, k => if p.name = name then (k : Int) else placeN name l (k + 1)
def pg0 : Pg := newP ⟨#[]⟩ ⟨#[]⟩
/-- A deed at a house. -/
noncomputable def houseD (P : List Pg) (d : Dd) : ByteArray × Int × List Pg :=
  if d.kind < 1 ∨ 10 < d.kind then (⟨#[]⟩, 1, P)
  else if nameE d.name ≠ 0 then (⟨#[]⟩, nameE d.name, P)
  else if d.kind = 1 then
    if 0 ≤ placeN d.name P 0 then (⟨#[]⟩, 10, P) else if P.length = 6 then (⟨#[]⟩, 11, P) else if 200 < d.text.size then (⟨#[]⟩, 2, P) else (⟨#[]⟩, 0, P ++ [newP d.name d.text])
  else if placeN d.name P 0 < 0 then (⟨#[]⟩, 4, P)
  else if d.kind = 9 then (⟨#[]⟩, 0, P.eraseIdx (placeN d.name P 0).toNat)
  else ((pageD (P.getD (placeN d.name P 0).toNat pg0) d).1, (pageD (P.getD (placeN d.name P 0).toNat pg0) d).2.1, P.set (placeN d.name P 0).toNat (pageD (P.getD (placeN d.name P 0).toNat pg0) d).2.2)

theorem newP_ok (name : ByteArray) {t : ByteArray} (h : t.size ≤ 200) : (newP name t).Ok :=
  ⟨by simp [newP], by simp [newP], by simp [newP], h, ⟨LStep.base t h, trivial⟩, rfl, Nat.le_refl _, by show (framesL (recs [(98 :: t.data.toList, t)])).length ≤ 4000; rw [base_len]; omega⟩
theorem base_more (H : LH) (t : ByteArray) : (framesL (recs (H ++ [(98 :: t.data.toList, t)]))).length = (framesL (recs H)).length + (t.size + 7) := by
  rw [recs_app, frames_app, List.length_append, base_len]
theorem fallP_ok {p : Pg} (h : p.Ok) (i : Nat) (hi : i ≤ p.H.length) : (fallP p i).Ok :=
  ⟨by simp [fallP], by simp [fallP], by simp [fallP], endT_size (hist_take h.hist i) (by decide), hist_take h.hist i, rfl, by show i ≤ (p.H.take i).length; rw [List.length_take]; omega, by
    show (framesL (recs (p.H.take i))).length ≤ 4000
    rw [recs_take]
    exact Nat.le_trans (frames_take_le _ _) h.disk⟩
end Go.Proofs.YtaogegpfapfchaaGreatDoor

