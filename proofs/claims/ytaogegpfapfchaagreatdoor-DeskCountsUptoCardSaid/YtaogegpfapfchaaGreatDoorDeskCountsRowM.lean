import Derived.Test.YtaogegpfapfchaaGreatDoorDeskM45
import Derived.Test.YtaogegpfapfchaaGreatDoorDeskM33
import Derived.Test.YtaogegpfapfchaaGreatDoorDeskM02
import Derived.Test.YtaogegpfapfchaaGreatDoorDeskM04
import Derived.Test.YtaogegpfapfchaaGreatDoorDeskM01
import Derived.Test.YtaogegpfapfchaaGreatDoorRows
import Derived.Shelf.Strings.Search3
import Derived.Test.YtaogegpfapfchaaGreatDoorProg
import Derived.Test.YtaogegpfapfchaaGreatDoorDeskM46
import Derived.Test.YtaogegpfapfchaaGreatDoorDeskM06
import Derived.Lib.IndexAny
import Derived.Test.YtaogegpfapfchaaGreatDoorCards
import Derived.Test.YtaogegpfapfchaaGreatDoorTie
import Derived.WalkKit
import Derived.ProofKit
import Derived.OpenShut
import Derived.ShutString
import Derived.SizedLaws
import Derived.ChangeOld
import Derived.Below
import Derived.JoinedCond
import Derived.Deep.CondSized
import Derived.Deep.DeepHandedRow
import Derived.LaidMore
import Derived.Lay
import Derived.MakeChecks
import Derived.SevenTiedAt
import Derived.Stop.Joined
/- Several texts in one: XDeskCountsP XDeskCleanP XHasStr XLaidContains XDeskCounts XDeskCountsRow. -/
/- Plain: what the desk answers to the text that DeskCounts begins with. -/
namespace Go.Proofs.YtaogegpfapfchaaGreatDoor
open Go.RowKit
set_option linter.unusedVariables false

def cT : ByteArray := ⟨#[116, 117, 114, 110, 32, 98, 97, 110, 97, 110, 97, 10, 10, 115, 112, 108, 105, 116, 32, 97, 98, 97, 97, 98, 10, 112, 101, 114, 105, 111, 100, 115, 32, 97, 98, 97, 97, 98, 97, 10, 102, 97, 114, 32, 107, 105, 116, 116, 101, 110, 32, 115, 105, 116, 116, 105, 110, 103]⟩
theorem c_rows : rowsD cT = [⟨#[116, 117, 114, 110, 32, 98, 97, 110, 97, 110, 97]⟩, ⟨#[]⟩, ⟨#[115, 112, 108, 105, 116, 32, 97, 98, 97, 97, 98]⟩, ⟨#[112, 101, 114, 105, 111, 100, 115, 32, 97, 98, 97, 97, 98, 97]⟩, ⟨#[102, 97, 114, 32, 107, 105, 116, 116, 101, 110, 32, 115, 105, 116, 116, 105, 110, 103]⟩] := by decide +kernel
theorem ans_ask {P : List Pg} {line : ByteArray} {l : List ByteArray} {s : ByteArray} (hw : wordsD line = l) (h0 : l ≠ []) (h1 : l ≠ [kNames]) (hk : kindD (l.getD 0 ⟨#[]⟩) = none) (ha : askD l = .ok s) : ansD P line = (s, P) := by
  have hd : deedD P l = (.ok none, P) := by unfold deedD; rw [hk]
  unfold ansD
  rw [hw, toldD_none h0 h1 hd, ha]
  rfl
theorem c_turn : askD [⟨#[116, 117, 114, 110]⟩, ⟨#[98, 97, 110, 97, 110, 97]⟩] = .ok ⟨#[110, 110, 98, 97, 97, 97, 32, 51]⟩ := by
  have hB : ordOf (⟨#[98, 97, 110, 97, 110, 97]⟩ : ByteArray).data.toList = [5, 3, 1, 0, 4, 2] := (ordOf_is _).unique ⟨by decide, by unfold ltR; decide⟩
  have e1 : putT ⟨#[98, 97, 110, 97, 110, 97]⟩ = ⟨#[110, 110, 98, 97, 97, 97]⟩ := by unfold putT tOf; rw [hB]; decide
  have e2 : putA ⟨#[98, 97, 110, 97, 110, 97]⟩ = 3 := by unfold putA atOf; rw [hB]; decide
  unfold askD
  rw [if_neg (by decide), if_neg (by decide +kernel), if_neg (by decide +kernel), if_neg (by decide +kernel), if_pos (by decide +kernel)]
  show eN (wE ⟨#[98, 97, 110, 97, 110, 97]⟩) (putT ⟨#[98, 97, 110, 97, 110, 97]⟩ ++ ⟨#[32]⟩ ++ decB (putA ⟨#[98, 97, 110, 97, 110, 97]⟩).toNat) = _
  rw [e1, e2]
  exact congrArg Except.ok (by decide +kernel : (⟨#[110, 110, 98, 97, 97, 97]⟩ ++ ⟨#[32]⟩ ++ decB (3 : Int).toNat : ByteArray) = ⟨#[110, 110, 98, 97, 97, 97, 32, 51]⟩)
theorem c_split : askD [⟨#[115, 112, 108, 105, 116]⟩, ⟨#[97, 98, 97, 97, 98]⟩] = .ok ⟨#[97, 98, 32, 97, 97, 98]⟩ := by
  have h1 : Lyn [97, 98] := lyn_join (lyn_one 97) (lyn_one 98) (by decide)
  have h2 : Lyn [97, 97, 98] := lyn_join (lyn_one 97) h1 (by decide)
  have hc : Cfl (⟨#[97, 98, 97, 97, 98]⟩ : ByteArray).data.toList [[97, 98], [97, 97, 98]] := ⟨rfl, fun f hf => by
    rcases List.mem_cons.1 hf with rfl | hf
    · exact h1
    · rw [List.mem_singleton.1 hf]; exact h2, by simp [lle]; decide⟩
  have e : splF ⟨#[97, 98, 97, 97, 98]⟩ = [⟨#[97, 98]⟩, ⟨#[97, 97, 98]⟩] := splF_eq (by decide) hc
  unfold askD
  rw [if_neg (by decide), if_neg (by decide +kernel), if_neg (by decide +kernel), if_pos (by decide +kernel)]
  show eN (wE ⟨#[97, 98, 97, 97, 98]⟩) (joinB (splF ⟨#[97, 98, 97, 97, 98]⟩)) = _
  rw [e]
  rfl
theorem c_per : askD [⟨#[112, 101, 114, 105, 111, 100, 115]⟩, ⟨#[97, 98, 97, 97, 98, 97]⟩] = .ok ⟨#[51, 32, 53, 32, 54, 32, 46]⟩ := by
  unfold askD
  rw [if_neg (by decide), if_pos (by decide +kernel)]
  show eN (wE ⟨#[97, 98, 97, 97, 98, 97]⟩) (listD (perR ⟨#[97, 98, 97, 97, 98, 97]⟩)) = _
  exact congrArg Except.ok (by decide +kernel : listD (perR ⟨#[97, 98, 97, 97, 98, 97]⟩) = ⟨#[51, 32, 53, 32, 54, 32, 46]⟩)
theorem c_far : askD [⟨#[102, 97, 114]⟩, ⟨#[107, 105, 116, 116, 101, 110]⟩, ⟨#[115, 105, 116, 116, 105, 110, 103]⟩] = .ok ⟨#[51]⟩ := by
  unfold askD
  rw [if_neg (by decide), if_neg (by decide +kernel), if_neg (by decide +kernel), if_neg (by decide +kernel), if_neg (by decide +kernel), if_pos (by decide +kernel)]
  show eN (de ⟨#[107, 105, 116, 116, 101, 110]⟩ ⟨#[115, 105, 116, 116, 105, 110, 103]⟩).toNat (decB (dv ⟨#[107, 105, 116, 116, 101, 110]⟩ ⟨#[115, 105, 116, 116, 105, 110, 103]⟩).toNat) = _
  exact congrArg Except.ok (by decide +kernel : decB (dv ⟨#[107, 105, 116, 116, 101, 110]⟩ ⟨#[115, 105, 116, 116, 105, 110, 103]⟩).toNat = ⟨#[51]⟩)
theorem c_run : runE cT = 0 ∧ runR cT = [⟨#[110, 110, 98, 97, 97, 97, 32, 51]⟩, ⟨#[97, 98, 32, 97, 97, 98]⟩, ⟨#[51, 32, 53, 32, 54, 32, 46]⟩, ⟨#[51]⟩] := by
  have h : ¬ (4096 < cT.size ∨ 60 < (rowsD cT).length) := by rw [c_rows]; decide
  unfold runE runR
  rw [if_neg h, if_neg h, c_rows]
  refine ⟨rfl, ?_⟩
  have n : ∀ (x : List ByteArray × List Pg) (line : ByteArray) (a : ByteArray) (P' : List Pg), line ≠ ⟨#[]⟩ → ansD x.2 line = (a, P') → lineD x line = (x.1 ++ [a], P') := fun x line a P' h e => by unfold lineD; rw [if_neg h, e]
  have n0 : ∀ x : List ByteArray × List Pg, lineD x ⟨#[]⟩ = x := fun x => by unfold lineD; rw [if_pos rfl]
  unfold linesD
  rw [List.foldl_cons, n _ _ _ _ (by decide) (ans_ask (l := [⟨#[116, 117, 114, 110]⟩, ⟨#[98, 97, 110, 97, 110, 97]⟩]) (by decide +kernel) (by decide) (by decide +kernel) (by decide +kernel) c_turn), List.foldl_cons, n0, List.foldl_cons, n _ _ _ _ (by decide) (ans_ask (l := [⟨#[115, 112, 108, 105, 116]⟩, ⟨#[97, 98, 97, 97, 98]⟩]) (by decide +kernel) (by decide) (by decide +kernel) (by decide +kernel) c_split), List.foldl_cons, n _ _ _ _ (by decide) (ans_ask (l := [⟨#[112, 101, 114, 105, 111, 100, 115]⟩, ⟨#[97, 98, 97, 97, 98, 97]⟩]) (by decide +kernel) (by decide) (by decide +kernel) (by decide +kernel) c_per), List.foldl_cons, n _ _ _ _ (by decide) (ans_ask (l := [⟨#[102, 97, 114]⟩, ⟨#[107, 105, 116, 116, 101, 110]⟩, ⟨#[115, 105, 116, 116, 105, 110, 103]⟩]) (by decide +kernel) (by decide) (by decide +kernel) (by decide +kernel) c_far), List.foldl_nil]
  rfl
end Go.Proofs.YtaogegpfapfchaaGreatDoor

/- Plain: no answer of the desk is empty or holds a line end. -/
namespace Go.Proofs.YtaogegpfapfchaaGreatDoor
open Go.RowKit
set_option linter.unusedVariables false

abbrev Cl (s : ByteArray) : Prop := (10 : UInt8) ∉ s.data.toList
theorem Cl.none : Cl ⟨#[]⟩ := by decide
theorem Cl.app {a b : ByteArray} (ha : Cl a) (hb : Cl b) : Cl (a ++ b) := by
  show (10 : UInt8) ∉ (a ++ b).data.toList
  have e : (a ++ b).data.toList = a.data.toList ++ b.data.toList := by simp
  rw [e, List.mem_append]
  exact fun h => h.elim ha hb
theorem app_sub (s : List UInt8) (c : UInt8) : ∀ (l : List Ed) (a : Nat), c ∈ app s a l → c ∈ s ∨ ∃ x ∈ l, c ∈ x.2.2.data.toList
  | [], a, h => .inl (List.mem_of_mem_drop h)
  | x :: l, a, h => by
    rw [app] at h
    rcases List.mem_append.1 h with h | h
    · rcases List.mem_append.1 h with h | h
      · exact .inl (List.mem_of_mem_take (List.mem_of_mem_drop h))
      · exact .inr ⟨x, List.mem_cons_self .., h⟩
    · rcases app_sub s c l _ h with h | ⟨y, hy, h⟩
      · exact .inl h
      · exact .inr ⟨y, List.mem_cons_of_mem _ hy, h⟩
structure ClPg (p : Pg) : Prop where
  text : Cl p.t
  back : ∀ b ∈ p.B, Cl b
  onward : ∀ b ∈ p.O, Cl b
  hist : ∀ x ∈ p.H, Cl x.2
structure ClDd (d : Dd) : Prop where
  text : Cl d.text
  edits : ∀ x ∈ d.edits, Cl x.2.2
theorem endT_clean : ∀ (H : LH) (p : ByteArray), Cl p → (∀ x ∈ H, Cl x.2) → Cl (endT p H)
  | [], p, hp, _ => hp
  | x :: H, p, _, h => endT_clean H x.2 (h x (List.mem_cons_self ..)) fun y hy => h y (List.mem_cons_of_mem _ hy)
theorem last_clean {l : List ByteArray} (h : ∀ b ∈ l, Cl b) : Cl (l.getLastD ⟨#[]⟩) := by
  rw [List.getLastD_eq_getLast?]
  cases ho : l.getLast? with
  | none => exact Cl.none
  | some x =>
    obtain ⟨ys, rfl⟩ := List.getLast?_eq_some_iff.1 ho
    exact h x (List.mem_append_right _ (List.mem_singleton.2 rfl))
theorem newP_clean {name t : ByteArray} (h : Cl t) : ClPg (newP name t) :=
  ⟨h, fun b hb => absurd hb List.not_mem_nil, fun b hb => absurd hb List.not_mem_nil, fun x hx => by rw [List.mem_singleton.1 hx]; exact h⟩
theorem hist_more {H : LH} {r : List UInt8} {t : ByteArray} (h : ∀ x ∈ H, Cl x.2) (ht : Cl t) : ∀ x ∈ H ++ [(r, t)], Cl x.2 := fun x hx => by
  rcases List.mem_append.1 hx with hx | hx
  · exact h x hx
  · rw [List.mem_singleton.1 hx]; exact ht
theorem mem_more {l : List ByteArray} {t : ByteArray} (h : ∀ x ∈ l, Cl x) (ht : Cl t) : ∀ x ∈ l ++ [t], Cl x := fun x hx => by
  rcases List.mem_append.1 hx with hx | hx
  · exact h x hx
  · rw [List.mem_singleton.1 hx]; exact ht
/-- An edit whose outcome is clean. -/
theorem editP_clean' {p : Pg} (h : ClPg p) {l : List Ed} (hT : leafE p.t p.H l = 0 → Cl (leafT p.t p.H l)) : ClPg (editP p l).2 := by
  unfold editP
  split
  · exact h
  split
  · exact h
  · rename_i h1 h2
    have h0 : leafE p.t p.H l = 0 := by simpa using h2
    have ht := hT h0
    refine ⟨ht, fun b hb => ?_, fun b hb => absurd hb List.not_mem_nil, ?_⟩
    · exact mem_more h.back h.text b (List.mem_of_mem_drop hb)
    · show ∀ x ∈ leafH p.t p.H l, Cl x.2
      unfold leafH
      rw [if_pos h0]
      exact hist_more h.hist ht
theorem editP_clean {p : Pg} (h : ClPg p) {l : List Ed} (hl : ∀ x ∈ l, Cl x.2.2) : ClPg (editP p l).2 :=
  editP_clean' h fun h0 => by
    unfold leafT
    rw [if_pos h0]
    intro hm
    rcases app_sub _ _ _ _ hm with hm | ⟨x, hx, hm⟩
    · exact h.text hm
    · exact hl x hx hm
theorem makeP_clean {p : Pg} (h : ClPg p) {t : ByteArray} (ht : Cl t) : ClPg (makeP p t).2 := by
  unfold makeP
  split
  · exact h
  split
  · exact h
  · rename_i h1 h2
    refine editP_clean' h fun h0 => ?_
    unfold leafT
    rw [if_pos h0, (makes_law p.t t (by simpa using h1) (by omega)).2.1]
    exact ht
theorem backP_clean {p : Pg} (h : ClPg p) : ClPg (backP p).2 := by
  unfold backP
  split
  · exact h
  split
  · exact ⟨last_clean h.back, fun b hb => h.back b ((List.dropLast_sublist _).subset hb), mem_more h.onward h.text, hist_more h.hist (last_clean h.back)⟩
  · exact h
theorem onP_clean {p : Pg} (h : ClPg p) : ClPg (onP p).2 := by
  unfold onP
  split
  · exact h
  split
  · exact ⟨last_clean h.onward, mem_more h.back h.text, fun b hb => h.onward b ((List.dropLast_sublist _).subset hb), hist_more h.hist (last_clean h.onward)⟩
  · exact h
theorem fallP_clean {p : Pg} (h : ClPg p) (i : Nat) : ClPg (fallP p i) :=
  ⟨endT_clean _ _ Cl.none fun x hx => h.hist x (List.mem_of_mem_take hx), fun b hb => absurd hb List.not_mem_nil, fun b hb => absurd hb List.not_mem_nil, fun x hx => h.hist x (List.mem_of_mem_take hx)⟩
theorem packP_clean {p : Pg} (h : ClPg p) (n : Int) : ClPg (packP p n).2 := by
  unfold packP
  split
  · exact h
  split
  · exact fallP_clean h _
  split
  · exact ⟨h.text, h.back, h.onward, fun x hx => by rw [List.mem_singleton.1 hx]; exact h.text⟩
  · exact ⟨h.text, fun b hb => absurd hb List.not_mem_nil, fun b hb => absurd hb List.not_mem_nil, fun x hx => by rw [List.mem_singleton.1 hx]; exact h.text⟩
theorem crashP_clean {p : Pg} (h : ClPg p) (n : Int) : ClPg (crashP p n).2 := by
  unfold crashP
  split
  · exact h
  · exact fallP_clean h _
theorem pageD_clean {p : Pg} (h : ClPg p) {d : Dd} (hd : ClDd d) : ClPg (pageD p d).2.2 ∧ Cl (pageD p d).1 := by
  unfold pageD
  split
  · exact ⟨editP_clean h hd.edits, Cl.none⟩
  split
  · exact ⟨makeP_clean h hd.text, Cl.none⟩
  split
  · exact ⟨backP_clean h, Cl.none⟩
  split
  · exact ⟨onP_clean h, Cl.none⟩
  split
  · exact ⟨⟨h.text, h.back, h.onward, h.hist⟩, Cl.none⟩
  split
  · exact ⟨packP_clean h _, Cl.none⟩
  split
  · exact ⟨crashP_clean h _, Cl.none⟩
  · exact ⟨h, h.text⟩
theorem houseD_clean {P : List Pg} (h : ∀ p ∈ P, ClPg p) {d : Dd} (hd : ClDd d) : (∀ p ∈ (houseD P d).2.2, ClPg p) ∧ Cl (houseD P d).1 := by
  have hg : ClPg (P.getD (placeN d.name P 0).toNat pg0) := by
    rw [List.getD_eq_getElem?_getD]
    cases ho : P[(placeN d.name P 0).toNat]? with
    | none => exact newP_clean Cl.none
    | some p => exact h p (List.mem_of_getElem? ho)
  have hp := pageD_clean hg hd
  unfold houseD
  split
  · exact ⟨h, Cl.none⟩
  split
  · exact ⟨h, Cl.none⟩
  split
  · split
    · exact ⟨h, Cl.none⟩
    split
    · exact ⟨h, Cl.none⟩
    split
    · exact ⟨h, Cl.none⟩
    · refine ⟨fun p hp => ?_, Cl.none⟩
      rcases List.mem_append.1 hp with hp | hp
      · exact h p hp
      · rw [List.mem_singleton.1 hp]; exact newP_clean hd.text
  split
  · exact ⟨h, Cl.none⟩
  split
  · exact ⟨fun p hp => h p (List.mem_of_mem_eraseIdx hp), Cl.none⟩
  · refine ⟨fun p hq => ?_, hp.2⟩
    rcases List.mem_or_eq_of_mem_set hq with hq | hq
    · exact h p hq
    · rw [hq]; exact hp.1

/-- What a line's answer is to be. -/
abbrev Good (s : ByteArray) : Prop := Cl s ∧ s ≠ ⟨#[]⟩
theorem Good.app {a b : ByteArray} (ha : Good a) (hb : Cl b) : Good (a ++ b) := by
  refine ⟨ha.1.app hb, fun e => ha.2 ?_⟩
  have h : (a ++ b).size = 0 := by rw [e]; rfl
  rw [ByteArray.size_append] at h
  exact ByteArray.size_eq_zero_iff.1 (by omega)
theorem Good.of_app {a b : ByteArray} (ha : Cl a) (hb : Good b) : Good (a ++ b) := by
  refine ⟨ha.app hb.1, fun e => hb.2 ?_⟩
  have h : (a ++ b).size = 0 := by rw [e]; rfl
  rw [ByteArray.size_append] at h
  exact ByteArray.size_eq_zero_iff.1 (by omega)
theorem decB_good (n : Nat) : Good (decB n) := by
  refine ⟨dec_no (by unfold IsDig; decide) n, fun e => ?_⟩
  have h : (decB n).data.toList = [] := by rw [e]
  have h2 : Lib.decDigits n = [] := h
  rw [Lib.decDigits] at h2
  split at h2 <;> simp at h2
theorem errB_good (E : Nat) : Good (errB E) := Good.app ⟨by decide, by decide⟩ (decB_good E).1
theorem listO_clean : ∀ (l : List Nat), Cl (listO l.reverse)
  | [] => Cl.none
  | x :: l => by
    rw [List.reverse_cons, listO_snoc]
    exact (listO_clean l).app ((decB_good x).1.app (by decide))
theorem listD_good (l : List Nat) : Good (listD l) := by
  have := listO_clean l.reverse
  rw [List.reverse_reverse] at this
  exact Good.of_app this ⟨by decide, by decide⟩
theorem joinTail_clean : ∀ (l : List ByteArray), (∀ x ∈ l, Cl x) → (10 : UInt8) ∉ Lib.joinTail [32] (l.map (·.data.toList))
  | [], _ => List.not_mem_nil
  | x :: l, h => by
    have ih := joinTail_clean l fun y hy => h y (List.mem_cons_of_mem _ hy)
    have e : Lib.joinTail [32] ((x :: l).map (·.data.toList)) = [32] ++ x.data.toList ++ Lib.joinTail [32] (l.map (·.data.toList)) := by
      simp [Lib.joinTail]
    rw [e]
    intro hm
    rcases List.mem_append.1 hm with hm | hm
    · rcases List.mem_append.1 hm with hm | hm
      · exact absurd hm (by decide)
      · exact h x (List.mem_cons_self ..) hm
    · exact ih hm
theorem joinB_clean {l : List ByteArray} (h : ∀ x ∈ l, Cl x) : Cl (joinB l) := by
  cases l with
  | nil => exact Cl.none
  | cons x l =>
    show (10 : UInt8) ∉ Lib.join ((x :: l).map (·.data.toList)) [32]
    rw [List.map_cons, Lib.join_cons, List.mem_append]
    exact fun hm => hm.elim (h x (List.mem_cons_self ..)) (joinTail_clean l fun y hy => h y (List.mem_cons_of_mem _ hy))
theorem joinB_some {x : ByteArray} {l : List ByteArray} (h : x ≠ ⟨#[]⟩) : joinB (x :: l) ≠ ⟨#[]⟩ := by
  intro e
  have e2 : Lib.join ((x :: l).map (·.data.toList)) [32] = [] := congrArg (fun s : ByteArray => s.data.toList) e
  rw [List.map_cons, Lib.join_cons] at e2
  apply h
  have := (List.append_eq_nil_iff.1 e2).1
  exact str_ext this
theorem putT_clean {s : ByteArray} (h : Cl s) : Cl (putT s) := by
  unfold putT
  split
  · show (10 : UInt8) ∉ tOf s.data.toList
    intro hm
    unfold tOf lastB at hm
    obtain ⟨i, hi, e⟩ := List.mem_map.1 hm
    have hl := (ordOf_is s.data.toList).lt hi
    have hin : i + s.data.toList.length - 1 < (s.data.toList ++ s.data.toList).length := by rw [List.length_append]; omega
    unfold prevB at e
    rw [List.getD_eq_getElem?_getD, List.getElem?_eq_getElem hin] at e
    have hmem := List.getElem_mem hin
    have e' : (s.data.toList ++ s.data.toList)[i + s.data.toList.length - 1] = 10 := e
    rw [e'] at hmem
    exact (List.mem_append.1 hmem).elim h h
  · exact Cl.none
theorem cfl_insert : ∀ (F : List (List UInt8)) (w s : List UInt8), Lyn w → Cfl s F → ∃ G, Cfl (w ++ s) G
  | [], w, s, hw, h => by
    have e : [] = s := h.flat
    rw [← e, List.append_nil]
    exact ⟨[w], Cfl.one hw⟩
  | f :: F, w, s, hw, h => by
    have hf := List.pairwise_cons.1 h.fall
    by_cases hl : llt w f = true
    · obtain ⟨G, hG⟩ := cfl_insert F (w ++ f) F.flatten (lyn_join hw (h.lyn f (List.mem_cons_self ..)) hl) ⟨rfl, fun g hg => h.lyn g (List.mem_cons_of_mem _ hg), hf.2⟩
      refine ⟨G, ?_⟩
      rw [← h.flat, List.flatten_cons, ← List.append_assoc]
      exact hG
    · have hle : lle f w := by unfold lle; simpa using hl
      refine ⟨w :: f :: F, ⟨by rw [List.flatten_cons, h.flat], fun g hg => ?_, List.pairwise_cons.2 ⟨fun b hb => ?_, h.fall⟩⟩⟩
      · rcases List.mem_cons.1 hg with rfl | hg
        · exact hw
        · exact h.lyn g hg
      · rcases List.mem_cons.1 hb with rfl | hb
        · exact hle
        · exact lle_trans (hf.1 b hb) hle
theorem cfl_ex : ∀ (s : List UInt8), ∃ F, Cfl s F
  | [] => ⟨[], Cfl.nil⟩
  | x :: s => by
    obtain ⟨F, hF⟩ := cfl_ex s
    exact cfl_insert F [x] s (lyn_one x) hF
theorem splF_good {s : ByteArray} (h : Good s) (hs : s.size ≤ 200) : Good (joinB (splF s)) := by
  obtain ⟨F, hF⟩ := cfl_ex s.data.toList
  rw [splF_eq hs hF]
  refine ⟨joinB_clean fun x hx => ?_, ?_⟩
  · obtain ⟨f, hf, rfl⟩ := List.mem_map.1 hx
    intro hm
    apply h.1
    rw [← hF.flat]
    exact List.mem_flatten.2 ⟨f, hf, hm⟩
  · cases F with
    | nil =>
      exfalso
      apply h.2
      have e : [] = s.data.toList := hF.flat
      exact str_ext e.symm
    | cons f F =>
      rw [List.map_cons]
      refine joinB_some fun e => ?_
      have h1 := (hF.lyn f (List.mem_cons_self ..)).1
      exact h1 (congrArg (fun s : ByteArray => s.data.toList) e)
theorem askD_good {l : List ByteArray} (h : ∀ x ∈ l, Good x) : Good (saidD (askD l)) := by
  have hE : ∀ E s, (E = 0 → Good s) → Good (saidD (eN E s)) := fun E s hs => by
    unfold eN
    split
    · exact hs ‹_›
    · exact errB_good E
  have hg : 2 ≤ l.length → Good (l.getD 1 ⟨#[]⟩) := fun hl => by
    rw [List.getD_eq_getElem?_getD, List.getElem?_eq_getElem (by omega)]
    exact h _ (List.getElem_mem _)
  unfold askD
  split
  · exact errB_good 12
  rename_i h2
  have hg := hg (by omega)
  split
  · exact hE _ _ fun _ => listD_good _
  split
  · exact hE _ _ fun _ => listD_good _
  split
  · refine hE _ _ fun e => splF_good hg ?_
    unfold wE at e
    split at e
    · assumption
    · cases e
  split
  · exact hE _ _ fun _ => Good.of_app ((putT_clean hg.1).app (by decide)) (decB_good _)
  split
  · exact hE _ _ fun _ => decB_good _
  · exact errB_good 12
theorem names_clean {P : List Pg} (h : ∀ p ∈ P, nameE p.name = 0) : ∀ x ∈ namesB P, Cl x := fun x hx => by
  unfold namesB at hx
  obtain ⟨z, hz, rfl⟩ := List.mem_map.1 hx
  unfold namesP at hz
  obtain ⟨p, hp, rfl⟩ := List.mem_map.1 (List.mem_mergeSort.1 hz)
  have hn := h p hp
  unfold nameE at hn
  split at hn
  · cases hn
  split at hn
  · rename_i h1 h2
    intro hm
    have := List.all_eq_true.1 h2 10 hm
    revert this; decide
  · cases hn
theorem deedOf_clean {k : Nat} {l : List ByteArray} (h : ∀ x ∈ l, Good x) {d : Dd} (hd : deedOf k l = some d) : ClDd d := by
  have hg : ∀ i, Cl (l.getD i ⟨#[]⟩) := fun i => by
    rw [List.getD_eq_getElem?_getD]
    cases ho : l[i]? with
    | none => exact Cl.none
    | some x => exact (h x (List.mem_of_getElem? ho)).1
  unfold deedOf at hd
  split at hd
  · injection hd with hd
    subst hd
    exact ⟨hg 2, fun x hx => absurd hx List.not_mem_nil⟩
  split at hd
  · obtain ⟨n, _, rfl⟩ := Option.map_eq_some_iff.1 hd
    exact ⟨Cl.none, fun x hx => absurd hx List.not_mem_nil⟩
  split at hd
  · split at hd
    · injection hd with hd
      subst hd
      refine ⟨Cl.none, fun x hx => ?_⟩
      rw [List.mem_singleton.1 hx]
      show Cl (if l.length = 5 then l.getD 4 ⟨#[]⟩ else ⟨#[]⟩)
      split
      · exact hg 4
      · exact Cl.none
    · cases hd
  · injection hd with hd
    subst hd
    exact ⟨Cl.none, fun x hx => absurd hx List.not_mem_nil⟩
/-- What holds of the desk's pages. -/
structure DOk (P : List Pg) : Prop where
  house : HOk P
  clean : ∀ p ∈ P, ClPg p
theorem DOk.nil : DOk [] := ⟨HOk.nil, fun p hp => absurd hp List.not_mem_nil⟩
theorem houseD_ok {P : List Pg} (h : DOk P) {d : Dd} (hd : ClDd d) : DOk (houseD P d).2.2 := ⟨(house_one h.house d).ok, (houseD_clean h.clean hd).1⟩
theorem toldD_good {P : List Pg} (hP : DOk P) {l : List ByteArray} (h : ∀ x ∈ l, Good x) : Good (saidD (toldD P l).1) ∧ DOk (toldD P l).2 := by
  unfold toldD
  split
  · exact ⟨errB_good 12, hP⟩
  split
  · exact ⟨Good.app ⟨by decide, by decide⟩ (joinB_clean (names_clean hP.house.nm)), hP⟩
  unfold deedD
  split
  · rename_i h1
    split at h1
    · cases h1
    split at h1
    · cases h1; exact ⟨errB_good 12, hP⟩
    split at h1
    · cases h1; exact ⟨errB_good 12, hP⟩
    · rename_i d hd
      have hc := deedOf_clean h hd
      injection h1 with h1 h2
      subst h2
      exact ⟨errB_good _, houseD_ok hP hc⟩
  · rename_i s P' h1
    split at h1
    · cases h1
    split at h1
    · cases h1
    split at h1
    · cases h1
    · rename_i d hd
      have hc := deedOf_clean h hd
      injection h1 with h1 h2
      subst h2
      refine ⟨?_, houseD_ok hP hc⟩
      unfold doneD at h1
      split at h1
      · injection h1 with h1
        injection h1 with h1
        show Good s
        rw [← h1]
        split
        · exact Good.app ⟨by decide, by decide⟩ (houseD_clean hP.clean hc).2
        · exact ⟨by decide, by decide⟩
      · cases h1
  · rename_i P' h1
    split at h1
    · cases h1; exact ⟨askD_good h, hP⟩
    split at h1
    · cases h1
    split at h1
    · cases h1
    · rename_i d hd
      injection h1 with h1 h2
      unfold doneD at h1
      split at h1 <;> cases h1
theorem wordsD_good {line : ByteArray} (h : Cl line) : ∀ x ∈ wordsD line, Good x := fun x hx => by
  unfold wordsD at hx
  obtain ⟨h1, h2⟩ := List.mem_filter.1 hx
  obtain ⟨p, hp, rfl⟩ := List.mem_map.1 h1
  exact ⟨fun hm => h (cutL_sub 32 _ p hp 10 hm), of_decide_eq_true h2⟩
theorem lineD_good {x : List ByteArray × List Pg} {line : ByteArray} (h : Cl line) (hx : DOk x.2 ∧ ∀ s ∈ x.1, Good s) : (DOk (lineD x line).2 ∧ ∀ s ∈ (lineD x line).1, Good s) ∧ (lineD x line).1.length = x.1.length + if line = ⟨#[]⟩ then 0 else 1 := by
  unfold lineD
  split
  · exact ⟨hx, rfl⟩
  · have ht := toldD_good hx.1 (wordsD_good h)
    refine ⟨⟨ht.2, fun s hs => ?_⟩, by rw [List.length_append]; rfl⟩
    rcases List.mem_append.1 hs with hs | hs
    · exact hx.2 s hs
    · rw [List.mem_singleton.1 hs]; exact ht.1
theorem fold_good : ∀ (l : List ByteArray), (∀ x ∈ l, Cl x) → ∀ (x : List ByteArray × List Pg), (DOk x.2 ∧ ∀ s ∈ x.1, Good s) → (DOk (l.foldl lineD x).2 ∧ ∀ s ∈ (l.foldl lineD x).1, Good s) ∧ (l.foldl lineD x).1.length = x.1.length + (l.filter fun s => decide (s ≠ ⟨#[]⟩)).length
  | [], _, x, hx => ⟨hx, rfl⟩
  | y :: l, h, x, hx => by
    obtain ⟨h1, h2⟩ := lineD_good (h y (List.mem_cons_self ..)) hx
    obtain ⟨h3, h4⟩ := fold_good l (fun z hz => h z (List.mem_cons_of_mem _ hz)) _ h1
    refine ⟨h3, ?_⟩
    rw [List.foldl_cons, h4, h2]
    by_cases e : y = ⟨#[]⟩
    · rw [if_pos e, List.filter_cons_of_neg (by simpa using e)]; rfl
    · rw [if_neg e, List.filter_cons_of_pos (by simpa using e), List.length_cons]; omega
theorem rowsD_clean (t : ByteArray) : ∀ x ∈ rowsD t, Cl x := fun x hx => by
  unfold rowsD at hx
  obtain ⟨p, hp, rfl⟩ := List.mem_map.1 hx
  exact cutL_clean 10 _ p hp
/-- Each line that is not empty has an answer, and it is not empty and holds no line end. -/
theorem run_counts (t : ByteArray) (h : runE t = 0) : (runR t).length = ((rowsD t).filter fun s => decide (s ≠ ⟨#[]⟩)).length ∧ ∀ s ∈ runR t, Good s := by
  unfold runE at h
  unfold runR
  by_cases hb : 4096 < t.size ∨ 60 < (rowsD t).length
  · rw [if_pos hb] at h; cases h
  · rw [if_neg hb]
    obtain ⟨⟨_, h2⟩, h3⟩ := fold_good (rowsD t) (rowsD_clean t) ([], []) ⟨DOk.nil, fun s hs => absurd hs List.not_mem_nil⟩
    exact ⟨by unfold linesD; rw [h3]; simp, h2⟩
end Go.Proofs.YtaogegpfapfchaaGreatDoor

/- slices.ContainsFunc over strings, with a closure that captures nothing. -/
namespace Go.Proofs.YtaogegpfapfchaaGreatDoor
open Go.RowKit
set_option linter.unusedVariables false

def firstPS (p : ByteArray → Bool) : List ByteArray → Nat → Int
  | [], _ => -1
  | x :: l, k => if p x = true then (k : Int) else firstPS p l (k + 1)
theorem firstPS_any (p : ByteArray → Bool) : ∀ (l : List ByteArray) (k : Nat), decide (0 ≤ firstPS p l k) = l.any p
  | [], k => by simp [firstPS]
  | x :: l, k => by
    unfold firstPS
    by_cases h : p x = true
    · rw [if_pos h]; simp [h]
    · rw [if_neg h, firstPS_any p l (k + 1)]; simp [h]

set_option maxHeartbeats 1000000 in
theorem indexStrF (F : Nat) (hen : ∀ (args : Array Value) (w : World), (callFunc F args).run Tryz.prog w = .ok (.enter F args) w) (A : Option Addr) (n c B : Nat) (l : List ByteArray) (p : ByteArray → Bool) (hl : l.length = n) (hn : n ≤ 1000000000000000) (w : World) (r : Reads w B A n 1 (l.flatMap cStr)) (hB : B ≤ w.heap.size)
    (hp : ∀ x ∈ l, ∀ w1, Below w.heap.size w w1 → Calls Tryz.prog F #[.string x] w1 fun e w' => e = .returned (.bool (p x)) ∧ Below w1.heap.size w1 w') :
    Calls Tryz.prog 14 #[.slice A n c, .func (Fn.func F) #[] #[]] w
      fun e w' => e = .returned (.int .i64 (firstPS p l 0)) ∧ Below w.heap.size w w' := by
  have Hl := Lib.hid hl
  have Hp := Lib.hid hp
  clear hl hp
  go_enter Tryz.func14, Tryz.ntmps14
  go_wp2
  go_loopw [5, 8] (fun _ i wr => ∃ k : Nat, k ≤ n ∧ i = .int .i64 k ∧ Hid (firstPS p l 0 = firstPS p (l.drop k) k) ∧ Below w.heap.size w wr) (fun _ i _ => n - (intOf i).toNat)
  case atStart => exact ⟨0, Nat.zero_le _, rfl, Lib.hid (by simp), Below.refl _ _⟩
  case round =>
    obtain ⟨k, hk, rfl, Hf, hbr⟩ := hrel
    by_cases hlt : k < n
    · obtain ⟨b, o, rfl, hbB, hc⟩ := (r.below (hbr.mono hB)).2 (by omega)
      have c0 := hc (k * 1 + 0) (by rw [flat_length cStr 1 cStr_len, Hl.out]; omega)
      have dE : ByteArray := ByteArray.empty
      rw [flat_getD cStr 1 cStr_len dE l k _ (by rw [Hl.out]; omega) (by omega)] at c0
      simp only [cStr, List.getD_cons_zero, Nat.mul_one, Nat.add_zero] at c0
      have hmem : l.getD k dE ∈ l := by rw [getD_some _ _ _ (by rw [Hl.out]; omega)]; exact List.getElem_mem _
      have hd : l.drop k = l.getD k dE :: l.drop (k + 1) := drop_getD l k dE (by rw [Hl.out]; omega)
      have Hd := Lib.hid hd
      have Hcall := Lib.hid (Hp.out _ hmem wr hbr)
      clear hd hc hmem
      generalize l.getD k dE = x at *
      by_cases h0 : p x = true
      · have hcl := Hcall.out
        rw [h0] at hcl
        have Hcl := Lib.hid hcl
        have H0 := Lib.hid h0
        clear h0 hcl
        go_wp2_with fail
        refine Hcl.out.mono ?_
        rintro e w1 ⟨rfl, hb1⟩
        go_wp2
        go_ret
        exact ⟨by rw [Hf.out, Hd.out, firstPS, if_pos H0.out]; rfl, chain hb1 hbr⟩
      · have hcl := Hcall.out
        rw [show p x = false from by simpa using h0] at hcl
        have Hcl := Lib.hid hcl
        have H0 := Lib.hid h0
        clear h0 hcl
        go_wp2_with fail
        refine Hcl.out.mono ?_
        rintro e w1 ⟨rfl, hb1⟩
        go_wp2
        go_roundw
        case rel => exact ⟨k + 1, by omega, by go_num, Lib.hid (by rw [Hf.out, Hd.out, firstPS, if_neg H0.out]), chain hb1 hbr⟩
        case measure => simp only [intOf]; omega
    · obtain rfl : k = n := by omega
      go_wp2
      go_ret
      exact ⟨by rw [Hf.out, List.drop_of_length_le (by rw [Hl.out]; omega)]; rfl, hbr⟩

set_option maxHeartbeats 1000000 in
theorem hasStrF (F : Nat) (hen : ∀ (args : Array Value) (w : World), (callFunc F args).run Tryz.prog w = .ok (.enter F args) w) (A : Option Addr) (n c B : Nat) (l : List ByteArray) (p : ByteArray → Bool) (hl : l.length = n) (hn : n ≤ 1000000000000000) (w : World) (r : Reads w B A n 1 (l.flatMap cStr)) (hB : B ≤ w.heap.size)
    (hp : ∀ x ∈ l, ∀ w1, Below w.heap.size w w1 → Calls Tryz.prog F #[.string x] w1 fun e w' => e = .returned (.bool (p x)) ∧ Below w1.heap.size w1 w') :
    Calls Tryz.prog 8 #[.slice A n c, .func (Fn.func F) #[] #[]] w
      fun e w' => e = .returned (.bool (l.any p)) ∧ Below w.heap.size w w' := by
  have Hr := Lib.hid (firstPS_any p l 0)
  have H1 := Lib.hid (indexStrF F hen A n c B l p hl hn w r hB hp)
  clear hp hl
  go_enter Tryz.func8, Tryz.ntmps8
  go_wp2_with fail
  refine H1.out.mono ?_
  rintro e w1 ⟨rfl, hb1⟩
  generalize firstPS p l 0 = v at *
  go_wp2
  go_ret
  exact ⟨congrArg (fun b => Ending.returned (.bool b)) Hr.out, hb1⟩
end Go.Proofs.YtaogegpfapfchaaGreatDoor

/- Contains: contracts of the library laid at this program: the tables of numbers and the facts that they ask. -/
namespace Go.Proofs.YtaogegpfapfchaaGreatDoor
open Go.RowKit
set_option linter.unusedVariables false

def laysCn_ren : Go.Shelf.Ren := ⟨fun | 144 => 10 | 143 => 15 | 219 => 25 | 217 => 42 | 225 => 43 | 224 => 44 | 267 => 45 | 266 => 73 | 314 => 74 | n => n, fun | 9 => 9 | 4 => 4 | 3 => 3 | 5 => 5 | 46 => 89 | 146 => 111 | 51 => 110 | n => n, fun | 1 => 0 | n => n⟩
theorem laysCn : Go.Proofs.Lays.n144 Tryz.prog laysCn_ren := {
  mixed := by kernel_rfl,
  f143 := Tryz.func15.trans (congrArg some (by kernel_rfl)),
  f144 := Tryz.func10.trans (congrArg some (by kernel_rfl)),
  f217 := Tryz.func42.trans (congrArg some (by kernel_rfl)),
  f219 := Tryz.func25.trans (congrArg some (by kernel_rfl)),
  f224 := Tryz.func44.trans (congrArg some (by kernel_rfl)),
  f225 := Tryz.func43.trans (congrArg some (by kernel_rfl)),
  f266 := Tryz.func73.trans (congrArg some (by kernel_rfl)),
  f267 := Tryz.func45.trans (congrArg some (by kernel_rfl)),
  f314 := Tryz.func74.trans (congrArg some (by kernel_rfl)),
  t3 := Tryz.underlying3,
  a3 := Tryz.isAgg3,
  z3 := Tryz.sizeOf3,
  v3 := Tryz.zeroValue3,
  t4 := Tryz.underlying4,
  a4 := Tryz.isAgg4,
  z4 := Tryz.sizeOf4,
  v4 := Tryz.zeroValue4,
  t5 := Tryz.underlying5,
  a5 := Tryz.isAgg5,
  z5 := Tryz.sizeOf5,
  v5 := Tryz.zeroValue5,
  t9 := Tryz.underlying9,
  a9 := Tryz.isAgg9,
  z9 := Tryz.sizeOf9,
  v9 := Tryz.zeroValue9,
  t46 := Tryz.underlying89,
  a46 := Tryz.isAgg89,
  z46 := Tryz.sizeOf89,
  v46 := Tryz.zeroValue89,
  t51 := Tryz.underlying110,
  a51 := Tryz.isAgg110,
  z51 := Tryz.sizeOf110,
  v51 := Tryz.zeroValue110,
  t146 := Tryz.underlying111,
  a146 := Tryz.isAgg111,
  z146 := Tryz.sizeOf111,
  v146 := Tryz.zeroValue111,
  g1 := by kernel_rfl }

end Go.Proofs.YtaogegpfapfchaaGreatDoor

/- DeskCounts's walk: every line that is not empty has a result that is not empty. -/
namespace Go.Proofs.YtaogegpfapfchaaGreatDoor
open Go.RowKit
set_option linter.unusedVariables false

theorem line_good (s : ByteArray) (hg : Good s) (w : World) : Calls Tryz.prog 9 #[.string s] w fun e w' => e = .returned (.bool false) ∧ Below w.heap.size w w' := by
  have h : ∀ w, Calls Tryz.prog 10 #[.string s, .string ⟨#[10]⟩] w fun e w' => e = .returned (.bool false) ∧ w = w' := fun w => by
    refine (Any.strings_Contains_one laysCn s 10 w).mono ?_
    rintro e w' ⟨rfl, rfl⟩
    rw [← Lib.contains_iff_indexByte]
    refine ⟨?_, rfl⟩
    rw [show s.data.toList.contains 10 = false from by rw [Bool.eq_false_iff]; intro hh; exact hg.1 (List.contains_iff_mem.1 hh)]
  have H := Lib.hid h
  have q1 : ¬ s.toList = [] := fun h => hg.2 (by rw [ByteArray.toList_eq] at h; exact str_ext h)
  have q2 : s.toList.isEmpty = false := by simpa using q1
  clear h hg
  go_enter Tryz.func9, Tryz.ntmps9
  go_wp2_with fail
  refine (H.out _).mono ?_
  rintro e w1 ⟨rfl, rfl⟩
  go_wp2
  go_ret
  exact ⟨rfl, Below.refl _ _⟩
theorem some_snoc (l : List ByteArray) (k : Nat) (x : ByteArray) (h : l[k]? = some x) : ((l.take (k + 1)).filter (fun s => decide (s ≠ ⟨#[]⟩))).length = ((l.take k).filter (fun s => decide (s ≠ ⟨#[]⟩))).length + if x = ⟨#[]⟩ then 0 else 1 := by
  rw [words_snoc l k x h, List.length_append]
  split <;> rfl

set_option maxRecDepth 100000 in
set_option maxHeartbeats 2000000 in
theorem deskCounts_walk (text : ByteArray) (hs : text.size ≤ 140737488351232) (w : World) (hk : text.size ≤ 1048576) (ht : Tab w) (hm : MaxL w) :
    Calls Tryz.prog 4 #[.string text] w fun e w' => e = .returned (.bool true) ∧ Below w.heap.size w w' := by
  have R1 := run_any cT (by decide) w ht hm
  rw [c_run.1, c_run.2] at R1
  unfold cT at R1
  have R1 := Lib.hid R1
  have R2 := Lib.hid (fun w1 (h : Below w.heap.size w w1) => run_any text (by omega) w1 (ht.after h) (hm.after h))
  have SP := Lib.hid (fun w1 (h : Below w.heap.size w w1) => split_any text 10 (by omega) w1 (hm.after h))
  have p1 := run_counts text
  have hE : runE text = 0 ∨ runE text ≠ 0 := by omega
  have hcl := cutL_len 10 text.data.toList
  have hlen : text.data.toList.length = text.size := rfl
  have hrl : (rowsD text).length = (cutL 10 text.data.toList).length := List.length_map _
  have hrr : (cutL 10 text.data.toList).map tx = rowsD text := rfl
  have hcnt : (cutL 10 text.data.toList).length ≤ text.size + 1 := by
    rw [hcl.1, ← hlen]
    exact Nat.succ_le_succ List.count_le_length
  rw [hrr] at SP
  rw [← hrl] at SP hcnt
  generalize rowsD text = rows at *
  generalize runE text = E2 at *
  generalize runR text = L2 at *
  obtain ⟨m, hmm⟩ : ∃ m, rows.length = m := ⟨_, rfl⟩
  rw [hmm] at SP hcnt
  have HM := Lib.hid hmm
  have P1 := Lib.hid p1
  have HE := Lib.hid hE
  have hm20 : m ≤ 1048577 := by omega
  clear hcl hlen hrl hrr hmm p1 hE hcnt
  go_enter Tryz.func4, Tryz.ntmps4
  go_wp2_with fail
  refine R1.out.mono ?_
  rintro e w1 ⟨A, n, c, rfl, hn, hnc, hn60, hr, hb1⟩
  obtain rfl : n = 4 := hn.symm
  have EQ := equalStr_any A (some ⟨w1.heap.size, 0, none⟩) 4 4 c 4 _ _ [⟨#[110, 110, 98, 97, 97, 97, 32, 51]⟩, ⟨#[97, 98, 32, 97, 97, 98]⟩, ⟨#[51, 32, 53, 32, 54, 32, 46]⟩, ⟨#[51]⟩] [⟨#[110, 110, 98, 97, 97, 97, 32, 51]⟩, ⟨#[97, 98, 32, 97, 97, 98]⟩, ⟨#[51, 32, 53, 32, 54, 32, 46]⟩, ⟨#[51]⟩] (w1.alloc (Obj.cells #[.string ⟨#[110, 110, 98, 97, 97, 97, 32, 51]⟩, .string ⟨#[97, 98, 32, 97, 97, 98]⟩, .string ⟨#[51, 32, 53, 32, 54, 32, 46]⟩, .string ⟨#[51]⟩] 9)) (by decide) (by decide) rfl rfl (hr.after ((Below.refl _ _).alloc (Nat.le_refl _) _)) (Reads.made w1 #[.string ⟨#[110, 110, 98, 97, 97, 97, 32, 51]⟩, .string ⟨#[97, 98, 32, 97, 97, 98]⟩, .string ⟨#[51, 32, 53, 32, 54, 32, 46]⟩, .string ⟨#[51]⟩] 9 4 1 rfl)
  rw [decide_eq_true rfl] at EQ
  have EQ := Lib.hid EQ
  have hba := hb1.alloc hb1.size (Obj.cells #[.string ⟨#[110, 110, 98, 97, 97, 97, 32, 51]⟩, .string ⟨#[97, 98, 32, 97, 97, 98]⟩, .string ⟨#[51, 32, 53, 32, 54, 32, 46]⟩, .string ⟨#[51]⟩] 9)
  clear hr hn
  go_wp2_with fail
  refine EQ.out.mono ?_
  rintro e w2 ⟨rfl, hb2⟩
  have hb2 := chain hb2 hba
  clear EQ R1 hba hb1 hnc hn60
  go_wp2_with fail
  refine (R2.out _ hb2).mono ?_
  rintro e w3 ⟨A2, n2, c2, rfl, hn2, hnc2, hn62, hr2, hb3⟩
  have hb3' := chain hb3 hb2
  have SQ := Lib.hid (SP.out w3 hb3')
  clear R2 SP hb2 hb3
  go_wp2_with fail
  refine SQ.out.mono ?_
  rintro e w4 ⟨rfl, hw4⟩
  have hb4 : Below w3.heap.size w3 w4 := by rw [hw4]; exact (Below.refl _ _).alloc (Nat.le_refl _) _
  have hR4 : Blk w4 w3.heap.size 9 (rows.flatMap cStr).toArray := by rw [hw4]; exact Blk.new _ _ _
  have hr2 := hr2.after hb4
  have hb4' := chain hb4 hb3'
  clear hw4 SQ hb4 hb3'
  have HP := Lib.hid (fun (k : Nat) (x : ByteArray) (hx : rows[k]? = some x) => show (rows.flatMap cStr).toArray[k]? = some (Value.string x) by rw [← str_cells, List.getElem?_toArray, List.getElem?_map, hx]; rfl)
  go_wp2
  go_loopw [7, 9, 30] (fun cv _ i wr => ∃ (k n' : Nat), k ≤ m ∧ n' ≤ k ∧ i = .int .i64 k ∧ cv = .int .i64 n' ∧ Hid (((rows.take k).filter fun s => decide (s ≠ ⟨#[]⟩)).length = n') ∧ wr = w4) (fun _ _ i _ => m - (intOf i).toNat)
  case atStart => exact ⟨0, 0, Nat.zero_le _, Nat.le_refl _, rfl, rfl, Lib.hid rfl, rfl⟩
  case round =>
    obtain ⟨k, n', hkm, hnk, rfl, rfl, Hn, rfl⟩ := hrel
    by_cases hlt : k < m
    · obtain ⟨x, hx⟩ : ∃ x, rows[k]? = some x := ⟨_, List.getElem?_eq_getElem (by rw [HM.out]; exact hlt)⟩
      have c0 : wr.cell? ⟨w3.heap.size, k, none⟩ = some (.string x) := by
        rw [hR4.cell k]
        exact HP.out k x hx
      have Hs := Lib.hid (some_snoc rows k x hx)
      clear hx
      by_cases hs : x = ⟨#[]⟩
      · have q1 : x.toList = [] := by rw [hs]; decide +kernel
        have q2 : x.toList.isEmpty = true := by rw [q1]; rfl
        have e := Hs.out
        rw [if_pos hs, Nat.add_zero] at e
        have E := Lib.hid e
        clear hs e
        go_wp2
        go_roundw
        case rel => exact ⟨k + 1, n', by omega, by omega, by go_num, rfl, by rw [E.out]; exact Hn, trivial⟩
        case measure => simp only [intOf]; omega
      · have q1 : ¬ x.toList = [] := fun h => hs (by rw [ByteArray.toList_eq] at h; exact str_ext h)
        have q2 : x.toList.isEmpty = false := by simpa using q1
        have e := Hs.out
        rw [if_neg hs, Hn.out] at e
        have E := Lib.hid e
        clear hs e
        go_wp2
        go_roundw
        case rel => exact ⟨k + 1, n' + 1, by omega, by omega, by go_num, by go_num, Lib.hid E.out, trivial⟩
        case measure => simp only [intOf]; omega
    · obtain rfl : k = m := by omega
      have hall : rows.take k = rows := List.take_of_length_le (by rw [HM.out]; exact Nat.le_refl _)
      have hn := Hn.out
      rw [hall] at hn
      clear hR4 HP hall Hn
      rcases HE.out with h0 | h0
      · obtain ⟨h1, h2⟩ := P1.out h0
        subst h0
        obtain rfl : n2 = n' := by rw [← hn2, h1, hn]
        have hen := enters_of Tryz.func9 (by kernel_rfl) rfl
        have CF := hasStrF 9 hen A2 n2 c2 _ L2 (fun _ => false) hn2 (by omega) wr hr2 (Nat.le_refl _) (fun x hx w1 _ => line_good x (h2 x hx) w1)
        rw [show L2.any (fun _ => false) = false from by simp] at CF
        have CF := Lib.hid CF
        clear h2 hr2 hn2 h1 hn P1 HE
        go_wp2_with fail
        refine CF.out.mono ?_
        rintro e w5 ⟨rfl, hb5⟩
        go_wp2
        go_ret
        exact ⟨rfl, chain hb5 hb4'⟩
      · have q0 : (E2 != 0) = true := by simpa using h0
        clear P1 HE hn hn2 hr2
        go_wp2
        go_ret
        exact ⟨rfl, hb4'⟩
end Go.Proofs.YtaogegpfapfchaaGreatDoor

/- DeskCounts: for every input the law returns true, and each argument reads afterwards as it read before. -/
namespace Go.Proofs.YtaogegpfapfchaaGreatDoor.deskCounts
open Go.ChangeShapes Go.WideShapes Go.ChangeAt Go.RowKit
open Go.ChangeMaps (open_string shut_string)
set_option linter.unusedVariables false

theorem own : ownKnob Tryz.prog.godebug = none := by kernel_rfl
theorem laidOut : laidOutB Tryz.prog = true := by kernel_rfl

set_option maxRecDepth 100000 in
theorem contract (H : Type) (enc : TypeId × Value → H) (W : World) (base : Nat) (args : Array Value) (ds gs : List (DataW H)) (before : List MemPlace)
    (hval0 : ∀ (j : Nat) t v, Tryz.f4.params[j]? = some t → args[j]? = some v → Value.okWide Tryz.prog W .any base t v)
    (hW : DataW.Whole enc Tryz.prog Tryz.f4.params.toList Rows.deskCountsSpec.vars false W args.toList ds gs before) (hk : Rows.uptoSmall H (ds ++ gs) = true)
    (hsz0 : (DataW.weightsEach Tryz.prog (Tryz.f4.params.toList ++ Rows.deskCountsSpec.plain.varTypes Tryz.prog) (ds ++ gs)).all (· ≤ reachBytes) = true)
    (hL : laidMetH Tryz.prog Rows.deskCountsUptoRow.laid W) (hSh : W.ShapedOpen Tryz.prog) :
    Calls Tryz.prog 4 args W fun e W' => ∃ v, e = .returned v ∧ Rows.deskCountsSpec.post enc Tryz.prog Tryz.f4 false true false false W args v W' := by
  have hval : ∀ (j : Nat) t v, Tryz.f4.params[j]? = some t → args[j]? = some v → Value.okWide Tryz.prog W .any base t v := hval0
  have hsz : (DataW.weightsEach Tryz.prog (Tryz.f4.params.toList ++ Rows.deskCountsSpec.plain.varTypes Tryz.prog) (ds ++ gs)).all (· ≤ reachBytes) = true := hsz0
  have hW' := hW
  obtain ⟨p, q, hA0, hV, rfl, hfz, hnd⟩ := hW
  have hA : DataW.TrodAll enc Tryz.prog W 0 (fun _ => true) true Tryz.f4.params.toList args.toList ds p := hA0
  rw [Tryz.params4] at hA hval hsz
  obtain ⟨v0, vs0, d0, ds0, p0, q0, hargs, rfl, rfl, h0, r0⟩ := trodAll_cons hA
  obtain ⟨rfl, rfl, rfl⟩ := trodAll_nil r0
  obtain rfl : args = #[v0] := by cases args; simp_all
  obtain ⟨rfl, rfl⟩ := trodVars_none hV
  obtain ⟨a0, rfl, rfl, rfl, w0⟩ := open_string Tryz.underlying9 (hval 0 9 v0 rfl rfl) h0
  clear hA0 hval0
  have hk2 := of_decide_eq_true hk
  simp only [Rows.uptoBulkAll, Rows.uptoBulk, List.append_nil] at hk2
  have bd0 : a0.size ≤ 1048576 := by show a0.data.toList.length ≤ 1048576; omega
  have htab : Tab W := tab_of_laid hL (by kernel_rfl) (by kernel_rfl)
  have hmax : MaxL W := maxL_of hSh
  have b0 : a0.size ≤ 140737488351232 := sized_string hsz (j := 0) rfl rfl
  refine (deskCounts_walk a0 b0 W bd0 htab hmax).mono fun e W' ⟨he, bel⟩ => ?_
  subst he
  exact ⟨_, rfl, _, _, _, [], _, [], hW', trodAll_mk1 (shut_bool Tryz.underlying4 _), (trodAll_cons_mk (shut_string Tryz.underlying9 w0) trodAll_mk0), rfl, bel.frame _, fun h => by cases h⟩

set_option maxRecDepth 100000 in
theorem lifted (os : Os) (started : os.Started) (H : Type) (enc : TypeId × Value → H) (F : Stop.Interp) :
    ReturnsInHanded {} Tryz.checked os 4 .any ((Rows.OpenSpec.upto Rows.deskCountsSpec).preRow enc Tryz.prog Tryz.f4 Rows.deskCountsUptoRow.domain false Rows.deskCountsUptoRow.laid) (((Rows.OpenSpec.upto Rows.deskCountsSpec).at F).post enc Tryz.prog Tryz.f4 false true false false) := by
  have hx : ∃ places, DataW.whole enc Tryz.prog ((World.laidAll Tryz.prog os Rows.deskCountsUptoRow.laid).forCall (fun _ _ => 0) ⟨#[], #[.string ByteArray.empty], []⟩).memory Tryz.f4.params.toList Rows.deskCountsSpec.vars false (#[.string ByteArray.empty] : Array Value).toList 8 = some ([.lit (.string [])], [], places) := ⟨[], by kernel_rfl⟩
  obtain ⟨places, hx⟩ := hx
  have hok : Input.okWideB Tryz.prog ((World.laidAll Tryz.prog os Rows.deskCountsUptoRow.laid).forCall (fun _ _ => 0) ⟨#[], #[.string ByteArray.empty], []⟩) 4 ⟨#[], #[.string ByteArray.empty], []⟩ = true := by kernel_rfl
  refine returnsInHanded_of_row (C := Tryz.checked) (s := Rows.OpenSpec.upto Rows.deskCountsSpec) own started (by kernel_rfl) Tryz.func4
    ⟨World.laidAll Tryz.prog os Rows.deskCountsUptoRow.laid, fun _ _ => 0, ⟨#[], #[.string ByteArray.empty], []⟩, World.laidAll_os _ _ _, World.shaped_of_ZipB (by kernel_rfl) (by kernel_rfl), (Input.okWide_of_okWideB (base := 0) hok).1, (Input.okWide_of_okWideB hok).2,
      OpenSpec.preRow_of_cond 8 hx (by kernel_rfl) (fun k hk => by cases hk; kernel_rfl) (by kernel_rfl) (by rw [MakeChecks.laidMetH_plain _ _ _ (by kernel_rfl)]; exact laidMet_laidAll _ (by kernel_rfl) (by kernel_rfl)), by
        simp only [Assume.holds]
        exact ⟨by simp, by simp, fun _ => Modest.zero, by simp, by simp⟩⟩ ?_
  intro W base args ds gs before hval hW _ hcond hsz hL hSh _
  exact contract H enc W base args ds gs before hval hW (hcond _ rfl) hsz hL hSh

theorem holds : Rows.DeskCountsUptoSaid :=
  OpenClaim.holds_of_cond 4 Tryz.f4 rfl rfl rfl rfl rfl rfl rfl ⟨rfl, rfl, rfl, rfl, rfl⟩ rfl rfl rfl rfl rfl (by kernel_rfl) Tryz.func4 (by kernel_rfl)
    (of_decide_eq_true (by kernel_rfl)) (by unfold Func.isWrapper; first | (rw [if_pos (by decide +kernel)]; kernel_rfl) | (rw [if_neg (by decide +kernel)]; exact ⟨rfl, rfl⟩))
    (fun os started H enc _ F => by rw [OpenClaim.pre_eq_preRow]; exact lifted os started H enc F)
set_option maxRecDepth 100000 in
theorem card_holds : Rows.DeskCountsUptoCardSaid :=
  Claim7.holds_tied_plain_at .later [] Rows.deskCountsUptoCard.laidKinds true Rows.deskCountsUptoCard.stood.harness true
    holds (fun _ h => by cases h) (by kernel_rfl) (fun _ h => by cases h) deskCountsUpto_row_tie rfl ⟨rfl, rfl⟩ (by kernel_rfl) rfl
    (fun f fn hf hfn => by
      obtain rfl : f = 4 := Option.some.inj ((show Tryz.prog.funcNamed "quillward/quillkeep.DeskCounts" = some 4 by kernel_rfl).symm.trans hf) |>.symm
      obtain rfl : fn = Tryz.f4 := (Option.some.inj (Tryz.func4.symm.trans hfn)).symm
      exact ⟨by kernel_rfl, fun j t ht => by
        have hall : (Tryz.f4.params.toList.all fun u => !Tryz.prog.wantsStandIn u) = true := by kernel_rfl
        exact (show Tryz.prog.wantsStandIn t = false by simpa using List.all_eq_true.1 hall t (by simpa using Array.mem_of_getElem? ht))⟩)
    (by kernel_rfl)
#print axioms card_holds
end Go.Proofs.YtaogegpfapfchaaGreatDoor.deskCounts

