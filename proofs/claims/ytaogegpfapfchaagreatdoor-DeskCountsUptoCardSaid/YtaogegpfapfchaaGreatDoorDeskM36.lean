import Derived.Test.YtaogegpfapfchaaGreatDoorDeskM34
import Derived.Test.YtaogegpfapfchaaGreatDoorDeskM35
import Derived.Test.YtaogegpfapfchaaGreatDoorDeskM29
/- Several texts in one: XDeskKeep XDeskP XDeskDeed. -/
/- A house in a law beside blocks that are not its own: these stay. -/
namespace Go.Proofs.YtaogegpfapfchaaGreatDoor
open Go.RowKit
set_option linter.unusedVariables false

/-- A house in a law, and blocks of others. -/
def LoneK (w0 : World) (gh : Nat) (P : List Pg) (K : Nat → Prop) (w : World) : Prop := ∃ own Q, InLaw w0 own w gh Q P ∧ ∀ b, K b → b < w.heap.size ∧ own b ∉ idsH gh Q
section
variable {w0 w w' : World} {gh : Nat} {P : List Pg} {K K' : Nat → Prop}
theorem LoneK.lone (h : LoneK w0 gh P K w) : Lone w0 gh P w := by obtain ⟨o, Q, h, _⟩ := h; exact ⟨o, Q, h⟩
theorem LoneK.weak (h : LoneK w0 gh P K w) (hk : ∀ b, K' b → K b) : LoneK w0 gh P K' w := by
  obtain ⟨o, Q, h, h2⟩ := h
  exact ⟨o, Q, h, fun b hb => h2 b (hk b hb)⟩
theorem LoneK.of (h : Lone w0 gh P w) : LoneK w0 gh P (· < w0.heap.size) w := by
  obtain ⟨o, Q, h⟩ := h
  refine ⟨o, Q, h, fun b hb => ⟨Nat.lt_of_lt_of_le hb h.below.size, fun hi => ?_⟩⟩
  have := h.ids _ hi
  have := h.low b hb
  omega
theorem LoneK.lt (h : LoneK w0 gh P K w) : ∀ b, K b → b < w.heap.size := by obtain ⟨o, Q, h, h2⟩ := h; exact fun b hb => (h2 b hb).1
/-- What is new stays, too. -/
theorem LoneK.after (h : LoneK w0 gh P K w) (hb : Below w.heap.size w w') : LoneK w0 gh P (fun b => K b ∨ (w.heap.size ≤ b ∧ b < w'.heap.size)) w' := by
  obtain ⟨o, Q, h, h2⟩ := h
  have hlt := h.house.lt
  refine ⟨_, Q, h.after hb, fun b hk => ?_⟩
  rcases hk with hk | ⟨h3, h4⟩
  · obtain ⟨h5, h6⟩ := h2 b hk
    refine ⟨Nat.lt_of_lt_of_le h5 hb.size, ?_⟩
    unfold newO
    rw [if_pos h5]
    exact h6
  · refine ⟨h4, ?_⟩
    unfold newO
    rw [if_neg (by omega)]
    intro hi
    have := hlt b hi
    omega
theorem LoneK.stay (h : LoneK w0 gh P K w) (hb : Below w.heap.size w w') : LoneK w0 gh P K w' := (h.after hb).weak fun b hk => .inl hk
theorem kept_below (hK : ∀ b, K b → b < w.heap.size) (hb : Below w.heap.size w w') : Kept K w w' := Kept.of_below hb hK
theorem DoTo.keep {own : Nat → Nat} {Q : List (Pl × Pg)} {P' : List Pg} (h : InLaw w0 own w gh Q P) (h2 : ∀ b, K b → b < w.heap.size ∧ own b ∉ idsH gh Q) (hd : DoTo w0 own w gh Q P' w') : LoneK w0 gh P' K w' ∧ Kept K w w' := by
  obtain ⟨o', Q', g1, g2, g3⟩ := hd
  refine ⟨⟨o', Q', g1, fun b hb => ?_⟩, g2.os, g2.tape, g2.output, g2.size, fun b hb => g2.block b (h2 b hb).1 (h2 b hb).2⟩
  obtain ⟨h5, h6⟩ := h2 b hb
  refine ⟨Nat.lt_of_lt_of_le h5 g2.size, fun hi => ?_⟩
  rw [g2.same b h5] at hi
  rcases g3 _ hi with h7 | h7
  · exact h6 h7
  · have := h.based b h5
    omega
theorem do_keep (h : LoneK w0 gh P K w) (ht : Tab w) (d : Dd) (Ad : Option Addr) (cd : Nat) (hd : DeedAt w d Ad cd) :
    Calls Tryz.prog 32 #[.pointer (some ⟨gh, 0, none⟩), .agg (cDeed d Ad cd)] w fun e w' => e = .returned (.tuple #[.string (houseD P d).1, .int .i64 (houseD P d).2.1]) ∧ LoneK w0 gh (houseD P d).2.2 K w' ∧ Kept K w w' := by
  obtain ⟨own, Q, h, h2⟩ := h
  exact (do_law h ht d Ad cd hd).mono fun e w' ⟨he, hh⟩ => ⟨he, DoTo.keep h h2 hh⟩
end
theorem OwnK.ofKept {T : TypeId} {s : Nat} {w w' : World} {K K1 : Nat → Prop} {A : Option Addr} {n c : Nat} {xs : List Value} (h : OwnK T s w K A n c xs) (hk : Kept K1 w w') (hq : ∀ b, ¬ K b → b < w.heap.size → K1 b) : OwnK T s w' K A n c xs :=
  h.keep fun b hb _ hl => hk.block b (hq b hb hl)
end Go.Proofs.YtaogegpfapfchaaGreatDoor

/- The desk's deeds in plain Lean. -/
namespace Go.Proofs.YtaogegpfapfchaaGreatDoor
open Go.RowKit
set_option linter.unusedVariables false

abbrev ErB (e : Int) : Prop := 0 ≤ e ∧ e ≤ 1000
theorem ErB.ite {c : Prop} [Decidable c] {a b : Int} (ha : ErB a) (hb : ErB b) : ErB (if c then a else b) := by split <;> assumption
theorem chk_bd (n : Int) : ∀ (l : List Ed) (b : Bool) (e k : Int), ErB (chk n b e k l)
  | [], b, e, k => by unfold chk; exact ErB.ite ⟨by (try dsimp only); decide, by (try dsimp only); decide⟩ ⟨by (try dsimp only); decide, by (try dsimp only); decide⟩
  | x :: l, b, e, k => by
    have ih := chk_bd n l
    unfold chk
    repeat' refine ErB.ite ?_ ?_
    all_goals first | exact ih _ _ _ | exact ⟨by (try dsimp only); decide, by (try dsimp only); decide⟩
theorem checkE_bd (n : Int) (l : List Ed) : ErB (checkE n l) := by
  unfold checkE
  exact ErB.ite ⟨by (try dsimp only); decide, by (try dsimp only); decide⟩ (ErB.ite ⟨by (try dsimp only); decide, by (try dsimp only); decide⟩ (chk_bd _ _ _ _ _))
theorem leafE_bd (t : ByteArray) (H : LH) (l : List Ed) : ErB (leafE t H l) := by
  unfold leafE
  exact ErB.ite (checkE_bd _ _) (ErB.ite ⟨by (try dsimp only); decide, by (try dsimp only); decide⟩ ⟨by (try dsimp only); decide, by (try dsimp only); decide⟩)
theorem editP_bd (p : Pg) (l : List Ed) : ErB (editP p l).1 := by
  unfold editP
  split
  · exact ⟨by (try dsimp only); decide, by (try dsimp only); decide⟩
  split
  · exact leafE_bd _ _ _
  · exact ⟨by (try dsimp only); decide, by (try dsimp only); decide⟩
theorem makeP_bd (p : Pg) (t : ByteArray) : ErB (makeP p t).1 := by
  unfold makeP
  split
  · exact ⟨by (try dsimp only); decide, by (try dsimp only); decide⟩
  split
  · exact ⟨by (try dsimp only); decide, by (try dsimp only); decide⟩
  · exact editP_bd _ _
theorem pageD_bd (p : Pg) (d : Dd) (h : p.t.size ≤ 200) : ErB (pageD p d).2.1 ∧ (pageD p d).1.size ≤ 200 := by
  have z : (⟨#[]⟩ : ByteArray).size ≤ 200 := by decide
  unfold pageD
  split
  · exact ⟨editP_bd _ _, z⟩
  split
  · exact ⟨makeP_bd _ _, z⟩
  split
  · refine ⟨?_, z⟩
    show ErB (backP p).1
    unfold backP
    repeat' split
    all_goals exact ⟨by (try dsimp only); decide, by (try dsimp only); decide⟩
  split
  · refine ⟨?_, z⟩
    show ErB (onP p).1
    unfold onP
    repeat' split
    all_goals exact ⟨by (try dsimp only); decide, by (try dsimp only); decide⟩
  split
  · exact ⟨⟨by (try dsimp only); decide, by (try dsimp only); decide⟩, z⟩
  split
  · refine ⟨?_, z⟩
    show ErB (packP p d.n).1
    unfold packP
    repeat' split
    all_goals exact ⟨by (try dsimp only); decide, by (try dsimp only); decide⟩
  split
  · refine ⟨?_, z⟩
    show ErB (crashP p d.n).1
    unfold crashP
    repeat' split
    all_goals exact ⟨by (try dsimp only); decide, by (try dsimp only); decide⟩
  · exact ⟨⟨by dsimp only; decide, by dsimp only; decide⟩, h⟩
theorem nameE_bd (s : ByteArray) : ErB (nameE s) := by
  unfold nameE
  exact ErB.ite ⟨by (try dsimp only); decide, by (try dsimp only); decide⟩ (ErB.ite ⟨by (try dsimp only); decide, by (try dsimp only); decide⟩ ⟨by (try dsimp only); decide, by (try dsimp only); decide⟩)
theorem houseD_bd (P : List Pg) (d : Dd) (h : ∀ p ∈ P, p.Ok) : ErB (houseD P d).2.1 ∧ (houseD P d).1.size ≤ 200 := by
  have z : (⟨#[]⟩ : ByteArray).size ≤ 200 := by decide
  have hg : (P.getD (placeN d.name P 0).toNat pg0).t.size ≤ 200 := by
    rw [List.getD_eq_getElem?_getD]
    cases ho : P[(placeN d.name P 0).toNat]? with
    | none => exact z
    | some p => exact (h p (List.mem_of_getElem? ho)).text
  have hp := pageD_bd _ d hg
  unfold houseD
  split
  · exact ⟨⟨by (try dsimp only); decide, by (try dsimp only); decide⟩, z⟩
  split
  · exact ⟨nameE_bd _, z⟩
  split
  · repeat' split
    all_goals exact ⟨⟨by (try dsimp only); decide, by (try dsimp only); decide⟩, z⟩
  split
  · exact ⟨⟨by (try dsimp only); decide, by (try dsimp only); decide⟩, z⟩
  split
  · exact ⟨⟨by (try dsimp only); decide, by (try dsimp only); decide⟩, z⟩
  · exact hp

abbrev kNew : ByteArray := ⟨#[110, 101, 119]⟩
abbrev kEdit : ByteArray := ⟨#[101, 100, 105, 116]⟩
abbrev kCut : ByteArray := ⟨#[99, 117, 116]⟩
abbrev kMake : ByteArray := ⟨#[109, 97, 107, 101]⟩
abbrev kUndo : ByteArray := ⟨#[117, 110, 100, 111]⟩
abbrev kRedo : ByteArray := ⟨#[114, 101, 100, 111]⟩
abbrev kSave : ByteArray := ⟨#[115, 97, 118, 101]⟩
abbrev kPack : ByteArray := ⟨#[112, 97, 99, 107]⟩
abbrev kCrash : ByteArray := ⟨#[99, 114, 97, 115, 104]⟩
abbrev kText : ByteArray := ⟨#[116, 101, 120, 116]⟩
abbrev kDrop : ByteArray := ⟨#[100, 114, 111, 112]⟩
/-- The kind of a deed, and how many words it has. -/
def kindD (x : ByteArray) : Option (Nat × Nat) :=
  if x = kNew then some (1, 3) else if x = kEdit then some (2, 5) else if x = kCut then some (2, 4) else if x = kMake then some (10, 3)
  else if x = kUndo then some (3, 2) else if x = kRedo then some (4, 2) else if x = kSave then some (5, 2) else if x = kPack then some (6, 3)
  else if x = kCrash then some (7, 3) else if x = kText then some (8, 2) else if x = kDrop then some (9, 2) else none
/-- The deed of the words. -/
def deedOf (k : Nat) (l : List ByteArray) : Option Dd :=
  if k = 1 ∨ k = 10 then some ⟨k, 0, l.getD 1 ⟨#[]⟩, l.getD 2 ⟨#[]⟩, []⟩
  else if k = 6 ∨ k = 7 then (numD (l.getD 2 ⟨#[]⟩)).map fun n => ⟨k, n, l.getD 1 ⟨#[]⟩, ⟨#[]⟩, []⟩
  else if k = 2 then match numD (l.getD 2 ⟨#[]⟩), numD (l.getD 3 ⟨#[]⟩) with
    | some a, some d => some ⟨k, 0, l.getD 1 ⟨#[]⟩, ⟨#[]⟩, [(a, d, if l.length = 5 then l.getD 4 ⟨#[]⟩ else ⟨#[]⟩)]⟩
    | _, _ => none
  else some ⟨k, 0, l.getD 1 ⟨#[]⟩, ⟨#[]⟩, []⟩
/-- What a deed that was done answers. -/
def doneD (k : Int) (r : ByteArray × Int × List Pg) : Except Nat (Option ByteArray) :=
  if r.2.1 = 0 then .ok (some (if k = 8 then ⟨#[58]⟩ ++ r.1 else ⟨#[111, 107]⟩)) else .error r.2.1.toNat
noncomputable def deedD (P : List Pg) (l : List ByteArray) : Except Nat (Option ByteArray) × List Pg :=
  match kindD (l.getD 0 ⟨#[]⟩) with
  | none => (.ok none, P)
  | some (k, m) => if l.length ≠ m then (.error 12, P) else
    match deedOf k l with
    | none => (.error 12, P)
    | some d => (doneD d.kind (houseD P d), (houseD P d).2.2)
def deedEnd : Except Nat (Option ByteArray) → Ending
  | .error E => .panicked (thrown E)
  | .ok none => .returned (.tuple #[.string ⟨#[]⟩, .bool false])
  | .ok (some s) => .returned (.tuple #[.string s, .bool true])
end Go.Proofs.YtaogegpfapfchaaGreatDoor

/- The walk of the desk's deed. -/
namespace Go.Proofs.YtaogegpfapfchaaGreatDoor
open Go.RowKit
set_option linter.unusedVariables false

/-- What a deed comes to. -/
def DeskTo (w0 : World) (gh : Nat) (K : Nat → Prop) (w : World) (P' : List Pg) (w' : World) : Prop := LoneK w0 gh P' K w' ∧ Kept K w w'
theorem DeskTo.stay {w0 w w' : World} {gh : Nat} {K : Nat → Prop} {P : List Pg} (h : LoneK w0 gh P K w) (hb : Below w.heap.size w w') : DeskTo w0 gh K w P w' := ⟨h.stay hb, kept_below h.lt hb⟩
theorem do_desk {w0 w w1 : World} {gh : Nat} {K : Nat → Prop} {P : List Pg} (h : LoneK w0 gh P K w) (hb : Below w.heap.size w w1) (ht : Tab w) (d : Dd) (Ad : Option Addr) (cd : Nat) (hd : DeedAt w1 d Ad cd) :
    Calls Tryz.prog 32 #[.pointer (some ⟨gh, 0, none⟩), .agg (cDeed d Ad cd)] w1 fun e w' => e = .returned (.tuple #[.string (houseD P d).1, .int .i64 (houseD P d).2.1]) ∧ DeskTo w0 gh K w (houseD P d).2.2 w' ∧ ∀ b, w.heap.size ≤ b → b < w1.heap.size → w'.heap[b]? = w1.heap[b]? := by
  refine (do_keep (h.after hb) (ht.after hb) d Ad cd hd).mono ?_
  rintro e w' ⟨he, h1, h2⟩
  refine ⟨he, ⟨h1.weak fun b hk => .inl hk, (kept_below h.lt hb).trans (h2.weak fun b hk => .inl hk)⟩, fun b h3 h4 => h2.block b (.inr ⟨h3, h4⟩)⟩
theorem deedAt_one (w : World) (k n : Int) (name text : ByteArray) (hn : name.size ≤ 140737488351232) (hm : -9223372036854775808 ≤ n ∧ n ≤ 9223372036854775807) : DeedAt w ⟨k, n, name, text, []⟩ none 0 :=
  ⟨⟨rfl, Nat.zero_le _, fun x hx => absurd hx List.not_mem_nil, ⟨rfl, fun h => absurd h (Nat.lt_irrefl 0)⟩⟩, hn, hm⟩
theorem deedAt_edit {w : World} {u v : Nat} {y ins : ByteArray} {Ad : Option Addr} (hu : u ≤ 999) (hv : v ≤ 999) (hi : ins.size ≤ 140737488351232) (hn : y.size ≤ 140737488351232) (r : Reads w w.heap.size Ad 1 3 [.int .i64 (u : Int), .int .i64 (v : Int), .string ins]) : DeedAt w ⟨2, 0, y, ⟨#[]⟩, [((u : Int), (v : Int), ins)]⟩ Ad 1 := by
  refine ⟨⟨rfl, ?_, fun x hx => ?_, r⟩, hn, ?_⟩
  · show (1 : Nat) ≤ 4398046511104
    decide
  · rw [List.mem_singleton.1 hx]
    refine ⟨?_, ?_, hi⟩
    · show -9223372036854775808 ≤ (u : Int) ∧ (u : Int) ≤ 9223372036854775807
      omega
    · show -9223372036854775808 ≤ (v : Int) ∧ (v : Int) ≤ 9223372036854775807
      omega
  · show -9223372036854775808 ≤ (0 : Int) ∧ (0 : Int) ≤ 9223372036854775807
    decide
theorem doneD_no {k : Int} {r : ByteArray × Int × List Pg} (h : r.2.1 ≠ 0) : doneD k r = .error r.2.1.toNat := by unfold doneD; rw [if_neg h]
theorem doneD_ok {k : Int} {r : ByteArray × Int × List Pg} (h : r.2.1 = 0) : doneD k r = .ok (some (if k = 8 then ⟨#[58]⟩ ++ r.1 else ⟨#[111, 107]⟩)) := by unfold doneD; rw [if_pos h]

theorem cell_blk {w w' : World} {b o : Nat} (h : w'.heap[b]? = w.heap[b]?) : w'.cell? ⟨b, o, none⟩ = w.cell? ⟨b, o, none⟩ := by
  unfold World.cell?
  rw [h]
/-- What the region reads, behind the call. -/
theorem deed_back {w0 w wa w2 : World} {gh gd : Nat} {K : Nat → Prop} {P' : List Pg} {v0 v1 v2 v3 v4 : Value} (h : DeskTo w0 gh K w P' w2) (hk : ∀ b, w.heap.size ≤ b → b < wa.drew.heap.size → w2.heap[b]? = wa.drew.heap[b]?) (hK : K gd) {u : Value} {s : Nat} (hs : w.heap.size ≤ s ∧ s < wa.heap.size)
    (d0 : w.cell? ⟨gd, 0, none⟩ = some u) (hx : Blk wa s 70 #[v0, v1, v2, v3, v4]) :
    w2.cell? ⟨gd, 0, none⟩ = some u ∧ w2.cell? ⟨s, 0, none⟩ = some v0 ∧ w2.cell? ⟨s, 1, none⟩ = some v1 ∧ w2.cell? ⟨s, 2, none⟩ = some v2 ∧ w2.cell? ⟨s, 3, none⟩ = some v3 ∧ w2.cell? ⟨s, 4, none⟩ = some v4 := by
  have e := hk _ hs.1 hs.2
  have e' : w2.heap[s]? = wa.heap[s]? := e
  have c := fun i => hx.cell i
  refine ⟨(cell_blk (h.2.block gd hK)).trans d0, (cell_blk e').trans (c 0), (cell_blk e').trans (c 1), (cell_blk e').trans (c 2), (cell_blk e').trans (c 3), (cell_blk e').trans (c 4)⟩

theorem numD_le {s : ByteArray} {v : Nat} (h : numD s = some v) : v ≤ 999 := by
  unfold numD at h
  split at h
  · cases h
  split at h
  · rename_i h1 h2
    injection h with h
    rw [← h]
    exact nrD_le _ (by show s.size ≤ 3; omega) h2
  · cases h
theorem num_yes {s : ByteArray} {v : Nat} (hs : s.size ≤ 140737488351232) (h : numD s = some v) (w : World) : Calls Tryz.prog 31 #[.string s] w fun e w' => e = .returned (.int .i64 (v : Int)) ∧ Below w.heap.size w w' := by
  have := dnum_any s hs w
  rw [h] at this
  exact this
theorem num_no {s : ByteArray} (hs : s.size ≤ 140737488351232) (h : numD s = none) (w : World) : Calls Tryz.prog 31 #[.string s] w fun e w' => e = .panicked (thrown 12) ∧ Below w.heap.size w w' := by
  have := dnum_any s hs w
  rw [h] at this
  exact this
/-- What lies there while two numbers are read. -/
abbrev XNum (b o : Nat) (z q : ByteArray) (wa w' : World) : Prop := w'.cell? ⟨b, o + 2, none⟩ = some (.string z) ∧ w'.cell? ⟨b, o + 3, none⟩ = some (.string q) ∧ b < wa.heap.size ∧ Below wa.heap.size wa w'
theorem XNum.on {b o : Nat} {z q : ByteArray} {wa w1 w2 : World} (h : XNum b o z q wa w1) (hb : Below w1.heap.size w1 w2) : XNum b o z q wa w2 := by
  obtain ⟨h1, h2, h3, h4⟩ := h
  have h5 := h4.size
  exact ⟨by rw [hb.cell (show b < _ by omega)]; exact h1, by rw [hb.cell (show b < _ by omega)]; exact h2, h3, chain hb h4⟩
theorem XNum.al {b o : Nat} {z q : ByteArray} {wa w1 : World} (h : XNum b o z q wa w1) (x : Obj) : XNum b o z q wa (w1.alloc x) := h.on ((Below.refl _ _).alloc (Nat.le_refl _) _)
/-- The edit in the making. -/
abbrev EdNew (wa w' : World) (g : Nat) : Prop := wa.heap.size ≤ g ∧ Blk w' g 73 #[.int .i64 0, .int .i64 0, .string ⟨#[]⟩]
theorem new_on {b o : Nat} {z q : ByteArray} {wa wx w7 : World} (h : XNum b o z q wa wx) (hb : Below (wx.alloc (.cells #[.int .i64 0, .int .i64 0, .string ⟨#[]⟩] 73)).heap.size (wx.alloc (.cells #[.int .i64 0, .int .i64 0, .string ⟨#[]⟩] 73)) w7) : EdNew wa w7 wx.heap.size :=
  ⟨h.2.2.2.size, (Blk.new wx _ _).after hb⟩
theorem EdNew.on {wa w6 w7 : World} {g : Nat} (h : EdNew wa w6 g) (hb : Below w6.heap.size w6 w7) : EdNew wa w7 g := ⟨h.1, h.2.after hb⟩
theorem EdNew.facts {wa w6 : World} {g : Nat} (h : EdNew wa w6 g) : w6.cell? ⟨g, 0, none⟩ = some (.int .i64 0) ∧ w6.cell? ⟨g, 1, none⟩ = some (.int .i64 0) ∧ w6.cell? ⟨g, 2, none⟩ = some (.string ⟨#[]⟩) ∧ w6.frozen? ⟨g, 0, none⟩ = false ∧ w6.frozen? ⟨g, 1, none⟩ = false ∧ w6.frozen? ⟨g, 2, none⟩ = false :=
  ⟨h.2.cell 0, h.2.cell 1, h.2.cell 2, h.2.frozen 0, h.2.frozen 1, h.2.frozen 2⟩
theorem num_k {u : Nat} {z : ByteArray} {w : World} {K : Ending → World → Prop} (hI : Hid (∀ w, Calls Tryz.prog 31 #[.string z] w fun e w' => e = .returned (.int .i64 (u : Int)) ∧ Below w.heap.size w w'))
    (hk : ∀ w', Below w.heap.size w w' → K (.returned (.int .i64 (u : Int))) w') : Calls Tryz.prog 31 #[.string z] w K := by
  refine (hI.out w).mono ?_
  rintro e w' ⟨rfl, hb⟩
  exact hk w' hb
theorem XNum.bel {b o : Nat} {z q : ByteArray} {wa w1 : World} (h : XNum b o z q wa w1) : Below wa.heap.size wa w1 := h.2.2.2
theorem num_p {z : ByteArray} {w : World} {K : Ending → World → Prop} (hI : Hid (∀ w, Calls Tryz.prog 31 #[.string z] w fun e w' => e = .panicked (thrown 12) ∧ Below w.heap.size w w'))
    (hk : ∀ w', Below w.heap.size w w' → K (.panicked (thrown 12)) w') : Calls Tryz.prog 31 #[.string z] w K := by
  refine (hI.out w).mono ?_
  rintro e w' ⟨rfl, hb⟩
  exact hk w' hb
theorem XNum.st {b o g : Nat} {z q : ByteArray} {wa w1 : World} (h : XNum b o z q wa w1) (hg : wa.heap.size ≤ g) (u v s : Value) : XNum b o z q wa (((w1.setCell ⟨g, 0, none⟩ u).setCell ⟨g, 1, none⟩ v).setCell ⟨g, 2, none⟩ s) := by
  obtain ⟨h1, h2, h3, h4⟩ := h
  have hb : Below wa.heap.size w1 (((w1.setCell ⟨g, 0, none⟩ u).setCell ⟨g, 1, none⟩ v).setCell ⟨g, 2, none⟩ s) := (((Below.refl _ _).setCell hg _).setCell hg _).setCell hg _
  exact ⟨by rw [hb.cell (show b < _ from h3)]; exact h1, by rw [hb.cell (show b < _ from h3)]; exact h2, h3, ((h4.setCell hg _).setCell hg _).setCell hg _⟩
theorem fin_al {b o u v : Nat} {z q : ByteArray} {wa w1 : World} (h : XNum b o z q wa w1) : wa.heap.size ≤ w1.heap.size ∧ Blk (w1.alloc (Obj.cells #[.int .i64 (u : Int), .int .i64 (v : Int), .string ⟨#[]⟩] 73)) w1.heap.size 73 #[.int .i64 (u : Int), .int .i64 (v : Int), .string ⟨#[]⟩] ∧ Below wa.heap.size wa (w1.alloc (Obj.cells #[.int .i64 (u : Int), .int .i64 (v : Int), .string ⟨#[]⟩] 73)) :=
  ⟨h.2.2.2.size, Blk.new _ _ _, h.2.2.2.alloc h.2.2.2.size _⟩
theorem fin_set {b o u v g : Nat} {z q : ByteArray} {wa w1 : World} (h : XNum b o z q wa w1) (hE : EdNew wa w1 g) : wa.heap.size ≤ g ∧ Blk (((w1.setCell ⟨g, 0, none⟩ (.int .i64 (u : Int))).setCell ⟨g, 1, none⟩ (.int .i64 (v : Int))).setCell ⟨g, 2, none⟩ (.string ⟨#[]⟩)) g 73 #[.int .i64 (u : Int), .int .i64 (v : Int), .string ⟨#[]⟩] ∧ Below wa.heap.size wa (((w1.setCell ⟨g, 0, none⟩ (.int .i64 (u : Int))).setCell ⟨g, 1, none⟩ (.int .i64 (v : Int))).setCell ⟨g, 2, none⟩ (.string ⟨#[]⟩)) :=
  ⟨hE.1, ((hE.2.set_ 0 _).set_ 1 _).set_ 2 _, ((h.2.2.2.setCell hE.1 _).setCell hE.1 _).setCell hE.1 _⟩
end Go.Proofs.YtaogegpfapfchaaGreatDoor

