/- ScriptBack's walk: reading inverts writing and vice versa, and concatenations are read as concatenations. -/
import Derived.Test.YtbcendaiakeabaaDoorScriptOne
import Derived.Test.YtbcendaiakeabaaDoorConcatE
import Derived.Test.YtbcendaiakeabaaDoorEqual
import Derived.Test.YtbcendaiakeabaaDoorArgs
namespace Go.Proofs.YtbcendaiakeabaaDoor
open Go.RowKit
set_option linter.unusedVariables false

set_option maxRecDepth 100000 in
set_option maxHeartbeats 4000000 in
theorem scriptBack_core (A : Option Addr) (na ca : Nat) (a : List Ed) (B : Option Addr) (nb cb : Nat) (b : List Ed) (s : ByteArray) (hs : s.size ≤ 140737488351232) (w : World) (ht : Tab w) (ha : EdsAt w A na ca a) (hb : EdsAt w B nb cb b) :
    Calls Tryd.prog 5 #[.slice A na ca, .slice B nb cb, .string s] w fun e w' => e = .returned (.bool true) ∧ Below w.heap.size w w' := by
  go_enter Tryd.func5, Tryd.ntmps5
  go_wp2_with fail
  refine (scripts_any _ ht).mono ?_
  rintro e w1 ⟨rfl, hb1⟩
  go_wp2_with fail
  refine (write_one _ (ht.after hb1) (ha.after hb1)).mono ?_
  rintro e w2 ⟨ta, Ea, rfl, hwa, hb2⟩
  have hb2 := chain hb2 hb1
  go_wp2_with fail
  refine (write_one _ (ht.after hb2) (hb.after hb2)).mono ?_
  rintro e w3 ⟨tb, Eb, rfl, hwb, hb3⟩
  have hb3 := chain hb3 hb2
  go_wp2_with fail
  refine (read_one s hs _).mono ?_
  rintro e w4 ⟨A4, c4, l, El, rfl, hrl, hl4, hb4⟩
  have hb4' := chain hb4 hb3
  have Hwa := Lib.hid hwa
  have Hwb := Lib.hid hwb
  clear hwa hwb hb1 hb2 hb3 hb4
  rcases hrl with ⟨rfl, hrl⟩ | ⟨rfl, _, rfl⟩
  case' inl =>
    go_wp2_with fail
    refine (write_one _ (ht.after hb4') hl4).mono ?_
    rintro e w5 ⟨tl, E5, rfl, h5, hb5⟩
    have hb5 := chain hb5 hb4'
    rcases h5 with ⟨rfl, _, htl⟩ | ⟨_, hno, _⟩
    case inr => exact absurd ⟨hrl.2.1, hrl.2.2⟩ hno
    obtain rfl : s = tl := ba_extS (hrl.1.trans htl.symm)
    have q0 : (s.toList != s.toList) = false := by simp
    clear htl hl4 hb4' hrl
  case' inr =>
    have hb5 := hb4'
    have q0 : True := trivial
    clear hl4 hb4'
  all_goals
    rcases Hwa.out with ⟨rfl, wa, hta⟩ | ⟨hEa, nwa, rfl⟩
    case inr =>
      clear Hwa Hwb
      have q1 : (Ea != 0) = true := by simpa using hEa
      have q1' : (Ea == 0) = false := by simpa using hEa
      go_wp2
      go_ret
      exact ⟨by simp, hb5⟩
    rcases Hwb.out with ⟨rfl, wb, htb⟩ | ⟨hEb, nwb, rfl⟩
    case inr =>
      clear Hwa Hwb hta
      have q1 : (Eb != 0) = true := by simpa using hEb
      go_wp2
      go_ret
      exact ⟨by simp, hb5⟩
    have hsa : ta.size ≤ 20000 := by show ta.data.toList.length ≤ _; rw [hta]; exact writes_len wa
    have hsb : tb.size ≤ 20000 := by show tb.data.toList.length ≤ _; rw [htb]; exact writes_len wb
    have hca : ∀ w, (Op.stringOp .add ta tb).run Tryd.prog w = .ok (.string (ta ++ tb)) w := fun w => run_string_add_sum w _ _ (by omega)
    have hsab : (ta ++ tb).size ≤ 40000 := by rw [ByteArray.size_append]; omega
    have htab : (ta ++ tb).data.toList = writeL (a ++ b) := by rw [writeL_app, ← hta, ← htb]; simp [ByteArray.data_append]
    have Hta := Lib.hid hta
    have Htab := Lib.hid htab
    clear Hwa Hwb hta htb htab
    go_wp2_with fail
    refine (read_one ta (by omega) _).mono ?_
    rintro e w6 ⟨A6, c6, m, E6, rfl, h6, hm6, hb6⟩
    have hb6' := chain hb6 hb5
    rcases h6 with ⟨rfl, hrm⟩ | ⟨_, hno, _⟩
    case inr => exact absurd ⟨Hta.out, wa.1, wa.2⟩ (hno a)
    obtain rfl : a = m := read_uniq (s := ta.data.toList) ⟨Hta.out, wa.1, wa.2⟩ hrm
    clear hrm
    go_wp2_with fail
    refine (read_one (ta ++ tb) (by omega) _).mono ?_
    rintro e w7 ⟨A7, c7, k, E7, rfl, h7, hk7, hb7⟩
    have hb7' := chain hb7 hb6'
    have hm7 := hm6.after hb7
    have ha7 := ha.after hb7'
    have hbb7 := hb.after hb7'
    clear hca hb5 hb6 hb6' hb7
    have eq1 := equalEdit_any A6 A a.length na c6 ca _ _ a a _ (by have := wa.1; omega) (by have := ha.small; omega) rfl ha.len hm7.at_ ha7.at_
    rw [decide_eq_true rfl] at eq1
    have hna : na ≤ 20 := by have := wa.1; rw [ha.len] at this; exact this
    have hnb : nb ≤ 20 := by have := wb.1; rw [hb.len] at this; exact this
    have Eq1 := Lib.hid eq1
    have Hal := Lib.hid ha.len
    have Hbl := Lib.hid hb.len
    clear eq1 ha hb
    rw [Hal.out] at Eq1 ⊢
    go_wp2_with fail
    refine Eq1.out.mono ?_
    rintro e w8 ⟨rfl, hb8⟩
    have hb8' := chain hb8 hb7'
    have hk8 := hk7.after hb8
    have ha8 := ha7.after hb8
    have hbb8 := hbb7.after hb8
    clear hb8 hb7' ha7 hbb7 hm7 hk7 Eq1 hm6
    by_cases h20 : 20 < na + nb
    · have q1 : decide ((20 : Int) < (na : Int) + (nb : Int)) = true := decide_eq_true (by omega)
      rcases h7 with ⟨rfl, hrk⟩ | ⟨rfl, _, rfl⟩
      · exfalso
        obtain ⟨t, e2, e3⟩ := write_cancel (a := k) (l := a ++ b) (s := []) hrk.2.2 (fun x hx => by
          rcases List.mem_append.1 hx with hx | hx
          · exact wa.2 x hx
          · exact wb.2 x hx) (by rw [List.append_nil, ← hrk.1, Htab.out])
        cases t with
        | nil =>
          have := congrArg List.length e2
          rw [List.append_nil, List.length_append, Hal.out, Hbl.out] at this
          have := hrk.2.1
          omega
        | cons x t =>
          have := congrArg List.length e3
          have hx := List.length_pos_iff.2 (item_ne x)
          simp [writeL] at this
          omega
      · go_wp2
        go_ret
        exact ⟨rfl, hb8'⟩
    · have q1 : decide ((20 : Int) < (na : Int) + (nb : Int)) = false := decide_eq_false (by omega)
      have hrd : ReadOk (ta ++ tb).data.toList (a ++ b) := ⟨Htab.out, by rw [List.length_append, Hal.out, Hbl.out]; omega, fun x hx => by
          rcases List.mem_append.1 hx with hx | hx
          · exact wa.2 x hx
          · exact wb.2 x hx⟩
      rcases h7 with ⟨rfl, hrk⟩ | ⟨_, hno, _⟩
      case inr => exact absurd hrd (hno _)
      have hke := read_uniq hrk hrd
      subst hke
      clear hrk hrd
      have hab : (a ++ b).length = na + nb := by rw [List.length_append, Hal.out, Hbl.out]
      rw [hab] at hk8 ⊢
      have Hab := Lib.hid hab
      clear hab
      have g0 : ∀ W : World, Below w8.heap.size w8 W → Calls Tryd.prog 18 #[.slice (some ⟨w8.heap.size, 0, none⟩) 2 2] (w8.alloc (Obj.cells #[.slice A na ca, .slice B nb cb] 22)) fun e w' => ∃ X c, e = .returned (.slice X (na + nb) c) ∧ Reads w' w'.heap.size X (na + nb) 3 ((a ++ b).flatMap cEdit) ∧ Below w8.heap.size w8 w' := fun W hW => by
        refine (concatE_ok w8.heap.size 2 A B na nb ca cb w8.heap.size a b Hal.out Hbl.out (by omega) (by omega) _ (ha8.at_.alloc (Nat.le_refl _) _) (hbb8.at_.alloc (Nat.le_refl _) _) (by rw [World.cell?_alloc_mark]; rfl) (by rw [World.cell?_alloc_mark]; rfl) (by simp) (by simp)).mono ?_
        rintro e w' ⟨X, c, rfl, hown, hbx⟩
        exact ⟨X, c, rfl, Reads.of_own hown, ((Below.refl _ _).alloc (Nat.le_refl _) _).trans (hbx.mono (by simp))⟩
      have G0 := Lib.hid (g0 w8 (Below.refl _ _))
      clear g0
      go_wp2_with fail
      refine G0.out.mono ?_
      rintro e w9 ⟨X, cX, rfl, hrx, hb9⟩
      have hb9' := chain hb9 hb8'
      have hk9 := hk8.at_.after hb9
      have eq2 := equalEdit_any A7 X (na + nb) (na + nb) c7 cX _ _ (a ++ b) (a ++ b) w9 (by omega) (by omega) Hab.out Hab.out hk9 hrx
      rw [decide_eq_true rfl] at eq2
      have Eq2 := Lib.hid eq2
      clear eq2
      go_wp2_with fail
      refine Eq2.out.mono ?_
      rintro e w10 ⟨rfl, hb10⟩
      go_wp2
      go_ret
      exact ⟨rfl, chain hb10 hb9'⟩
theorem edsAt_of {w : World} {A : Option Addr} {len cap : Nat} {l : List Ed} (h : EditsIn w A len cap l) : EdsAt w A len cap l := ⟨h.1, by have := h.2.2.1; omega, h.2.2.2.1, h.2.1⟩
theorem scriptBack_walk (A : Option Addr) (na ca : Nat) (a : List Ed) (B : Option Addr) (nb cb : Nat) (b : List Ed) (s : ByteArray) {w : World} (ha : EditsIn w A na ca a) (hb : EditsIn w B nb cb b) (hs : s.size ≤ 140737488351232) (ht : Tab w) :
    Calls Tryd.prog 5 #[.slice A na ca, .slice B nb cb, .string s] w fun e w' => e = .returned (.bool true) ∧ Below w.heap.size w w' :=
  scriptBack_core A na ca a B nb cb b s hs w ht (edsAt_of ha) (edsAt_of hb)
end Go.Proofs.YtbcendaiakeabaaDoor
