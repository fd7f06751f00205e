/- The walk of edit.Of. -/
import Derived.Test.YtgoofbbbnphncaaDoorOwnLow
import Derived.Test.YtgoofbbbnphncaaDoorOfP
import Derived.Test.YtgoofbbbnphncaaDoorEditWalk
import Derived.Test.YtgoofbbbnphncaaDoorClone
namespace Go.Proofs.YtgoofbbbnphncaaDoor
open Go.RowKit
set_option linter.unusedVariables false

/-- Of's answer. -/
def ToldOf (s t : List UInt8) (w : World) (e : Ending) (w' : World) : Prop :=
  Below w.heap.size w w' ∧
  ((∃ E : Int, (E != 0) = true ∧ e = .returned (.tuple #[.slice none 0 0, .int .i64 E]) ∧ (200 < s.length ∨ 200 < t.length ∨ ∃ f g, OfAt s t f g ∧ 40 < t.length - g - f)) ∨
   (s = t ∧ s.length ≤ 200 ∧ e = .returned (.tuple #[.slice none 0 0, .int .i64 0])) ∨
   (s ≠ t ∧ s.length ≤ 200 ∧ ∃ f g A c, OfAt s t f g ∧ checkE s.length [ofE s t f g] = 0 ∧ e = .returned (.tuple #[.slice A 1 c, .int .i64 0]) ∧ Reads w' w'.heap.size A 1 3 ([ofE s t f g].flatMap cEdit)))

def ToldOfO (s t : List UInt8) (w : World) (e : Ending) (w' : World) : Prop :=
  Below w.heap.size w w' ∧
  ((∃ E : Int, (E != 0) = true ∧ e = .returned (.tuple #[.slice none 0 0, .int .i64 E]) ∧ (200 < s.length ∨ 200 < t.length ∨ ∃ f g, OfAt s t f g ∧ 40 < t.length - g - f)) ∨
   (s = t ∧ s.length ≤ 200 ∧ e = .returned (.tuple #[.slice none 0 0, .int .i64 0])) ∨
   (s ≠ t ∧ s.length ≤ 200 ∧ ∃ f g A c, OfAt s t f g ∧ checkE s.length [ofE s t f g] = 0 ∧ e = .returned (.tuple #[.slice A 1 c, .int .i64 0]) ∧ w'.ownsRow w.heap.size 42 3 (.slice A 1 c) 1 ([ofE s t f g].flatMap cEdit)))

set_option maxRecDepth 100000 in
set_option maxHeartbeats 4000000 in
theorem of_own (s t : ByteArray) (hs0 : s.size ≤ 140737488351232) (ht0 : t.size ≤ 140737488351232) (w : World) :
    Calls Tryd.prog 35 #[.string s, .string t] w (ToldOfO s.data.toList t.data.toList w) := by
  have hsl : s.data.toList.length = s.size := rfl
  have htl : t.data.toList.length = t.size := rfl
  by_cases h1 : 200 < s.size
  · have q1 : decide ((200 : Int) < (s.size : Int)) = true := decide_eq_true (by omega)
    have q1n : decide (200 < s.size) = true := decide_eq_true h1
    go_enter Tryd.func35, Tryd.ntmps35
    go_wp2
    go_ret2
    exact ⟨Below.refl _ _, .inl ⟨2, rfl, rfl, .inl h1⟩⟩
  have q1 : decide ((200 : Int) < (s.size : Int)) = false := decide_eq_false (by omega)
  have q1n : decide (200 < s.size) = false := decide_eq_false h1
  by_cases h2 : 200 < t.size
  · have q2 : decide ((200 : Int) < (t.size : Int)) = true := decide_eq_true (by omega)
    have q2n : decide (200 < t.size) = true := decide_eq_true h2
    go_enter Tryd.func35, Tryd.ntmps35
    go_wp2
    go_ret2
    exact ⟨Below.refl _ _, .inl ⟨2, rfl, rfl, .inr (.inl h2)⟩⟩
  have q2 : decide ((200 : Int) < (t.size : Int)) = false := decide_eq_false (by omega)
  have q2n : decide (200 < t.size) = false := decide_eq_false h2
  obtain ⟨M, hmin, hMs, hMt, hMe⟩ : ∃ M : Nat, (∀ (ats : Array TypeId) (ty : TypeId) (w : World), (Builtin.min_ ats ty #[.int .i64 (s.size : Int), .int .i64 (t.size : Int)]).run Tryd.prog w = .ok (.int .i64 (M : Int)) w) ∧ M ≤ s.size ∧ M ≤ t.size ∧ M = min s.size t.size :=
    ⟨min s.size t.size, fun ats ty w => by rw [run_min_int2]; congr 2; omega, by omega, by omega, rfl⟩
  have HM := Lib.hid hMe
  have hs200 : s.size ≤ 200 := by omega
  have ht200 : t.size ≤ 200 := by omega
  have Hgs := Lib.hid (fun j hj => getD_bytes s j hj)
  have Hgt := Lib.hid (fun j hj => getD_bytes t j hj)
  clear hMe h1 h2 hs0 ht0 hsl htl
  go_enter Tryd.func35, Tryd.ntmps35
  go_wp2
  clear q1 q1n q2 q2n
  go_loopw [6] (fun fv wr => ∃ f : Nat, f ≤ M ∧ fv = .int .i64 f ∧ Hid (∀ j, j < f → s.data.toList.getD j 0 = t.data.toList.getD j 0) ∧ Below w.heap.size w wr) (fun fv _ => M - (intOf fv).toNat)
  case atStart => exact ⟨0, Nat.zero_le _, rfl, Lib.hid (fun j hj => by omega), Below.refl _ _⟩
  case round =>
    obtain ⟨f, hf, rfl, HF, hbr⟩ := hrel
    have hcase : (f < M ∧ s.data.toList.getD f 0 = t.data.toList.getD f 0) ∨ ((f < M ∧ s.data.toList.getD f 0 ≠ t.data.toList.getD f 0) ∨ f = M) := by
      by_cases h : f < M
      · by_cases h' : s.data.toList.getD f 0 = t.data.toList.getD f 0
        · exact .inl ⟨h, h'⟩
        · exact .inr (.inl ⟨h, h'⟩)
      · exact .inr (.inr (by omega))
    rcases hcase with ⟨hlt, heq⟩ | hstop
    · have hfs : f < s.size := by omega
      have hft : f < t.size := by omega
      have hfs' : (f : Int) < s.size := by omega
      have hft' : (f : Int) < t.size := by omega
      have q1 : decide ((f : Int) < (M : Int)) = true := decide_eq_true (by omega)
      have q1n : decide (f < M) = true := decide_eq_true hlt
      have heq' := heq
      rw [Hgs.out f hfs, Hgt.out f hft] at heq'
      have q2 : ((s[f].toNat : Int) == (t[f].toNat : Int)) = true := by rw [heq']; simp
      have Heq := Lib.hid heq
      clear heq heq'
      go_wp2
      go_quiet (fail)
      go_wp2
      go_roundw
      case rel =>
        refine ⟨f + 1, by omega, by go_num, Lib.hid fun j hj => ?_, below_drewN hbr _⟩
        by_cases e : j = f
        · rw [e]; exact Heq.out
        · exact HF.out j (by omega)
      case measure => simp only [intOf]; omega
    · have hst : f < M → s.data.toList.getD f 0 ≠ t.data.toList.getD f 0 := fun h => by
        rcases hstop with ⟨_, h'⟩ | h'
        · exact h'
        · omega
      have HST := Lib.hid hst
      clear hst
      have tailgo : True := trivial
      rcases hstop with ⟨hlt, hne⟩ | hfM <;> (first
        | (have hfs : f < s.size := by omega
           have hft : f < t.size := by omega
           have hfs' : (f : Int) < s.size := by omega
           have hft' : (f : Int) < t.size := by omega
           have q1 : decide ((f : Int) < (M : Int)) = true := decide_eq_true (by omega)
           have q1n : decide (f < M) = true := decide_eq_true hlt
           have q2 : ((s[f].toNat : Int) == (t[f].toNat : Int)) = false := by
             rw [beq_eq_false_iff_ne]; intro hh
             exact hne (by rw [Hgs.out f hfs, Hgt.out f hft]; exact UInt8.toNat_inj.1 (by omega))
           clear hne
           go_wp2
           go_quiet (fail)
           go_wp2
           clear q1 q1n q2)
        | (have q1 : decide ((f : Int) < (M : Int)) = false := decide_eq_false (by omega)
           have q1n : decide (f < M) = false := decide_eq_false (by omega)
           have hlt : f ≤ M := by omega
           clear hfM
           go_wp2
           go_quiet (fail)
           go_wp2
           clear q1 q1n)) <;> (
        have hbz := below_drewN hbr nq
        clear hbr
        generalize wr.drewN nq = wz at *
        obtain ⟨R, hR⟩ : ∃ R : Nat, R = M - f := ⟨_, rfl⟩
        have HRe := Lib.hid hR
        have hRM : f + R = M := by omega
        clear hR
        go_loopw [7] (fun gv wr => ∃ g : Nat, g ≤ R ∧ gv = .int .i64 g ∧ Hid (∀ j, j < g → s.data.toList.getD (s.size - 1 - j) 0 = t.data.toList.getD (t.size - 1 - j) 0) ∧ Below w.heap.size w wr) (fun gv _ => R - (intOf gv).toNat)
        case atStart => exact ⟨0, Nat.zero_le _, rfl, Lib.hid (fun j hj => by omega), hbz⟩
        case round =>
          clear hbz
          obtain ⟨g, hg, rfl, HG, hbr⟩ := hrel
          have hcase : (g < R ∧ s.data.toList.getD (s.size - 1 - g) 0 = t.data.toList.getD (t.size - 1 - g) 0) ∨ ((g < R ∧ s.data.toList.getD (s.size - 1 - g) 0 ≠ t.data.toList.getD (t.size - 1 - g) 0) ∨ g = R) := by
            by_cases h : g < R
            · by_cases h' : s.data.toList.getD (s.size - 1 - g) 0 = t.data.toList.getD (t.size - 1 - g) 0
              · exact .inl ⟨h, h'⟩
              · exact .inr (.inl ⟨h, h'⟩)
            · exact .inr (.inr (by omega))
          rcases hcase with ⟨hlt2, heq⟩ | hstop2
          · obtain ⟨i, hi⟩ : ∃ i : Nat, i = s.size - 1 - g := ⟨_, rfl⟩
            obtain ⟨i2, hi2⟩ : ∃ i2 : Nat, i2 = t.size - 1 - g := ⟨_, rfl⟩
            rw [← hi, ← hi2] at heq
            have his : i < s.size := by omega
            have hit : i2 < t.size := by omega
            have his' : (i : Int) < s.size := by omega
            have hit' : (i2 : Int) < t.size := by omega
            have hw1 : IntKind.i64.wrap ((s.size : Int) - 1 - (g : Int)) = (i : Int) := by rw [IntKind.wrap_i64]; omega
            have hw2 : IntKind.i64.wrap ((t.size : Int) - 1 - (g : Int)) = (i2 : Int) := by rw [IntKind.wrap_i64]; omega
            have q1 : decide ((g : Int) < (M : Int) - (f : Int)) = true := decide_eq_true (by omega)
            have heq' := heq
            rw [Hgs.out i his, Hgt.out i2 hit] at heq'
            have q2 : ((s[i].toNat : Int) == (t[i2].toNat : Int)) = true := by rw [heq']; simp
            have Heq := Lib.hid heq
            have Hi := Lib.hid hi
            have Hi2 := Lib.hid hi2
            clear heq heq' hi hi2
            go_wp2
            go_quiet (fail)
            go_wp2
            go_roundw
            case rel =>
              refine ⟨g + 1, by omega, by go_num, Lib.hid fun j hj => ?_, below_drewN hbr _⟩
              by_cases e : j = g
              · rw [e, ← Hi.out, ← Hi2.out]; exact Heq.out
              · exact HG.out j (by omega)
            case measure => simp only [intOf]; omega
          · have hat : OfAt s.data.toList t.data.toList f g := ⟨by show f + g ≤ min s.size t.size; rw [← HM.out]; omega, HF.out, fun h => HST.out (by rw [HM.out]; exact h), HG.out, fun h => by
              have h : f + g < min s.size t.size := h
              rw [← HM.out] at h
              rcases hstop2 with ⟨_, h'⟩ | h'
              · exact h'
              · omega⟩
            have HAT := Lib.hid hat
            clear hat
            obtain ⟨i, hi⟩ : ∃ i : Nat, i = s.size - 1 - g := ⟨_, rfl⟩
            obtain ⟨i2, hi2⟩ : ∃ i2 : Nat, i2 = t.size - 1 - g := ⟨_, rfl⟩
            rcases hstop2 with ⟨hlt2, hne2⟩ | hgR <;> (first
              | (rw [← hi, ← hi2] at hne2
                 have his : i < s.size := by omega
                 have hit : i2 < t.size := by omega
                 have his' : (i : Int) < s.size := by omega
                 have hit' : (i2 : Int) < t.size := by omega
                 have hw1 : IntKind.i64.wrap ((s.size : Int) - 1 - (g : Int)) = (i : Int) := by rw [IntKind.wrap_i64]; omega
                 have hw2 : IntKind.i64.wrap ((t.size : Int) - 1 - (g : Int)) = (i2 : Int) := by rw [IntKind.wrap_i64]; omega
                 have q1 : decide ((g : Int) < (M : Int) - (f : Int)) = true := decide_eq_true (by omega)
                 have q2 : ((s[i].toNat : Int) == (t[i2].toNat : Int)) = false := by
                   rw [beq_eq_false_iff_ne]; intro hh
                   exact hne2 (by rw [Hgs.out i his, Hgt.out i2 hit]; exact UInt8.toNat_inj.1 (by omega))
                 clear hne2 hi hi2
                 go_wp2
                 go_quiet (fail)
                 clear q1 q2 hw1 hw2)
              | (have q1 : decide ((g : Int) < (M : Int) - (f : Int)) = false := decide_eq_false (by omega)
                 clear hgR hi hi2
                 go_wp2
                 go_quiet (fail)
                 clear q1)) <;> (
              have hbr2 := below_drewN hbr nq
              clear hbr
              generalize wr.drewN nq = wy at *
              have hfit := HAT.out.fits
              obtain ⟨dd, hdd⟩ : ∃ dd : Nat, dd = s.size - g - f := ⟨_, rfl⟩
              obtain ⟨mg, hmg⟩ : ∃ mg : Nat, mg = t.size - g := ⟨_, rfl⟩
              have hfit : f + g ≤ min s.size t.size := hfit
              have e1 : (s.size : Int) - (g : Int) - (f : Int) = (dd : Int) := by omega
              have e2 : (t.size : Int) - (g : Int) = (mg : Int) := by omega
              have hfm : f ≤ mg := by omega
              have hmt : mg ≤ t.size := by omega
              have hins : t.extract f mg = e8 ((t.data.toList.drop f).take (t.size - g - f)) := by
                have : (t.extract f mg).data.toList = (t.data.toList.drop f).take (t.size - g - f) := by rw [Lib.extract_data]; congr 1; omega
                rw [← e8_of (t.extract f mg), this]
              have hil : (t.extract f mg).size = t.size - g - f := by simp; omega
              have hX : ofE s.data.toList t.data.toList f g = ((f : Int), (dd : Int), t.extract f mg) := by
                unfold ofE; rw [hins, hdd]; rfl
              have hemp : ((t.extract f mg).toList == []) = decide (t.size - g - f = 0) := by
                rw [ByteArray.toList_eq, Bool.eq_iff_iff, beq_iff_eq, decide_eq_true_iff, ← hil]
                constructor
                · intro h; show (t.extract f mg).data.toList.length = 0; rw [h]; rfl
                · intro h; exact List.eq_nil_of_length_eq_zero h
              have hsame := of_same HAT.out
              have hsame : (dd = 0 ∧ t.size - g - f = 0) ↔ s.data.toList = t.data.toList := by rw [hdd]; exact hsame
              have hpos : (((dd : Int) == 0) = true ∧ ((t.extract f mg).toList == []) = true ∧ s.data.toList = t.data.toList) ∨ (s.data.toList ≠ t.data.toList ∧ (((dd : Int) == 0) = false ∨ (((dd : Int) == 0) = true ∧ ((t.extract f mg).toList == []) = false))) := by
                rw [hemp]
                by_cases h1 : dd = 0
                · by_cases h2 : t.size - g - f = 0
                  · exact .inl ⟨by rw [h1]; rfl, decide_eq_true h2, hsame.1 ⟨h1, h2⟩⟩
                  · exact .inr ⟨fun hh => h2 (hsame.2 hh).2, .inr ⟨by rw [h1]; rfl, decide_eq_false h2⟩⟩
                · exact .inr ⟨fun hh => h1 (hsame.2 hh).1, .inl (by rw [beq_eq_false_iff_ne]; omega)⟩
              have hchk : s.data.toList ≠ t.data.toList → checkE s.size [((f : Int), (dd : Int), t.extract f mg)] = if 40 < t.size - g - f then 2 else 0 := fun hne => by
                rw [← hX]
                exact of_check HAT.out hs200 ht200 hne
              have hins40 : (t.extract f mg).size ≤ 200 := by omega
              have HX := Lib.hid hX
              have Hchk := Lib.hid hchk
              have Hdd := Lib.hid hdd
              clear hX hil hsame hemp hins hmg hfit HRe HM hmin hchk
              rcases hpos with ⟨p1, p2, hst⟩ | ⟨hne, hp⟩
              · have Hst := Lib.hid hst
                clear hst hdd
                go_wp2
                go_ret2
                exact ⟨hbr2.alloc hbr2.size _, .inr (.inl ⟨Hst.out, hs200, rfl⟩)⟩
              · have hE := Hchk.out hne
                have Hne := Lib.hid hne
                have hck : ∀ W, Reads W W.heap.size (some ⟨wy.heap.size + 1, 0, none⟩) 1 3 [.int .i64 (f : Int), .int .i64 (dd : Int), .string (t.extract f mg)] → Calls Tryd.prog 64 #[.int .i64 (s.size : Int), .slice (some ⟨wy.heap.size + 1, 0, none⟩) 1 1] W fun e w' => e = .returned (.int .i64 (checkE s.size [((f : Int), (dd : Int), t.extract f mg)])) ∧ Below W.heap.size W w' := fun W h =>
                  check_any s.size (by omega) _ 1 1 W.heap.size [((f : Int), (dd : Int), t.extract f mg)] (by decide) rfl (fun x hx => by
                    rw [List.mem_singleton] at hx
                    subst hx
                    exact ⟨⟨by show _ ≤ (f : Int); omega, by show (f : Int) ≤ _; omega⟩, ⟨by show _ ≤ (dd : Int); omega, by show (dd : Int) ≤ _; omega⟩, by show (t.extract f mg).size ≤ _; omega⟩) W h (Nat.le_refl _)
                rw [hE] at hck
                have hrd : Reads ((wy.alloc (Obj.cells #[.int .i64 (f : Int), .int .i64 (dd : Int), .string (t.extract f mg)] 42)).alloc (Obj.cells #[.int .i64 (f : Int), .int .i64 (dd : Int), .string (t.extract f mg)] 42)) ((wy.alloc (Obj.cells #[.int .i64 (f : Int), .int .i64 (dd : Int), .string (t.extract f mg)] 42)).alloc (Obj.cells #[.int .i64 (f : Int), .int .i64 (dd : Int), .string (t.extract f mg)] 42)).heap.size (some ⟨wy.heap.size + 1, 0, none⟩) 1 3 [.int .i64 (f : Int), .int .i64 (dd : Int), .string (t.extract f mg)] := by
                  have := Reads.of_fresh (wy.alloc (Obj.cells #[.int .i64 (f : Int), .int .i64 (dd : Int), .string (t.extract f mg)] 42)) #[.int .i64 (f : Int), .int .i64 (dd : Int), .string (t.extract f mg)] 42 1 3 rfl
                  rw [show (wy.alloc (Obj.cells #[.int .i64 (f : Int), .int .i64 (dd : Int), .string (t.extract f mg)] 42)).heap.size = wy.heap.size + 1 from by simp] at this
                  exact this.more (by simp)
                have hbW : Below w.heap.size w ((wy.alloc (Obj.cells #[.int .i64 (f : Int), .int .i64 (dd : Int), .string (t.extract f mg)] 42)).alloc (Obj.cells #[.int .i64 (f : Int), .int .i64 (dd : Int), .string (t.extract f mg)] 42)) := (hbr2.alloc hbr2.size _).alloc (by have := hbr2.size; simp; omega) _
                have HCK := Lib.hid hck
                have HE := Lib.hid hE
                clear hck hE hne hdd
                by_cases h40 : 40 < t.size - g - f
                · rw [if_pos h40] at HCK HE
                  rcases hp with p1 | ⟨p1, p2⟩ <;> (
                    go_wp2_with fail
                    refine (HCK.out _ hrd).mono ?_
                    rintro e w3 ⟨rfl, hb3⟩
                    have hb3' := chain hb3 hbW
                    go_wp2
                    go_ret2
                    exact ⟨hb3', .inl ⟨2, rfl, rfl, .inr (.inr ⟨f, g, HAT.out, h40⟩)⟩⟩)
                · rw [if_neg h40] at HCK HE
                  rcases hp with p1 | ⟨p1, p2⟩ <;> (
                    go_wp2_with fail
                    refine (HCK.out _ hrd).mono ?_
                    rintro e w3 ⟨rfl, hb3⟩
                    have hb3' := chain hb3 hbW
                    have hrd3 := hrd.after hb3
                    go_wp2_with fail
                    refine (cloneEdit_any (some ⟨wy.heap.size + 1, 0, none⟩) 1 1 w3.heap.size [((f : Int), (dd : Int), t.extract f mg)] rfl (by decide) w3 hrd3 (Nat.le_refl _)).mono ?_
                    rintro e w4 ⟨A', c', rfl, hown4, hb4⟩
                    have hb4' := chain hb4 hb3'
                    go_wp2
                    go_ret2
                    refine ⟨hb4', .inr (.inr ⟨Hne.out, hs200, f, g, A', c', HAT.out, ?_, rfl, ?_⟩)⟩
                    · rw [HX.out]; exact HE.out
                    · rw [HX.out]; exact own_low hown4 hb3'.size)))

theorem of_any (s t : ByteArray) (hs0 : s.size ≤ 140737488351232) (ht0 : t.size ≤ 140737488351232) (w : World) :
    Calls Tryd.prog 35 #[.string s, .string t] w (ToldOf s.data.toList t.data.toList w) :=
  (of_own s t hs0 ht0 w).mono fun e w' ⟨hb, h⟩ => ⟨hb, h.imp id (fun h => h.imp id (fun ⟨h1, h0, f, g, A, c, h2, h3, h4, h5⟩ => ⟨h1, h0, f, g, A, c, h2, h3, h4, Reads.of_own h5⟩))⟩
end Go.Proofs.YtgoofbbbnphncaaDoor
