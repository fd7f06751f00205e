/- SeekFronts' walk: the Z function determines all occurrences and all borders. -/
import Derived.Test.YtbcendaiakeabaaFrontsWalk
import Derived.Test.YtbcendaiakeabaaSeekLaws
import Derived.Test.YtbcendaiakeabaaGood
import Derived.Test.YtbcendaiakeabaaIter
namespace Go.Proofs.Ytbcendaiakeabaa
open Go.RowKit
set_option linter.unusedVariables false

theorem sum_known : zOf (ByteArray.mk #[97, 97, 98, 97, 97]).data.toList = [5, 1, 0, 2, 1] := by decide +kernel
/-- What Find tells: none at an error. -/
theorem find_any (s p : ByteArray) (w : World) :
    Calls Try.prog 35 #[.string s, .string p] w fun e w' => ∃ A c L, e = .returned (.tuple #[.slice A L.length c, .int .i64 (seekE s.size p.size)]) ∧ (seekE s.size p.size = 0 → L = findOf s.data.toList p.data.toList) ∧ L.length ≤ s.size ∧
      Reads w' w'.heap.size A L.length 1 ((nI L).flatMap cInt) ∧ Below w.heap.size w w' := by
  by_cases h : seekE s.size p.size = 0
  · refine (find_ok s p h w).mono ?_
    rintro e w' ⟨A, c, rfl, hr, hb, _⟩
    rw [nI_length] at hr ⊢
    exact ⟨A, c, _, by rw [h], fun _ => rfl, foundOf_length _ _ _, hr, hb⟩
  · refine (find_no s p h w).mono ?_
    rintro e w' ⟨rfl, rfl⟩
    exact ⟨none, 0, [], rfl, fun g => absurd g h, Nat.zero_le _, ⟨by simp [nI], fun g => by simp at g⟩, Below.refl _ _⟩

set_option maxRecDepth 100000 in
set_option maxHeartbeats 4000000 in
theorem seekFronts_core (s p s0 p0 : ByteArray) (hs : s.size ≤ 120) (hp : p.size ≤ 60)
    (cs : ∀ w, Calls Try.prog 34 #[.string s0, .int .i64 120] w fun e w' => e = .returned (.string s) ∧ w = w')
    (cp : ∀ w, Calls Try.prog 34 #[.string p0, .int .i64 60] w fun e w' => e = .returned (.string p) ∧ w = w') (w : World) :
    Calls Try.prog 7 #[.string s0, .string p0] w fun e w' => e = .returned (.bool true) ∧ Below w.heap.size w w' := by
  have CS := Lib.hid cs
  have CP := Lib.hid cp
  have hps : (p ++ s).size = p.size + s.size := ByteArray.size_append ..
  have el : (p ++ s).data.toList = p.data.toList ++ s.data.toList := by simp [ByteArray.data_append]
  have z1 : ∀ w, Calls Try.prog 31 #[.string ⟨#[97, 97, 98, 97, 97]⟩] w fun e w' => ∃ A, e = .returned (.tuple #[.slice A 5 5, .int .i64 0]) ∧ Reads w' w'.heap.size A 5 1 [.int .i64 5, .int .i64 1, .int .i64 0, .int .i64 2, .int .i64 1] ∧ Below w.heap.size w w' := fun w =>
    (fronts_ok ⟨#[97, 97, 98, 97, 97]⟩ (by decide) w).mono fun e w' ⟨A, he, hr, hb⟩ => by
      rw [sum_known] at hr
      exact ⟨A, he, hr, hb⟩
  have Z1 := Lib.hid z1
  have z2 := fronts_ok (p ++ s) (by omega)
  have b2 := borders_ok (p ++ s) (by omega)
  rw [el, hps] at z2 b2
  have hocc := fun k (hk : k ≤ s.size) => z_occ s.data.toList p.data.toList k hk
  have hbest := best_step (p.data.toList ++ s.data.toList)
  have hstart := best_start (p.data.toList ++ s.data.toList)
  have hzl := zOf_length (p.data.toList ++ s.data.toList)
  have hza := zOf_at (p.data.toList ++ s.data.toList)
  have hzle := zat_le (p.data.toList ++ s.data.toList)
  have hbl := bordersOf_length (p.data.toList ++ s.data.toList)
  have hba := bordersOf_at (p.data.toList ++ s.data.toList)
  have hplen : p.data.toList.length = p.size := rfl
  have htl : (p.data.toList ++ s.data.toList).length = p.size + s.size := by rw [List.length_append]; rfl
  rw [htl] at hbest hstart hzl hza hzle hbl hba
  rw [hplen] at hocc
  have hpi : pi (p.data.toList ++ s.data.toList) (p.size + s.size) = lbd (p.data.toList ++ s.data.toList) (p.size + s.size) (p.size + s.size) := rfl
  have hfi := find_any s p
  have hmem := mem_find s.data.toList p.data.toList
  rw [hplen] at hmem
  generalize hT : p.data.toList ++ s.data.toList = T at *
  have hE : seekE s.size p.size = if p.size = 0 then 5 else 0 := by unfold seekE; rw [if_neg (by omega)]
  rw [hE] at hfi
  have hf0 : p.size ≠ 0 → ((if p.size = 0 then (5 : Int) else 0) = 0) := fun h => if_neg h
  generalize hL : findOf s.data.toList p.data.toList = L0 at *
  have Z2 := Lib.hid z2
  have B2 := Lib.hid b2
  have Hocc := Lib.hid hocc
  have Hbest := Lib.hid hbest
  have Hstart := Lib.hid hstart
  have Hzl := Lib.hid hzl
  have Hza := Lib.hid hza
  have Hzle := Lib.hid hzle
  have Hbl := Lib.hid hbl
  have Hba := Lib.hid hba
  have Hpi := Lib.hid hpi
  have Hfi := Lib.hid hfi
  have Hmem := Lib.hid hmem
  have Hf0 := Lib.hid hf0
  have Hps := Lib.hid hps
  clear cs cp z1 z2 b2 hocc hbest hstart hzl hza hzle hbl hba hpi hfi hmem hE hf0 hps el hT hL hplen htl
  generalize hE : (if p.size = 0 then (5 : Int) else 0) = E at *
  have HE := Lib.hid hE
  clear hE
  go_enter Try.func7, Try.ntmps7
  go_wp2_with fail
  refine (Z1.out _).mono ?_
  rintro e w1 ⟨A1, rfl, hr1, hb1⟩
  go_wp2_with fail
  refine (equalInt_any A1 _ 5 5 5 5 _ _ [5, 1, 0, 2, 1] [5, 1, 0, 2, 1] _ (by decide) (by decide) rfl rfl (hr1.alloc (Nat.le_refl _) _) (Reads.of_fresh w1 #[.int .i64 5, .int .i64 1, .int .i64 0, .int .i64 2, .int .i64 1] _ 5 1 rfl)).mono ?_
  rintro e w2 ⟨rfl, hb2⟩
  have hbw2 : Below w.heap.size w w2 := (hb1.alloc hb1.size _).trans (hb2.mono (by have := hb1.size; simp; omega))
  have q0 : decide (([5, 1, 0, 2, 1] : List Int) = [5, 1, 0, 2, 1]) = true := by decide
  clear hb1 hb2 hr1 Z1
  go_wp2_with fail
  refine (seeks_any _).mono ?_
  rintro e w3 ⟨rfl, hb3⟩
  go_wp2_with fail
  refine (CS.out _).mono ?_
  rintro e w4 ⟨rfl, rfl⟩
  go_wp2_with fail
  refine (CP.out _).mono ?_
  rintro e w4 ⟨rfl, rfl⟩
  go_wp2_with fail
  refine (Z2.out _).mono ?_
  rintro e w4 ⟨Az, rfl, hr4, hb4⟩
  go_wp2_with fail
  refine (Hfi.out _).mono ?_
  rintro e w5 ⟨Al, cl, L, rfl, hLe, hLl, hr5, hb5⟩
  go_wp2_with fail
  refine (B2.out _).mono ?_
  rintro e w6 ⟨Ab, rfl, hr6, hb6⟩
  have hbw6 := chain hb6 (chain hb5 (chain hb4 (chain hb3 hbw2)))
  have hr4' := (hr4.after hb5).after hb6
  have hr5' := hr5.after hb6
  clear hr4 hr5 hb3 hb4 hb5 hb6 hbw2 CS CP Z2 Hfi B2
  have HLe := Lib.hid hLe
  clear hLe
  obtain ⟨M, hM⟩ : ∃ M, p.size + s.size = M := ⟨_, rfl⟩
  rw [hM] at Hbest Hstart Hzl Hza Hzle Hbl Hba Hpi hr4' hr6 ⊢
  have HM := Lib.hid hM
  have q1 : ((M : Int) != (p.size : Int) + (s.size : Int)) = false := by rw [bne_eq_false_iff_eq]; omega
  have q1' : (M != p.size + s.size) = false := by rw [bne_eq_false_iff_eq]; omega
  have q2 : ((M : Int) != (M : Int)) = false := by simp
  have hM2 : M ≤ 180 := by omega
  clear hM
  go_wp2_with fail
  refine (good_fresh [0, 0] 2 2 rfl (by decide) _ _).mono ?_
  rintro e w7 ⟨rfl, hb7⟩
  have q3 : ([0, 0] : List Int).all (· == 0) = true := by decide
  have hr4 := hr4'.after hb7
  have hr5 := hr5'.after hb7
  have hr7 := hr6.after hb7
  have hbw := chain hb7 hbw6
  clear hr4' hr5' hr6 hb7 hbw6 Hps
  go_wp2
  obtain ⟨g, hg⟩ : ∃ g, g = w7.heap.size := ⟨_, rfl⟩
  have hit : IterAt (w7.iter s 0) g s 0 := by rw [hg]; exact IterAt.iter _ _ _
  have hbi : Below g w7 (w7.iter s 0) := (Below.refl _ _).alloc (by omega) _
  rw [← hg]
  have Hg := Lib.hid hg
  clear hg
  have hpM : p.size ≤ M := by have := HM.out; omega
  have hzlen := hr4.1
  go_loopw [4, 13] (fun _ _ wr => ∃ pos : Nat, IterAt wr g s pos ∧ Below g w7 wr) (fun _ _ wr => s.size - wr.iterPos g)
  case atStart => exact ⟨0, hit, hbi⟩
  case round =>
    clear hit hbi
    obtain ⟨pos, hit, hbi⟩ := hrel
    have hgw : g ≤ w7.heap.size := by rw [Hg.out]; exact Nat.le_refl _
    by_cases hlt : pos < s.size
    · have hn := fun ty => next_some (P := Try.prog) hit hlt ty
      have hw : pos < pos + (Utf8.decode s pos).2 := by have := iter_width s pos hlt; omega
      go_wp2
      clear hn
      have hit2 := hit.to (pos + (Utf8.decode s pos).2)
      have hbi2 := iterTo_below hbi (Nat.le_refl _) (s := s) (pos + (Utf8.decode s pos).2)
      generalize iterTo wr g s (pos + (Utf8.decode s pos).2) = wi at *
      generalize pos + (Utf8.decode s pos).2 = pos' at *
      have hbi7 : Below w7.heap.size w7 wi := hbi2.mono (by rw [Hg.out]; exact Nat.le_refl _)
      have hrz := hr4.after hbi7
      have hrl := hr5.after hbi7
      clear hbi7
      by_cases hp0 : p.size = 0
      · have h5 : E = 5 := by rw [← HE.out, if_pos hp0]
        have q4 : (E == 0) = false := by rw [h5]; rfl
        clear h5 hp0
        go_quiet (fail)
        go_wp2
        go_roundw
        case rel => exact ⟨pos', hit2.drewN _, below_drewN hbi2 _⟩
        case measure => rw [(hit2.drewN _).pos, hit.pos]; omega
      · have h0 : E = 0 := by rw [← HE.out, if_neg hp0]
        have q4 : (E == 0) = true := by rw [h0]; rfl
        have hLL := HLe.out h0
        obtain ⟨b, o, rfl, hbB, _⟩ := hrz.2 (by have := HM.out; omega)
        have c1 := ints_cell hrz Hzl.out (p.size + pos) (by have := HM.out; omega)
        rw [Hza.out _ (by have := HM.out; omega)] at c1
        have hz := Hzle.out (p.size + pos) (by have := HM.out; omega)
        have ho := Hocc.out pos (by omega)
        have hm := Hmem.out (by omega) pos
        rw [← hLL] at hm
        have hx : decide ((p.size : Int) ≤ ((zat T (p.size + pos) : Nat) : Int)) = hasB (pos : Int) (nI L) := by
          rw [Bool.eq_iff_iff, decide_eq_true_eq, hasB_iff, mem_nI, hm, ← ho]; omega
        have hx' : decide (p.size ≤ zat T (p.size + pos)) = hasB (pos : Int) (nI L) := by
          rw [← hx, decide_eq_decide]; omega
        have hcn := fun n => containsInt_any (pos : Int) Al L.length cl _ (nI L) (wi.drewN n) (by omega) (nI_length L) (hrl.drewN n)
        have Hcn := Lib.hid hcn
        generalize zat T (p.size + pos) = zz at *
        generalize hasB (pos : Int) (nI L) = bb at *
        have wq : IntKind.i64.wrap ((p.size : Int) + (pos : Int)) = ((p.size + pos : Nat) : Int) := by rw [IntKind.wrap_i64]; have := HM.out; omega
        have i1 : ((p.size + pos : Nat) : Int) < (M : Int) := by have := HM.out; omega
        have q5 : (bb != bb) = false := by simp
        generalize p.size + pos = qq at *
        clear hcn h0 ho hm hLL hz hrz hrl
        go_quiet ((go_at_call 37; exact quiet_left (Hcn.out _)))
        clear wq
        go_wp2
        go_roundw
        case rel => exact ⟨pos', hit2.drewN _, below_drewN hbi2 _⟩
        case measure => rw [(hit2.drewN _).pos, hit.pos]; omega
    · have hn := fun ty => next_none (P := Try.prog) hit hlt ty
      go_wp2
      clear hn
      have hbi7 : Below w7.heap.size w7 wr := hbi.mono (by rw [Hg.out]; exact Nat.le_refl _)
      have hrz := hr4.after hbi7
      have hrb := hr7.after hbi7
      have hbw2 := chain hbi7 hbw
      clear hbi7 hr4 hr5 hr7 hbw hbi hit
      go_loop [14, 15] (fun bv iv => ∃ z : Int, -1 ≤ z ∧ z < M ∧ iv = .int .i64 z ∧ bv = .int .i64 ((lbd T M (M - z.toNat) : Nat) : Int)) (fun _ iv => (intOf iv).toNat)
      case atStart => 
        refine ⟨(M : Int) - 1, by omega, by omega, rfl, ?_⟩
        by_cases h0 : 0 < M
        · rw [show M - ((M : Int) - 1).toNat = M - (M - 1) from by omega, Hstart.out h0]; rfl
        · obtain rfl : M = 0 := by omega
          rfl
      case round =>
        obtain ⟨z, hz1, hz2, rfl, rfl⟩ := hrel
        by_cases hz0 : 0 < z
        · obtain ⟨i, rfl⟩ : ∃ i : Nat, z = i := ⟨z.toNat, by omega⟩
          obtain ⟨b, o, rfl, hbB, _⟩ := hrz.2 (by omega)
          have c1 := ints_cell hrz Hzl.out i (by omega)
          rw [Hza.out _ (by omega)] at c1
          have hz := Hzle.out i (by omega)
          have hst := Hbest.out i (by omega) (by omega)
          have Hst := Lib.hid hst
          clear hst
          simp only [Int.toNat_natCast]
          generalize zat T i = zz at *
          by_cases he : i + zz = M
          · have q5 : ((i : Int) + (zz : Int) == (M : Int)) = true := by rw [beq_iff_eq]; omega
            go_wp2
            go_round
            case rel => exact ⟨(i : Int) - 1, by omega, by omega, by go_num, by rw [show ((i : Int) - 1).toNat = i - 1 from by omega, Hst.out, if_pos he]⟩
            case measure => simp [intOf]; omega
          · have q5 : ((i : Int) + (zz : Int) == (M : Int)) = false := by rw [beq_eq_false_iff_ne]; omega
            go_wp2
            go_round
            case rel => exact ⟨(i : Int) - 1, by omega, by omega, by go_num, by rw [show ((i : Int) - 1).toNat = i - 1 from by omega, Hst.out, if_neg he]⟩
            case measure => simp [intOf]; omega
        · have ez : z.toNat = 0 := by omega
          rw [ez, Nat.sub_zero, ← Hpi.out]
          obtain ⟨pe, q4, hpe⟩ : ∃ pe : Bool, (E == 0) = pe ∧ p.toList.isEmpty = !pe := by
            refine ⟨_, rfl, ?_⟩
            rw [← HE.out, ByteArray.toList_eq]
            by_cases h : p.size = 0
            · have : p.data.toList = [] := List.eq_nil_of_length_eq_zero h
              rw [if_pos h, this]; rfl
            · have : p.data.toList ≠ [] := fun e => h (by show p.data.toList.length = 0; rw [e]; rfl)
              rw [if_neg h]; simpa using this
          by_cases hM0 : M = 0
          · subst hM0
            cases pe <;> simp only [Bool.not_true, Bool.not_false] at hpe <;> go_wp2 <;> go_ret <;> exact ⟨by simp, hbw2⟩
          · obtain ⟨b, o, rfl, hbB, _⟩ := hrb.2 (by omega)
            obtain ⟨m, rfl⟩ : ∃ m, M = m + 1 := ⟨M - 1, by omega⟩
            have c1 := ints_cell hrb Hbl.out m (by omega)
            rw [Hba.out _ (by omega)] at c1
            generalize pi T (m + 1) = zz at *
            have q5 : ((zz : Int) == (zz : Int)) = true := by simp
            cases pe <;> simp only [Bool.not_true, Bool.not_false] at hpe <;> go_wp2 <;> go_ret <;> exact ⟨by simp, hbw2⟩

theorem cut_sizeF (s : ByteArray) (n : Nat) : (s.extract 0 n).size ≤ n := by simp; omega
theorem seekFronts_walk (s p : ByteArray) (hs : s.size ≤ 140737488351232) (hp : p.size ≤ 140737488351232) {w : World} :
    Calls Try.prog 7 #[.string s, .string p] w fun e w' => e = .returned (.bool true) ∧ Below w.heap.size w w' :=
  seekFronts_core _ _ s p (cut_sizeF s 120) (cut_sizeF p 60) (cut_any s 120 (by decide) hs) (cut_any p 60 (by decide) hp) w
end Go.Proofs.Ytbcendaiakeabaa
