/- DiffMakes' walk: the script transforms one string into the other with the stated cost. -/
import Derived.Test.YtookbaaicpapnaaDiffLeast
namespace Go.Proofs.Ytookbaaicpapnaa
open Go.RowKit
set_option linter.unusedVariables false

theorem makes_law (a b : ByteArray) (h : ce a b = 0) (h20 : cv a b ≤ 20) : checkE a.size (makeE a b) = 0 ∧ (⟨(app a.data.toList 0 (makeE a b)).toArray⟩ : ByteArray) = b ∧ costE (makeE a b) = cv a b := by
  have hz := ce_zero h
  rw [cv_ok hz] at h20 ⊢
  have hr := rise_all a.data.toList b.data.toList
  have hpl := places_length a.data.toList b.data.toList
  rw [← hpl] at h20 ⊢
  have hsa : a.data.toList.length = a.size := rfl
  have hsb : b.data.toList.length = b.size := rfl
  have e : makeE a b = diffL b.data.toList 0 0 (placesOf a.data.toList b.data.toList ++ [(a.data.toList.length, b.data.toList.length)]) := rfl
  rw [e]
  have happ := diff_app _ 0 0 0 hr (Nat.le_refl _) (Nat.zero_le _) (Nat.zero_le _)
  have hcost := diff_cost _ 0 0 hr (Nat.zero_le _) (Nat.zero_le _)
  have hok := diff_ok _ 0 0 true 0 hr (Nat.zero_le _) (Nat.zero_le _) (fun h => by cases h) (by omega)
  have hlen := cost_len hok
  have hal := app_length (s := a.data.toList) (e := 0) hok (fun _ => rfl) (Nat.zero_le _)
  rw [happ] at hal ⊢
  rw [List.take_zero, List.drop_nil, List.nil_append, List.drop_zero] at hal ⊢
  refine ⟨?_, ?_, by rw [hcost]; omega⟩
  · rw [show ((a.size : Nat) : Int) = (a.data.toList.length : Nat) from rfl, checkE_full (by omega) (by omega) (by omega) hok, if_neg (by omega)]
  · cases b; rfl

set_option maxRecDepth 100000 in
set_option maxHeartbeats 2000000 in
theorem diffMakes_walk (s t : ByteArray) (hs : s.size ≤ 140737488351232) (ht : t.size ≤ 140737488351232) (w : World) :
    Calls Try.prog 10 #[.string s, .string t] w fun e w' => e = .returned (.bool true) ∧ Below w.heap.size w w' := by
  obtain ⟨hx0, hx1⟩ := cv_bd s t
  by_cases hE : ce s t = 0
  · by_cases h20 : cv s t ≤ 20
    · obtain ⟨hck, hap, hco⟩ := makes_law s t hE h20
      obtain ⟨sa, sb⟩ := ce_zero hE
      have hmk := make_ok s t sa sb h20
      have hcs := cost_any s t
      have hapc := apply_ok s
      have hbd : ∀ k, 0 ≤ costE ((makeE s t).take k) ∧ costE ((makeE s t).take k) ≤ 240 * ((makeE s t).take k).length := by
        obtain ⟨h0, h1, h2, h3, h4⟩ := checkE_ok hck
        exact costE_bd (by omega) h3
      have hln : (makeE s t).length ≤ 20 := (checkE_ok hck).2.2.1
      unfold ToldMake at hmk
      rw [hE] at hmk hcs
      generalize makeE s t = l at *
      have hapl : ∀ (A : Option Addr) (c B0 : Nat) (w : World) (h : Reads w B0 A l.length 3 (l.flatMap cEdit)) (hB0 : B0 ≤ w.heap.size), Calls Try.prog 21 #[.string s, .slice A l.length c] w fun e w' => e = .returned (.tuple #[.string t, .int .i64 0]) ∧ Below w.heap.size w w' := fun A c B0 w h hB0 => by
        have := apply_ok s A l.length c B0 l rfl hck w h hB0
        rw [hap] at this
        exact this
      generalize cv s t = x at *
      have hmk2 : ∀ w, Calls Try.prog 36 #[.string s, .string t] w fun e w' => ∃ A c, e = .returned (.tuple #[.slice A l.length c, .int .i64 0]) ∧ Reads w' w'.heap.size A l.length 3 (l.flatMap cEdit) ∧ Below w.heap.size w w' := fun w =>
        (hmk w).mono fun e w' ⟨hb, h⟩ => by
          rcases h with ⟨_, _, A, c, h1, h2⟩ | ⟨_, h, _⟩ | ⟨h, _⟩
          · exact ⟨A, c, h1, h2, hb⟩
          · omega
          · omega
      have HM := Lib.hid hmk2
      have HC := Lib.hid hcs
      have HA := Lib.hid hapl
      have Hbd := Lib.hid hbd
      have Hco := Lib.hid hco
      generalize hn : l.length = n at *
      have Hn := Lib.hid hn
      have q1 : (t.toList == t.toList) = true := by simp
      clear hck hap hco hmk hcs hapc hbd hapl hmk2 hn hE
      go_enter Try.func10, Try.ntmps10
      go_wp2_with fail
      refine (diffs_any _).mono ?_
      rintro e w1 ⟨rfl, hb1⟩
      go_wp2_with fail
      refine (HM.out w1).mono ?_
      rintro e w2 ⟨A, c, rfl, hrd2, hb2⟩
      have hbw2 := chain hb2 hb1
      go_wp2_with fail
      refine (HC.out w2).mono ?_
      rintro e w3 ⟨rfl, hb3⟩
      have hbw3 := chain hb3 hbw2
      have hrd3 := hrd2.after hb3
      go_wp2_with fail
      refine (HA.out A c _ w3 hrd3 (Nat.le_refl _)).mono ?_
      rintro e w4 ⟨rfl, hb4⟩
      have hbw4 := chain hb4 hbw3
      have hrd := hrd3.after hb4
      obtain ⟨B, hB⟩ : ∃ B, B = w4.heap.size := ⟨_, rfl⟩
      rw [← hB] at hrd
      have hBw : B ≤ w4.heap.size := by omega
      have hwB : w.heap.size ≤ B := by rw [hB]; exact hbw4.size
      clear hb1 hb2 hb3 hb4 hbw2 hbw3 hrd2 hrd3 HM HC HA hB
      go_wp2
      go_loopw [7, 12, 52] (fun av _ iv wr => ∃ k : Nat, k ≤ n ∧ iv = .int .i64 (k : Int) ∧ av = .int .i64 (x - costE (l.take k)) ∧ Below B w4 wr) (fun _ _ iv _ => n - (intOf iv).toNat)
      case atStart => exact ⟨0, Nat.zero_le _, rfl, by simp [costE], Below.refl _ _⟩
      case round =>
        obtain ⟨k, hk, rfl, rfl, hbr⟩ := hrel
        have hBr : B ≤ wr.heap.size := Nat.le_trans hBw hbr.size
        obtain ⟨b1, b2⟩ := Hbd.out k
        rw [List.length_take, Hn.out] at b2
        by_cases hlt : k < n
        · have h := hrd.below hbr
          obtain ⟨b, o, rfl, hbB, hc⟩ := h.2 (by omega)
          have c0 := hc (k * 3 + 0) (by rw [flat_length cEdit 3 cEdit_len, Hn.out]; omega)
          have c1 := hc (k * 3 + 1) (by rw [flat_length cEdit 3 cEdit_len, Hn.out]; omega)
          have c2 := hc (k * 3 + 2) (by rw [flat_length cEdit 3 cEdit_len, Hn.out]; omega)
          have dE : Ed := (0, 0, ByteArray.empty)
          rw [flat_getD cEdit 3 cEdit_len dE l k _ (by rw [Hn.out]; omega) (by omega)] at c0 c1 c2
          simp only [cEdit, List.getD_cons_zero, List.getD_cons_succ, Nat.add_zero, ← Nat.add_assoc] at c0 c1 c2
          have hct := costE_take l k (by rw [Hn.out]; omega) dE
          obtain ⟨b3, b4⟩ := Hbd.out (k + 1)
          rw [List.length_take, Hn.out] at b4
          generalize l.getD k dE = y at *
          obtain ⟨at_, del, ins⟩ := y
          simp only at c0 c1 c2 hct
          rw [hct] at b3 b4
          have Hct := Lib.hid hct
          generalize costE (l.take k) = C at *
          have hb' : b < wr.heap.size := by omega
          clear hct hc
          rcases Nat.eq_zero_or_pos k with k0 | k0
          · subst k0
            simp only [Nat.zero_mul, Nat.add_zero] at c0 c1 c2
            go_wp2
            go_roundw
            case rel => exact ⟨0 + 1, by omega, by go_num, by rw [Hct.out]; congr 1; omega, hbr.alloc hBr _⟩
            case measure => simp only [intOf]; omega
          · go_wp2
            go_roundw
            case rel => exact ⟨k + 1, by omega, by go_num, by rw [Hct.out]; congr 1; omega, hbr.alloc hBr _⟩
            case measure => simp only [intOf]; omega
        · obtain rfl : k = n := by omega
          have e : l.take k = l := List.take_of_length_le (by rw [Hn.out]; exact Nat.le_refl _)
          rw [e, Hco.out, Int.sub_self]
          go_wp2_with fail
          refine (good_fresh [0, 0] 2 2 rfl (by decide) _ _).mono ?_
          rintro e w8 ⟨rfl, hb8⟩
          have q0 : ([0, 0] : List Int).all (· == 0) = true := by decide
          go_wp2
          go_ret
          exact ⟨by simp, chain hb8 (hbw4.trans (hbr.mono hwB))⟩
    · have hmk := make_no s t
      have hcs := cost_any s t
      have h20' : 20 < cv s t := by omega
      unfold ToldMake at hmk
      rw [hE] at hmk hcs
      have hmk2 : ∀ w, Calls Try.prog 36 #[.string s, .string t] w fun e w' => e = .returned (.tuple #[.slice none 0 0, .int .i64 11]) ∧ Below w.heap.size w w' := fun w =>
        (hmk w (fun _ => h20')).mono fun e w' ⟨hb, h⟩ => by
          rcases h with ⟨_, h, _⟩ | ⟨_, _, h⟩ | ⟨h, _⟩
          · omega
          · exact ⟨h, hb⟩
          · omega
      generalize cv s t = x at *
      have HM := Lib.hid hmk2
      have HC := Lib.hid hcs
      have q1 : decide (20 < x) = true := decide_eq_true h20'
      clear hmk hcs hmk2 hE h20
      go_enter Try.func10, Try.ntmps10
      go_wp2_with fail
      refine (diffs_any _).mono ?_
      rintro e w1 ⟨rfl, hb1⟩
      go_wp2_with fail
      refine (HM.out w1).mono ?_
      rintro e w2 ⟨rfl, hb2⟩
      go_wp2_with fail
      refine (HC.out w2).mono ?_
      rintro e w3 ⟨rfl, hb3⟩
      go_wp2
      go_ret
      exact ⟨by simp, chain hb3 (chain hb2 hb1)⟩
  · have hmk := make_no s t
    have hcs := cost_any s t
    have h2 : ce s t = 2 := by
      unfold ce at hE ⊢
      by_cases hh : s.size ≤ 200 ∧ t.size ≤ 200
      · rw [if_pos hh] at hE; exact absurd rfl hE
      · rw [if_neg hh]
    unfold ToldMake at hmk
    rw [h2] at hmk hcs
    have hmk2 : ∀ w, Calls Try.prog 36 #[.string s, .string t] w fun e w' => e = .returned (.tuple #[.slice none 0 0, .int .i64 2]) ∧ Below w.heap.size w w' := fun w =>
      (hmk w (fun h => by omega)).mono fun e w' ⟨hb, h⟩ => by
        rcases h with ⟨h, _⟩ | ⟨h, _⟩ | ⟨_, h⟩
        · omega
        · omega
        · exact ⟨h, hb⟩
    generalize cv s t = x at *
    have HM := Lib.hid hmk2
    have HC := Lib.hid hcs
    clear hmk hcs hmk2 hE h2
    go_enter Try.func10, Try.ntmps10
    go_wp2_with fail
    refine (diffs_any _).mono ?_
    rintro e w1 ⟨rfl, hb1⟩
    go_wp2_with fail
    refine (HM.out w1).mono ?_
    rintro e w2 ⟨rfl, hb2⟩
    go_wp2_with fail
    refine (HC.out w2).mono ?_
    rintro e w3 ⟨rfl, hb3⟩
    go_wp2
    go_ret
    exact ⟨by simp, chain hb3 (chain hb2 hb1)⟩
end Go.Proofs.Ytookbaaicpapnaa
