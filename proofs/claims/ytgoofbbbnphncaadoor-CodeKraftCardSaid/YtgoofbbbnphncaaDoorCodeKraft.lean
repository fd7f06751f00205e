/- CodeKraft's walk: uniquely decodable codes satisfy the Kraft inequality, and prefix-free codes are uniquely decodable. -/
import Derived.Test.YtgoofbbbnphncaaDoorCodes
import Derived.Test.YtgoofbbbnphncaaDoorArgs
namespace Go.Proofs.YtgoofbbbnphncaaDoor
open Go.RowKit
set_option linter.unusedVariables false

theorem lens_okE {l : List ByteArray} (h : CodeOk (wds l)) : sumE (lensI l) = 0 ∧ sumV (lensI l) = ((kr 12 ((wds l).map List.length) : Nat) : Int) := by
  have h0 : sumE (lensI l) = 0 := (sumE_zero _).2 ⟨by
    have := h.few
    unfold lensI; unfold wds at this
    rw [List.length_map] at this ⊢
    exact this, fun x hx => by
    obtain ⟨s, hs, rfl⟩ := List.mem_map.1 hx
    have h1 := h.ne (wd s) (mem_wds.2 hs)
    have h2 := h.len (wd s) (mem_wds.2 hs)
    have h3 : (wd s).length = s.size := rfl
    have h4 := List.length_pos_iff.2 h1
    omega⟩
  refine ⟨h0, ?_⟩
  unfold sumV
  rw [if_pos h0, lensI_nats]
theorem front_ud {l : List Wd} (h : CodeOk l) (hf : FrontP l) : UD l := by
  refine ud_of_front h.ne fun u hu v hv hp => ?_
  obtain ⟨i, hi, rfl⟩ := List.getElem_of_mem hu
  obtain ⟨k, hk, rfl⟩ := List.getElem_of_mem hv
  by_cases e : i = k
  · subst e; rfl
  · exfalso
    refine hf i k hi hk e ?_
    rw [List.getD_eq_getElem?_getD, List.getElem?_eq_getElem hi, List.getD_eq_getElem?_getD, List.getElem?_eq_getElem hk]
    exact hp

set_option maxRecDepth 100000 in
set_option maxHeartbeats 2000000 in
theorem codeKraft_walk (A : Option Addr) (len cap : Nat) (l : List ByteArray) {w : World} (hl : StrsIn w A len cap l) :
    Calls Tryd.prog 10 #[.slice A len cap] w fun e w' => e = .returned (.bool true) ∧ Below w.heap.size w w' := by
  obtain ⟨hll, hrd, hlen, hsz, hcap, _⟩ := hl
  have hzz : ∀ p ∈ l, p.size ≤ 140737488351232 := fun p hp => hsz p hp
  have HF := Lib.hid (fun w r hB => codeFront_any A len cap w.heap.size l w (by omega) hcap hll hzz r hB)
  have HS := Lib.hid (fun w r hB => sole_any A len cap w.heap.size l w (by omega) hcap hll hzz r hB)
  by_cases hc : checkC (wds l) = 0
  case neg =>
    have e1 : frontB (wds l) = false := frontB_no fun h => hc h.1
    have e2 : soleB (wds l) = false := soleB_no fun h => hc h.1
    rw [e1] at HF
    rw [e2] at HS
    have q1 : (checkC (wds l) != 0) = true := by simpa using hc
    have q1' : (checkC (wds l) == 0) = false := by simpa using hc
    have q2 : (checkC (wds l) == checkC (wds l)) = true := by simp
    generalize checkC (wds l) = E at *
    clear hll hzz hsz hc e1 e2
    go_enter Tryd.func10, Tryd.ntmps10
    go_wp2_with fail
    refine (codes_any _).mono ?_
    rintro e w1 ⟨rfl, hb1⟩
    have r1 := (hrd.below hb1).more hb1.size
    go_wp2_with fail
    refine (HF.out _ r1 (Nat.le_refl _)).mono ?_
    rintro e w2 ⟨rfl, hb2⟩
    have r2 := r1.after hb2
    have hb2 := chain hb2 hb1
    go_wp2_with fail
    refine (HS.out _ r2 (Nat.le_refl _)).mono ?_
    rintro e w3 ⟨rfl, hb3⟩
    have hb3 := chain hb3 hb2
    go_wp2
    all_goals (go_ret; exact ⟨by simp, hb3⟩)
  have hok := (checkC_zero _).1 hc
  have hn12 : len ≤ 12 := by have := hok.few; unfold wds at this; rw [List.length_map] at this; omega
  obtain ⟨e1, e2⟩ := lens_okE hok
  have HLo := Lib.hid (fun w r hB => lensOf_any A len cap w.heap.size l w (by omega) hll r hB)
  have HSu := Lib.hid (fun A' c' w (h : Reads w w.heap.size A' len 1 ((lensI l).flatMap cInt)) => codeSum_any A' len c' w.heap.size (lensI l) w (by omega) (by unfold lensI; rw [List.length_map]; exact hll) h)
  rw [e1, e2] at HSu
  have hab : frontB (wds l) = true → soleB (wds l) = true := fun h => (soleB_iff _).2 ⟨hc, front_ud hok ((frontB_iff _).1 h).2⟩
  have hbn : soleB (wds l) = true → kr 12 ((wds l).map List.length) ≤ 4096 := fun h => mcmillan hok.nodup hok.bin hok.len ((soleB_iff _).1 h).2
  rw [hc] at HF HS
  have Hab := Lib.hid hab
  have Hbn := Lib.hid hbn
  generalize kr 12 ((wds l).map List.length) = K at *
  generalize frontB (wds l) = a at *
  generalize soleB (wds l) = b at *
  clear hll hzz hsz hc e1 e2 hok hab hbn
  go_enter Tryd.func10, Tryd.ntmps10
  go_wp2_with fail
  refine (codes_any _).mono ?_
  rintro e w1 ⟨rfl, hb1⟩
  have r1 := (hrd.below hb1).more hb1.size
  go_wp2_with fail
  refine (HF.out _ r1 (Nat.le_refl _)).mono ?_
  rintro e w2 ⟨rfl, hb2⟩
  have r2 := r1.after hb2
  have hb2 := chain hb2 hb1
  go_wp2_with fail
  refine (HS.out _ r2 (Nat.le_refl _)).mono ?_
  rintro e w3 ⟨rfl, hb3⟩
  have r3 := r2.after hb3
  have hb3 := chain hb3 hb2
  go_wp2_with fail
  refine (HLo.out _ r3 (Nat.le_refl _)).mono ?_
  rintro e w4 ⟨A', c', rfl, hown, hb4⟩
  have hb4 := chain hb4 hb3
  go_wp2_with fail
  refine (HSu.out _ _ _ hown.toReads).mono ?_
  rintro e w5 ⟨rfl, rfl⟩
  cases hb : b
  · have ha : a = false := by
      cases a
      · rfl
      · have := Hab.out rfl; rw [hb] at this; cases this
    subst ha hb
    go_wp2
    all_goals (go_ret; exact ⟨by simp, hb4⟩)
  · subst hb
    have hK := Hbn.out rfl
    have q1 : decide ((K : Int) ≤ 4096) = true := decide_eq_true (by omega)
    have q1' : decide (K ≤ 4096) = true := decide_eq_true hK
    cases a
    · go_wp2
      all_goals (go_ret; exact ⟨by simp, hb4⟩)
    · go_wp2
      all_goals (go_ret; exact ⟨by simp, hb4⟩)
end Go.Proofs.YtgoofbbbnphncaaDoor
