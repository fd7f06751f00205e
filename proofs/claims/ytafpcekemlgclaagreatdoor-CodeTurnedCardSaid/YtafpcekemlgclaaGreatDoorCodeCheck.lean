/- The walk of code.Check. -/
import Derived.Test.YtafpcekemlgclaaGreatDoorCodeQ
import Derived.Test.YtafpcekemlgclaaGreatDoorLaidTrim
import Derived.Test.YtafpcekemlgclaaGreatDoorContains
namespace Go.Proofs.YtafpcekemlgclaaGreatDoor
open Go.RowKit
set_option linter.unusedVariables false

abbrev wd (s : ByteArray) : Wd := s.data.toList
def wds (l : List ByteArray) : List Wd := l.map wd
theorem wd_inj {a b : ByteArray} (h : wd a = wd b) : a = b := str_ext h
theorem mem_wds {v : ByteArray} {l : List ByteArray} : wd v ∈ wds l ↔ v ∈ l := by
  unfold wds
  rw [List.mem_map]
  exact ⟨fun ⟨x, hx, e⟩ => wd_inj e ▸ hx, fun h => ⟨v, h, rfl⟩⟩
theorem dropWhile_nil {p : UInt8 → Bool} : ∀ {l : List UInt8}, l.dropWhile p = [] ↔ ∀ c ∈ l, p c = true
  | [] => by simp
  | x :: l => by
    rw [List.dropWhile_cons]
    by_cases h : p x = true
    · rw [if_pos h, dropWhile_nil]
      simp [h]
    · rw [if_neg h]
      simp [h]
theorem trim_nil (w : Wd) : Lib.trimS w [48, 49] = [] ↔ binB w = true := by
  unfold Lib.trimS Lib.trimLeftS Lib.trimRightS
  rw [dropWhile_nil]
  have e : ∀ c : UInt8, ([48, 49] : List UInt8).contains c = (c == 48 || c == 49) := fun c => by
    simp [List.contains, List.elem]
    cases h1 : c == 48 <;> cases h2 : c == 49 <;> simp_all
  simp only [e]
  rw [binB, List.all_eq_true]
  constructor
  · intro h
    -- whatever is left is in the set; then nothing is left
    have h2 : (w.reverse.dropWhile fun x => x == 48 || x == 49) = [] := by
      cases hd : (w.reverse.dropWhile fun x => x == 48 || x == 49) with
      | nil => rfl
      | cons x r =>
        exfalso
        have h3 := h x (by rw [hd]; simp)
        have h4 := List.head_dropWhile_not (fun x : UInt8 => x == 48 || x == 49) (l := w.reverse) (by rw [hd]; simp)
        simp only [hd, List.head_cons] at h4
        rw [h3] at h4; cases h4
    intro c hc
    exact dropWhile_nil.1 h2 c (by simpa using hc)
  · intro h c hc
    have h2 : c ∈ w.reverse.dropWhile (fun x => x == 48 || x == 49) := by simpa using hc
    exact h c (by simpa using (List.dropWhile_sublist _).mem h2)
theorem trim_any (s : ByteArray) (hs : s.size ≤ 12) (w : World) : Calls Tryz.prog 23 #[.string s, .string ⟨#[48, 49]⟩] w fun e w' => e = .returned (.string ⟨(Lib.trimS (wd s) [48, 49]).toArray⟩) ∧ Below w.heap.size w w' := by
  have h := Any.strings_Trim_laid layTrim (by kernel_rfl) s ⟨#[48, 49]⟩ w (by omega) (by decide) (ascii_of_all (by decide))
  change Calls Tryz.prog 23 _ _ _ at h
  exact h

set_option maxHeartbeats 2000000 in
theorem codeCheck_any (A : Option Addr) (n c B : Nat) (l : List ByteArray) (w : World) (hn : n ≤ 1125899906842624) (hnc : n ≤ c) (hl : l.length = n) (hz : ∀ p ∈ l, p.size ≤ 140737488351232) (h : Reads w B A n 1 (l.flatMap cStr)) (hB : B ≤ w.heap.size) :
    Calls Tryz.prog 14 #[.slice A n c] w fun e w' => e = .returned (.int .i64 (checkC (wds l))) ∧ Below w.heap.size w w' := by
  have hwl : (wds l).length = n := by unfold wds; rw [List.length_map, hl]
  by_cases hn2 : n ≤ 12
  case neg =>
    have e0 : checkC (wds l) = 2 := by unfold checkC; rw [if_pos (by omega)]
    rw [e0]
    have q1 : decide ((12 : Int) < (n : Int)) = true := decide_eq_true (by omega)
    have q1' : decide (12 < n) = true := decide_eq_true (by omega)
    go_enter Tryz.func14, Tryz.ntmps14
    go_wp2
    go_ret
    exact ⟨rfl, Below.refl _ _⟩
  have Hl := Lib.hid hl
  have Hz := Lib.hid hz
  have q1 : decide ((12 : Int) < (n : Int)) = false := decide_eq_false (by omega)
  have q1' : decide (12 < n) = false := decide_eq_false (by omega)
  obtain ⟨E, hE⟩ : ∃ E, E = checkC (wds l) := ⟨_, rfl⟩
  rw [← hE]
  have hE2 : E = checkW [] (wds l) := by rw [hE]; unfold checkC; rw [if_neg (by omega)]
  have HE := Lib.hid hE2
  clear hE hE2 hwl hl hz
  go_enter Tryz.func14, Tryz.ntmps14
  go_wp2
  go_loopw [3, 4, 10] (fun _ _ i wr => ∃ k : Nat, k ≤ n ∧ i = .int .i64 k ∧ Hid (checkW [] (wds (l.take k)) = 0) ∧ Below w.heap.size w wr) (fun _ _ i _ => n - (intOf i).toNat)
  case atStart => exact ⟨0, Nat.zero_le _, rfl, Lib.hid (by simp [wds, checkW]), Below.refl _ _⟩
  case round =>
    obtain ⟨k, hk, rfl, H0, hbr⟩ := hrel
    by_cases hlt : k < n
    · have h := h.below (hbr.mono hB)
      obtain ⟨b, o, rfl, hbB, hc⟩ := h.2 (by omega)
      have c0 := hc (k * 1 + 0) (by rw [flat_length cStr 1 cStr_len, Hl.out]; omega)
      rw [flat_getD cStr 1 cStr_len ByteArray.empty l k _ (by rw [Hl.out]; omega) (by omega)] at c0
      simp only [cStr, List.getD_cons_zero, Nat.mul_one, Nat.add_zero] at c0
      have hdr : l = l.take k ++ l.getD k ByteArray.empty :: l.drop (k + 1) := by
        rw [getD_some _ _ _ (by rw [Hl.out]; exact hlt), ← List.drop_eq_getElem_cons, List.take_append_drop]
      have hts := take_succ_getD l k ByteArray.empty (by rw [Hl.out]; omega)
      have hmem : l.getD k ByteArray.empty ∈ l := by rw [getD_some _ _ _ (by rw [Hl.out]; omega)]; exact List.getElem_mem _
      have hxs := Hz.out _ hmem
      have htr : Reads wr B (some ⟨b, o, none⟩) k 1 ((l.take k).flatMap cStr) := by
        refine ⟨by rw [flat_length cStr 1 cStr_len, List.length_take, Hl.out]; omega, fun _ => ⟨b, o, rfl, hbB, fun j hj => ?_⟩⟩
        rw [flat_length cStr 1 cStr_len, List.length_take, Hl.out] at hj
        have := hc j (by rw [flat_length cStr 1 cStr_len, Hl.out]; omega)
        rw [this]
        have e1 := flat_getD cStr 1 cStr_len ByteArray.empty l j 0 (by rw [Hl.out]; omega) (by omega)
        have e2 := flat_getD cStr 1 cStr_len ByteArray.empty (l.take k) j 0 (by rw [List.length_take, Hl.out]; omega) (by omega)
        simp only [Nat.mul_one, Nat.add_zero] at e1 e2
        have e3 : (l.take k).getD j ByteArray.empty = l.getD j ByteArray.empty := by
          rw [List.getD_eq_getElem?_getD, List.getElem?_take, if_pos (by omega), List.getD_eq_getElem?_getD]
        rw [e1, e2, e3]
      have hct := fun c2 => containsStr_any (l.getD k ByteArray.empty) (some ⟨b, o, none⟩) k c2 B (l.take k) wr (by omega) (by rw [List.length_take, Hl.out]; omega) htr
      have Hdr := Lib.hid hdr
      have Hts := Lib.hid hts
      clear hc hts hmem hdr
      generalize hx : l.getD k ByteArray.empty = x at *
      have ilt : (k : Int) < n := by omega
      -- the error of this word
      have hbad : ∀ E', wordE (wds (l.take k)) (wd x) = E' → E' ≠ 0 → E = E' := fun E' h1 h2 => by
        have e4 : wds l = wds (l.take k) ++ wd x :: wds (l.drop (k + 1)) := by
          conv => lhs; rw [Hdr.out]
          unfold wds
          rw [List.map_append, List.map_cons]
        rw [HE.out, e4, checkW_snoc _ _ _ _ H0.out (by rw [List.nil_append, h1]; exact h2), List.nil_append, h1]
      have Hbad := Lib.hid hbad
      clear hbad hx
      by_cases he : x = ⟨#[]⟩
      · subst he
        obtain rfl := Hbad.out 5 (by unfold wordE; rw [if_pos rfl]) (by decide)
        go_wp2
        go_ret
        exact ⟨rfl, hbr⟩
      have hne : wd x ≠ [] := fun e => he (wd_inj e)
      have hp : 0 < x.size := by
        have h1 : x.data.toList.length = x.size := rfl
        have h2 := List.length_pos_iff.2 hne
        show 0 < x.data.toList.length
        exact h2
      have q2 : (x.toList == []) = false := by rw [ByteArray.toList_eq]; simpa using hne
      have q2' : x.toList.isEmpty = false := by rw [ByteArray.toList_eq, List.isEmpty_eq_false_iff]; exact hne
      by_cases hlong : 12 < x.size
      · have q3 : decide ((12 : Int) < (x.size : Int)) = true := decide_eq_true (by omega)
        have q3' : decide (12 < x.size) = true := decide_eq_true hlong
        obtain rfl := Hbad.out 2 (by unfold wordE; rw [if_neg hne, if_pos (by show 12 < x.size; exact hlong)]) (by decide)
        clear he
        go_wp2
        go_ret
        exact ⟨rfl, hbr⟩
      have q3 : decide ((12 : Int) < (x.size : Int)) = false := decide_eq_false (by omega)
      have q3' : decide (12 < x.size) = false := decide_eq_false hlong
      have HT := Lib.hid (trim_any x (by omega))
      have hT := trim_nil (wd x)
      generalize Lib.trimS (wd x) [48, 49] = T at *
      have q4 : ((⟨T.toArray⟩ : ByteArray).toList == ([] : List UInt8)) = binB (wd x) := by
        rw [ByteArray.toList_eq, Bool.eq_iff_iff, beq_iff_eq, ← hT]
      have q4' : (⟨T.toArray⟩ : ByteArray).toList.isEmpty = binB (wd x) := by
        rw [ByteArray.toList_eq, Bool.eq_iff_iff, List.isEmpty_iff, ← hT]
      generalize (⟨T.toArray⟩ : ByteArray) = TT at *
      clear hT
      cases hbin : binB (wd x)
      · rw [hbin] at q4 q4'
        obtain rfl := Hbad.out 3 (by unfold wordE; rw [if_neg hne, if_neg (by show ¬ 12 < x.size; exact hlong), if_pos hbin]) (by decide)
        clear he hne hbin
        go_wp2_with fail
        refine (HT.out _).mono ?_
        rintro e w2 ⟨rfl, hb2⟩
        have hb2 := chain hb2 hbr
        go_wp2
        all_goals (go_ret; exact ⟨rfl, hb2⟩)
      · rw [hbin] at q4 q4'
        have Hct := Lib.hid (fun w' (hb : Below wr.heap.size wr w') c2 => containsStr_any x (some ⟨b, o, none⟩) k c2 B (l.take k) w' (by omega) (by rw [List.length_take, Hl.out]; omega) (htr.below' hb (Nat.le_trans hB hbr.size)))
        clear hct htr
        have hin : hasB x (l.take k) = true ↔ wd x ∈ wds (l.take k) := by rw [hasB_iff, mem_wds]
        cases hcn : hasB x (l.take k)
        · rw [hcn] at Hct hin
          have hw0 : wordE (wds (l.take k)) (wd x) = 0 := by
            unfold wordE
            rw [if_neg hne, if_neg (by show ¬ 12 < x.size; exact hlong), if_neg (by simp [hbin]), if_neg (fun h => by have := hin.2 h; cases this)]
          have hnext : checkW [] (wds (l.take (k + 1))) = 0 := by
            rw [Hts.out]
            unfold wds at hw0 ⊢
            rw [List.map_append]
            exact checkW_more _ _ _ H0.out (by rw [List.nil_append]; exact hw0)
          have Hnext := Lib.hid hnext
          clear he hne hbin hin hw0 hnext hcn
          have hkc : k ≤ c := by omega
          have hkc' : (k : Int) ≤ c := by omega
          go_wp2_with fail
          refine (HT.out _).mono ?_
          rintro e w2 ⟨rfl, hb2⟩
          go_wp2_with fail
          refine (Hct.out _ hb2 _).mono ?_
          rintro e w3 ⟨rfl, rfl⟩
          have hb2 := chain hb2 hbr
          go_wp2
          go_roundw
          case rel => exact ⟨k + 1, by omega, by go_num, Hnext, hb2⟩
          case measure => simp [intOf]; omega
        · rw [hcn] at Hct hin
          obtain rfl := Hbad.out 10 (by unfold wordE; rw [if_neg hne, if_neg (by show ¬ 12 < x.size; exact hlong), if_neg (by simp [hbin]), if_pos (hin.1 rfl)]) (by decide)
          clear he hne hbin hin hcn
          have hkc : k ≤ c := by omega
          have hkc' : (k : Int) ≤ c := by omega
          go_wp2_with fail
          refine (HT.out _).mono ?_
          rintro e w2 ⟨rfl, hb2⟩
          go_wp2_with fail
          refine (Hct.out _ hb2 _).mono ?_
          rintro e w3 ⟨rfl, rfl⟩
          have hb2 := chain hb2 hbr
          go_wp2
          go_ret
          exact ⟨rfl, hb2⟩
    · obtain rfl : k = n := by omega
      have e : l.take k = l := List.take_of_length_le (by rw [Hl.out]; omega)
      rw [e] at H0
      obtain rfl : E = 0 := by rw [HE.out]; exact H0.out
      go_wp2
      go_ret
      exact ⟨rfl, hbr⟩
end Go.Proofs.YtafpcekemlgclaaGreatDoor
