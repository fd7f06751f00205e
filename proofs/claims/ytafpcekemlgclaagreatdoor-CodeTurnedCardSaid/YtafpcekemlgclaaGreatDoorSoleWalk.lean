/- The walk of code.Sole (Sardinas, Patterson). -/
import Derived.Test.YtafpcekemlgclaaGreatDoorSoleAdd
import Derived.Deep.LoopGhost
namespace Go.Proofs.YtafpcekemlgclaaGreatDoor
open Go.RowKit
set_option linter.unusedVariables false

open Classical in
noncomputable def soleB (l : List Wd) : Bool := decide (checkC l = 0 ∧ UD l)
open Classical in
theorem soleB_iff (l : List Wd) : soleB l = true ↔ checkC l = 0 ∧ UD l := by unfold soleB; exact decide_eq_true_iff
theorem soleB_no {l : List Wd} (h : ¬ (checkC l = 0 ∧ UD l)) : soleB l = false := by
  cases hb : soleB l
  · rfl
  · exact absurd ((soleB_iff l).1 hb) h
theorem wds_app (a b : List ByteArray) : wds (a ++ b) = wds a ++ wds b := by unfold wds; rw [List.map_append]
theorem addS_app (D T : List ByteArray) (x : ByteArray) : addS (D ++ T) x = D ++ addT (D ++ T) T x := by
  unfold addS addT
  split
  · rfl
  · rw [List.append_assoc]
theorem mem_addS {S : List ByteArray} {x : ByteArray} {t : Wd} : t ∈ wds (addS S x) ↔ t ∈ wds S ∨ t = wd x := by
  unfold addS
  by_cases h : hasB x S = true
  · rw [if_pos h]
    exact ⟨.inl, fun h' => h'.elim id fun e => e ▸ mem_wds.2 (hasB_iff.1 h)⟩
  · rw [if_neg h, wds_app, List.mem_append]
    simp [wds]
/-- A word more. -/
theorem Seen.add {l : List Wd} {D T : List ByteArray} {x : ByteArray} (h : Seen l (wds D) (wds T)) (hx : Dang l (wd x)) : Seen l (wds D) (wds (addT (D ++ T) T x)) := by
  have e : ∀ t, t ∈ wds D ++ wds (addT (D ++ T) T x) ↔ t ∈ wds D ++ wds T ∨ t = wd x := fun t => by
    rw [← wds_app, ← addS_app, mem_addS, wds_app]
  refine ⟨fun s hs => ?_, ?_, h.no, fun s hs w hw t ht he => (e t).2 (.inl (h.into s hs w hw t ht he)), fun s hs w hw t ht he => (e t).2 (.inl (h.past s hs w hw t ht he))⟩
  · rcases (e s).1 hs with h1 | h1
    · exact h.dang s h1
    · rw [h1]; exact hx
  · unfold addT
    by_cases hh : hasB x (D ++ T) = true
    · rw [if_pos hh]; exact h.nodup
    · rw [if_neg hh, wds_app, ← List.append_assoc]
      refine List.nodup_append.2 ⟨h.nodup, by simp [wds], fun a ha b hb e => ?_⟩
      have hb2 : b = wd x := by simpa [wds] using hb
      apply hh
      rw [hasB_iff, ← mem_wds, wds_app, ← hb2, ← e]
      exact ha
/-- One that is done with. -/
theorem Seen.pop {l : List Wd} {D T : List ByteArray} {s : ByteArray} (h : Seen l (wds D) (wds (s :: T))) (h1 : wd s ∉ l) (h2 : ∀ w ∈ l, ∀ t, t ≠ [] → w = wd s ++ t → t ∈ wds (D ++ s :: T)) (h3 : ∀ w ∈ l, ∀ t, t ≠ [] → wd s = w ++ t → t ∈ wds (D ++ s :: T)) :
    Seen l (wds (D ++ [s])) (wds T) := by
  have e : wds (D ++ [s]) ++ wds T = wds D ++ wds (s :: T) := by rw [← wds_app, ← wds_app, List.append_assoc]; rfl
  have m : ∀ x, x ∈ wds (D ++ [s]) → x ∈ wds D ∨ x = wd s := fun x hx => by
    rw [wds_app, List.mem_append] at hx
    exact hx.imp id fun h => by simpa [wds] using h
  refine ⟨by rw [e]; exact h.dang, by rw [e]; exact h.nodup, fun x hx => ?_, fun x hx w hw t ht he => ?_, fun x hx w hw t ht he => ?_⟩
  · rcases m x hx with hx | rfl
    · exact h.no x hx
    · exact h1
  · rw [e]
    rcases m x hx with hx | rfl
    · exact h.into x hx w hw t ht he
    · rw [← wds_app]; exact h2 w hw t ht he
  · rw [e]
    rcases m x hx with hx | rfl
    · exact h.past x hx w hw t ht he
    · rw [← wds_app]; exact h3 w hw t ht he
theorem wd_extract (x : ByteArray) (k : Nat) : wd (x.extract k x.size) = (wd x).drop k := by
  show (x.extract k x.size).data.toList = _
  rw [Lib.extract_data, List.take_of_length_le]
  rw [List.length_drop]; exact Nat.le_refl _
theorem pre_split {a b : Wd} (h : a <+: b) : b = a ++ b.drop a.length := by
  obtain ⟨t, rfl⟩ := h
  rw [List.drop_left]
theorem rest_eq {a b t : Wd} (h : b = a ++ t) : t = b.drop a.length := by rw [h, List.drop_left]
/-- The box of what is to do, when its first word is taken. -/
def popV (g o m c : Nat) : Value := if c = 1 then .slice (some ⟨g, o, none⟩) 0 0 else .slice (some ⟨g, o + 1, none⟩) m (c - 1)
theorem SoleAt.pop {W : World} {b : Nat} {S T : List ByteArray} {s : ByteArray} (h : SoleAt W b S (s :: T)) : ∃ g o m c, W.cell? ⟨b + 1, 0, none⟩ = some (.slice (some ⟨g, o, none⟩) (m + 1) c) ∧ W.frozen? ⟨b + 1, 0, none⟩ = false ∧ m = T.length ∧ m + 1 ≤ c ∧ c ≤ 9223372036854775807 ∧
    W.cell? ⟨g, o, none⟩ = some (.string s) ∧ SoleAt (W.setCell ⟨b + 1, 0, none⟩ (popV g o m c)) b S T := by
  obtain ⟨A, n, c, A', n', c', h1, h2, h3, h4, h5⟩ := h.ex
  have hl := h4.1
  rw [List.length_cons] at hl
  obtain ⟨g, o, rfl, hg⟩ := h4.shape (by omega)
  subst hl
  have hcap := h4.cap
  have hc0 := h4.cell 0 (by omega)
  rw [Nat.add_zero, List.getD_cons_zero] at hc0
  have n1 := h3.ne_blk h2 (by decide)
  have n2 := h4.ne_blk h2 (by decide)
  have hb1 : Blk (W.setCell ⟨b + 1, 0, none⟩ (popV g o T.length c')) b 22 #[.slice A n c] := h1.far (by show b ≠ b + 1; omega) _
  have hb2 : Blk (W.setCell ⟨b + 1, 0, none⟩ (popV g o T.length c')) (b + 1) 22 #[popV g o T.length c'] := h2.set_ 0 _
  refine ⟨g, o, T.length, c', h2.cell 0, h2.frozen 0, rfl, hcap.1, by have := hcap.2; unfold maxLen at this; omega, hc0, ?_⟩
  unfold popV at hb1 hb2 ⊢
  by_cases hc1 : c' = 1
  · subst hc1
    have hT : T = [] := List.eq_nil_of_length_eq_zero (by omega)
    subst hT
    rw [if_pos rfl] at hb1 hb2 ⊢
    exact ⟨A, n, c, some ⟨g, o, none⟩, 0, 0, hb1, hb2, h3.far n1 0 _, (OwnL.tail0 h4).far n2 0 _, fun k hk hq => h5 k hk hq⟩
  · rw [if_neg hc1] at hb1 hb2 ⊢
    exact ⟨A, n, c, some ⟨g, o + 1, none⟩, T.length, c' - 1, hb1, hb2, h3.far n1 0 _, (OwnL.tail h4).far n2 0 _, fun k hk hq => h5 k hk hq⟩
theorem SoleAt.empty {W : World} {b : Nat} {S : List ByteArray} (h : SoleAt W b S []) : ∃ A c, W.cell? ⟨b + 1, 0, none⟩ = some (.slice A 0 c) := by
  obtain ⟨A, n, c, A', n', c', h1, h2, h3, h4, h5⟩ := h.ex
  have hl : 0 = n' := h4.1
  subst hl
  exact ⟨A', c', h2.cell 0⟩
/-- What is known of one word that is taken, against the first j words. -/
def Part (lw : List Wd) (S : List Wd) (s : Wd) (j : Nat) : Prop :=
  ∀ m, m < j → lw.getD m [] ≠ s ∧ (∀ t, t ≠ [] → lw.getD m [] = s ++ t → t ∈ S) ∧ (∀ t, t ≠ [] → s = lw.getD m [] ++ t → t ∈ S)
theorem Part.mono {lw S S' : List Wd} {s : Wd} {j : Nat} (h : Part lw S s j) (hs : ∀ t, t ∈ S → t ∈ S') : Part lw S' s j := fun m hm => ⟨(h m hm).1, fun t ht he => hs t ((h m hm).2.1 t ht he), fun t ht he => hs t ((h m hm).2.2 t ht he)⟩
theorem Part.succ {lw S : List Wd} {s : Wd} {j : Nat} (h : Part lw S s j) (h1 : lw.getD j [] ≠ s) (h2 : ∀ t, t ≠ [] → lw.getD j [] = s ++ t → t ∈ S) (h3 : ∀ t, t ≠ [] → s = lw.getD j [] ++ t → t ∈ S) : Part lw S s (j + 1) := fun m hm => by
  by_cases e : m = j
  · subst e; exact ⟨h1, h2, h3⟩
  · exact h m (by omega)

set_option maxRecDepth 100000 in
set_option maxHeartbeats 8000000 in
theorem sole_any (A : Option Addr) (n c B : Nat) (l : List ByteArray) (w : World) (hn : n ≤ 1125899906842624) (hnc : n ≤ c) (hl : l.length = n) (hz : ∀ p ∈ l, p.size ≤ 140737488351232) (h : Reads w B A n 1 (l.flatMap cStr)) (hB : B ≤ w.heap.size) :
    Calls Tryz.prog 8 #[.slice A n c] w fun e w' => e = .returned (.tuple #[.bool (soleB (wds l)), .int .i64 (checkC (wds l))]) ∧ Below w.heap.size w w' := by
  have HC := Lib.hid (codeCheck_any A n c B l w hn hnc hl hz h hB)
  have hwl : (wds l).length = n := by unfold wds; rw [List.length_map, hl]
  obtain ⟨R, hR⟩ : ∃ R, R = soleB (wds l) := ⟨_, rfl⟩
  rw [← hR]
  by_cases hc : checkC (wds l) = 0
  case neg =>
    obtain rfl : R = false := by rw [hR]; exact soleB_no fun h => hc h.1
    have q1 : (checkC (wds l) != 0) = true := by simpa using hc
    generalize checkC (wds l) = E at *
    go_enter Tryz.func8, Tryz.ntmps8
    go_wp2_with fail
    refine HC.out.mono ?_
    rintro e w1 ⟨rfl, hb1⟩
    go_wp2
    go_ret2
    exact ⟨rfl, hb1⟩
  have hok := (checkC_zero _).1 hc
  have hRt : UD (wds l) → R = true := fun h => by rw [hR]; exact (soleB_iff _).2 ⟨hc, h⟩
  have hRf : ¬ UD (wds l) → R = false := fun h => by rw [hR]; exact soleB_no fun h' => h h'.2
  have HRt := Lib.hid hRt
  have HRf := Lib.hid hRf
  have Hl := Lib.hid hl
  have Hok := Lib.hid hok
  have Hwl := Lib.hid hwl
  have hn12 : n ≤ 12 := by have := hok.few; omega
  rw [hc] at HC ⊢
  clear hR hRt hRf hl hz hc hwl hok
  have hwi : ∀ k, k < n → wd (l.getD k ByteArray.empty) ∈ wds l := fun k hk => mem_wds.2 (by rw [getD_some _ _ _ (by rw [Hl.out]; omega)]; exact List.getElem_mem _)
  have hsz : ∀ k, k < n → (l.getD k ByteArray.empty).size ≤ 12 := fun k hk => Hok.out.len _ (hwi k hk)
  have Hwi := Lib.hid hwi
  have Hsz := Lib.hid hsz
  clear hwi hsz
  go_enter Tryz.func8, Tryz.ntmps8
  go_wp2_with fail
  refine HC.out.mono ?_
  rintro e w1 ⟨rfl, hb1⟩
  have h := h.below (hb1.mono hB)
  have hB1 : B ≤ w1.heap.size := Nat.le_trans hB hb1.size
  have g1 := (Blk.new w1 22 #[.slice none 0 0]).alloc (Obj.cells #[.slice none 0 0] 22)
  have g2 := Blk.new (w1.alloc (Obj.cells #[.slice none 0 0] 22)) 22 #[.slice none 0 0]
  have hz2 : (w1.alloc (Obj.cells #[.slice none 0 0] 22)).heap.size = w1.heap.size + 1 := by simp
  rw [hz2] at g2
  have hst : SoleAt ((w1.alloc (Obj.cells #[.slice none 0 0] 22)).alloc (Obj.cells #[.slice none 0 0] 22)) w1.heap.size [] [] :=
    ⟨none, 0, 0, none, 0, 0, g1, g2, OwnL.nil _ _, OwnL.nil _ _, fun k hk => by cases hk⟩
  have hbb : Below w1.heap.size w1 ((w1.alloc (Obj.cells #[.slice none 0 0] 22)).alloc (Obj.cells #[.slice none 0 0] 22)) := ((Below.refl _ _).alloc (Nat.le_refl _) _).alloc (by simp) _
  clear g1 g2
  go_wp2
  generalize (w1.alloc (Obj.cells #[.slice none 0 0] 22)).alloc (Obj.cells #[.slice none 0 0] 22) = w2 at *
  generalize w1.alloc (Obj.cells #[.slice none 0 0] 22) = w1' at *
  clear hz2
  have cellG : ∀ W, Below w1.heap.size w1 W → ∀ k, k < n → ∃ b o, A = some ⟨b, o, none⟩ ∧ W.cell? ⟨b, o + k, none⟩ = some (.string (l.getD k ByteArray.empty)) := fun W hW k hk => by
    obtain ⟨b, o, hA, hbB, hc⟩ := (h.below (hW.mono hB1)).2 (by omega)
    refine ⟨b, o, hA, ?_⟩
    have c0 := hc (k * 1 + 0) (by rw [flat_length cStr 1 cStr_len, Hl.out]; omega)
    rw [flat_getD cStr 1 cStr_len ByteArray.empty l k _ (by rw [Hl.out]; omega) (by omega)] at c0
    simpa only [cStr, List.getD_cons_zero, Nat.mul_one, Nat.add_zero] using c0
  have CellG := Lib.hid cellG
  clear cellG h
  go_loopw [8, 9, 10, 11, 23, 30] (fun _ _ _ _ iv _ wr => ∃ (i : Nat) (S : List ByteArray), i ≤ n ∧ iv = .int .i64 i ∧ SoleAt wr w1.heap.size S S ∧ Hid (Seen (wds l) (wds []) (wds S)) ∧ Below w1.heap.size w1 wr ∧
      Hid (∀ p q, p < i → q < n → p ≠ q → ∀ s, s ≠ [] → wd (l.getD q ByteArray.empty) = wd (l.getD p ByteArray.empty) ++ s → s ∈ wds S)) (fun _ _ _ _ iv _ _ => n - (intOf iv).toNat)
  case atStart =>
    refine ⟨0, [], Nat.zero_le _, rfl, hst, Lib.hid ⟨fun s hs => by simp [wds] at hs, by simp [wds], fun s hs => by simp [wds] at hs, fun s hs => by simp [wds] at hs, fun s hs => by simp [wds] at hs⟩, hbb, Lib.hid (fun p q hp => by omega)⟩
  case round =>
    clear hst hbb
    obtain ⟨i, S, hi, rfl, hst, HS, hbr, Hbs⟩ := hrel
    by_cases hlt : i < n
    · obtain ⟨b, o, rfl, ci⟩ := CellG.out wr hbr i hlt
      obtain ⟨x, hx⟩ : ∃ x, x = l.getD i ByteArray.empty := ⟨_, rfl⟩
      rw [← hx] at ci
      have hxs : x.size ≤ 12 := by rw [hx]; exact Hsz.out i hlt
      have Hx := Lib.hid hx
      clear hx
      go_wp2
      go_loopw [10, 11, 30] (fun _ _ kv W => ∃ (k : Nat) (S' : List ByteArray), k ≤ n ∧ kv = .int .i64 k ∧ SoleAt W w1.heap.size S' S' ∧ Hid (Seen (wds l) (wds []) (wds S')) ∧ Below w1.heap.size w1 W ∧
          Hid (∀ t, t ∈ wds S → t ∈ wds S') ∧ Hid (∀ q, q < k → i ≠ q → ∀ s, s ≠ [] → wd (l.getD q ByteArray.empty) = wd x ++ s → s ∈ wds S')) (fun _ _ kv _ => n - (intOf kv).toNat)
      case atStart => exact ⟨0, S, Nat.zero_le _, rfl, hst, HS, hbr, Lib.hid (fun t ht => ht), Lib.hid (fun q hq => by omega)⟩
      case round =>
        clear hst hbr HS
        obtain ⟨k, S', hk, rfl, hst, HS, hbr, Hsub, Hk⟩ := hrel
        by_cases hkn : k < n
        · obtain ⟨b2, o2, hA2, ck⟩ := CellG.out wr hbr k hkn
          injection hA2 with hA2
          injection hA2 with e1 e2
          subst e1 e2
          obtain ⟨y, hy⟩ : ∃ y, y = l.getD k ByteArray.empty := ⟨_, rfl⟩
          rw [← hy] at ck
          have hys : y.size ≤ 12 := by rw [hy]; exact Hsz.out k hkn
          have Hy := Lib.hid hy
          have HP := Lib.hid (hasPrefix_any y x (by omega) (by omega))
          have hpi := preB_iff y x
          clear hy
          by_cases hik : i = k
          · have q1 : ((i : Int) != (k : Int)) = false := by rw [hik]; simp
            have q1' : ((i : Int) == (k : Int)) = true := by rw [hik]; simp
            have hnx : ∀ q, q < k + 1 → i ≠ q → ∀ s, s ≠ [] → wd (l.getD q ByteArray.empty) = wd x ++ s → s ∈ wds S' := fun q hq hiq => Hk.out q (by omega) hiq
            have Hnx := Lib.hid hnx
            clear hik hnx hpi
            go_wp2
            go_roundw
            case rel => exact ⟨k + 1, S', by omega, by go_num, hst, HS, hbr, Hsub, Hnx⟩
            case measure => simp [intOf]; omega
          · have q1 : ((i : Int) != (k : Int)) = true := by rw [bne_iff_ne]; omega
            have q1' : ((i : Int) == (k : Int)) = false := by rw [beq_eq_false_iff_ne]; omega
            cases hpb : preB y x
            · rw [hpb] at HP hpi
              have hnx : ∀ q, q < k + 1 → i ≠ q → ∀ s, s ≠ [] → wd (l.getD q ByteArray.empty) = wd x ++ s → s ∈ wds S' := fun q hq hiq s hs he => by
                by_cases e : q = k
                · exfalso
                  rw [e, ← Hy.out] at he
                  have := hpi.2 ⟨s, he.symm⟩
                  cases this
                · exact Hk.out q (by omega) hiq s hs he
              have Hnx := Lib.hid hnx
              clear hik hnx hpi hpb
              go_wp2_with fail
              refine (HP.out _).mono ?_
              rintro e w2 ⟨rfl, rfl⟩
              go_wp2
              go_roundw
              case rel => exact ⟨k + 1, S', by omega, by go_num, hst, HS, hbr, Hsub, Hnx⟩
              case measure => simp [intOf]; omega
            · rw [hpb] at HP hpi
              have hpre := hpi.1 rfl
              have hxy : x.size ≤ y.size := hpre.length_le
              have hsp := pre_split hpre
              have hne : wd y ≠ wd x := fun e => by
                have hn2 := Hok.out.nodup
                have e1 : (wds l)[k]'(by rw [Hwl.out]; exact hkn) = (wds l)[i]'(by rw [Hwl.out]; exact hlt) := by
                  have a1 := wds_getD l k
                  have a2 := wds_getD l i
                  rw [List.getD_eq_getElem?_getD, List.getElem?_eq_getElem (by rw [Hwl.out]; exact hkn), ← Hy.out] at a1
                  rw [List.getD_eq_getElem?_getD, List.getElem?_eq_getElem (by rw [Hwl.out]; exact hlt), ← Hx.out] at a2
                  exact a1.trans (e.trans a2.symm)
                rcases Nat.lt_or_gt_of_ne hik with h | h
                · exact List.pairwise_iff_getElem.1 hn2 i k (by rw [Hwl.out]; exact hlt) (by rw [Hwl.out]; exact hkn) h e1.symm
                · exact List.pairwise_iff_getElem.1 hn2 k i (by rw [Hwl.out]; exact hkn) (by rw [Hwl.out]; exact hlt) h e1
              have hdr : (wd y).drop (wd x).length ≠ [] := fun e => hne (by have h := hsp; rw [e, List.append_nil] at h; exact h)
              obtain ⟨z, hzz⟩ : ∃ z, z = y.extract x.size y.size := ⟨_, rfl⟩
              have hwz : wd z = (wd y).drop (wd x).length := by rw [hzz, wd_extract]; rfl
              have hdang : Dang (wds l) (wd z) := by
                rw [hwz]
                exact .base (wd x) (wd y) _ (by rw [Hx.out]; exact Hwi.out i hlt) (by rw [Hy.out]; exact Hwi.out k hkn) hsp hdr
              have hSn := HS.out.add hdang
              rw [List.nil_append] at hSn
              have hmm : ∀ t, t ∈ wds (addT S' S' z) ↔ t ∈ wds S' ∨ t = wd z := fun t => by
                have := addS_app [] S' z
                rw [List.nil_append, List.nil_append] at this
                rw [← this]; exact mem_addS
              have hfew := HS.out.few Hok.out.len Hok.out.few
              rw [← wds_app, List.nil_append] at hfew
              have hfew2 : S'.length ≤ 1000000 := by unfold wds at hfew; rw [List.length_map] at hfew; omega
              have Hadd := Lib.hid (fun W hW => soleAdd w1.heap.size z S' S' W hW hfew2 hfew2)
              have hnx : ∀ q, q < k + 1 → i ≠ q → ∀ s, s ≠ [] → wd (l.getD q ByteArray.empty) = wd x ++ s → s ∈ wds (addT S' S' z) := fun q hq hiq s hs he => by
                by_cases e : q = k
                · rw [e, ← Hy.out] at he
                  refine (hmm s).2 (.inr ?_)
                  rw [hwz]; exact rest_eq he
                · exact (hmm s).2 (.inl (Hk.out q (by omega) hiq s hs he))
              have hsub : ∀ t, t ∈ wds S → t ∈ wds (addT S' S' z) := fun t ht => (hmm t).2 (.inl (Hsub.out t ht))
              have hadd : addS S' z = addT S' S' z := by unfold addS addT; rfl
              rw [hadd] at Hadd
              have Hnx := Lib.hid hnx
              have HSn := Lib.hid hSn
              have Hsub2 := Lib.hid hsub
              have hxy' : (x.size : Int) ≤ y.size := by omega
              clear hik hnx hpi hpb hpre hsp hne hdr hwz hdang hSn hmm hfew hsub hadd
              go_wp2_with fail
              refine (HP.out _).mono ?_
              rintro e w3 ⟨rfl, rfl⟩
              go_wp2_with fail
              rw [← hzz]
              refine (Hadd.out _ hst).mono ?_
              rintro e w4 ⟨rfl, hst4, hb4⟩
              have hbr4 : Below w1.heap.size w1 w4 := hbr.trans hb4
              go_wp2
              go_roundw
              case rel => exact ⟨k + 1, _, by omega, by go_num, hst4, HSn, hbr4, Hsub2, Hnx⟩
              case measure => simp [intOf]; omega
        · obtain rfl : k = n := by omega
          have hnx : ∀ p q, p < i + 1 → q < k → p ≠ q → ∀ s, s ≠ [] → wd (l.getD q ByteArray.empty) = wd (l.getD p ByteArray.empty) ++ s → s ∈ wds S' := fun p q hp hq hpq s hs he => by
            by_cases e : p = i
            · rw [e, ← Hx.out] at he
              exact Hk.out q hq (by omega) s hs he
            · exact Hsub.out s (Hbs.out p q (by omega) hq hpq s hs he)
          have Hnx := Lib.hid hnx
          clear hnx
          go_wp2
          go_roundw
          case rel => exact ⟨i + 1, S', by omega, by go_num, hst, HS, hbr, Hnx⟩
          case measure => simp [intOf]; omega
    · obtain rfl : i = n := by omega
      have hbase : AllBase (wds l) (wds S) := fun u hu v hv s hs he => by
        obtain ⟨p, hp, rfl⟩ := List.getElem_of_mem hu
        obtain ⟨q, hq, rfl⟩ := List.getElem_of_mem hv
        rw [Hwl.out] at hp hq
        have a1 := wds_getD l p
        have a2 := wds_getD l q
        rw [List.getD_eq_getElem?_getD, List.getElem?_eq_getElem (by rw [Hwl.out]; exact hp)] at a1
        rw [List.getD_eq_getElem?_getD, List.getElem?_eq_getElem (by rw [Hwl.out]; exact hq)] at a2
        have a1 : (wds l)[p] = wd (l.getD p ByteArray.empty) := a1
        have a2 : (wds l)[q] = wd (l.getD q ByteArray.empty) := a2
        rw [a1, a2] at he
        refine Hbs.out p q hp hq (fun e => ?_) s hs he
        rw [e] at he
        have := congrArg List.length he
        rw [List.length_append] at this
        exact hs (List.eq_nil_of_length_eq_zero (by omega))
      have Hbase := Lib.hid hbase
      clear hbase Hbs
      rw [← List.nil_append S] at hst HS Hbase
      go_wp2
      go_loopg [12, 14, 61] 157 (fun gh _ _ _ W => ∃ (D T : List ByteArray), 157 ≤ D.length + gh ∧ SoleAt W w1.heap.size (D ++ T) T ∧ Hid (Seen (wds l) (wds D) (wds T)) ∧ Hid (AllBase (wds l) (wds (D ++ T))) ∧ Below w1.heap.size w1 W)
      case atStart => exact ⟨[], S, by simp, hst, HS, Hbase, hbr⟩
      case round =>
        clear hst hbr HS Hbase
        obtain ⟨D, T, hgh, hst, HS, Hbase, hbr⟩ := hrel
        cases T with
        | nil =>
          obtain ⟨A2, c2, k1⟩ := hst.empty
          rw [List.append_nil] at Hbase
          obtain rfl : R = true := HRt.out (HS.out.ud Hbase.out Hok.out.ne)
          go_wp2
          go_ret2
          exact ⟨rfl, hb1.trans (hbr.mono hb1.size)⟩
        | cons s T =>
          obtain ⟨g, o, m, c2, k1, k2, hmT, hmc, hc9, k3, hst2⟩ := hst.pop
          have hdang : Dang (wds l) (wd s) := HS.out.dang _ (List.mem_append_right _ (by simp [wds]))
          have hsz : s.size ≤ 12 := by
            obtain ⟨v, hv, p, hp⟩ := hdang.tail_of
            have h1 := Hok.out.len v hv
            rw [hp, List.length_append] at h1
            have : (wd s).length = s.size := rfl
            omega
          have hD156 : D.length ≤ 156 := by
            have := HS.out.few Hok.out.len Hok.out.few
            rw [List.length_append] at this
            unfold wds at this
            rw [List.length_map] at this
            omega
          have hbr2 : Below w1.heap.size w1 (wr.setCell ⟨w1.heap.size + 1, 0, none⟩ (popV g o m c2)) := hbr.setCell (by show w1.heap.size ≤ w1.heap.size + 1; omega) _
          rw [show D ++ s :: T = (D ++ [s]) ++ T from by simp] at hst2 Hbase
          have Hdang := Lib.hid hdang
          have Hmt := Lib.hid hmT
          have q0 : decide ((0 : Int) < (m : Int) + 1) = true := decide_eq_true (by omega)
          have q0' : decide (0 < m + 1) = true := decide_eq_true (by omega)
          have q0a : (1 : Int) ≤ (m : Int) + 1 := by omega
          clear hdang hmT hst hbr
          by_cases hc1 : c2 = 1
          case' pos =>
            have hpv : popV g o m c2 = .slice (some ⟨g, o, none⟩) 0 0 := by unfold popV; rw [if_pos hc1]
            rw [hpv] at hst2 hbr2
            subst hc1
            obtain rfl : m = 0 := by omega
            clear hpv
          case' neg =>
            have hpv : popV g o m c2 = .slice (some ⟨g, o + 1, none⟩) m (c2 - 1) := by unfold popV; rw [if_neg hc1]
            rw [hpv] at hst2 hbr2
            clear hpv
          all_goals
            go_wp2
            generalize wr.setCell _ _ = w5 at *
            clear k1 k2 k3 hmc hc9 q0 q0' q0a
            go_loopw [14, 61] (fun _ jv W => ∃ (j : Nat) (T1 : List ByteArray), j ≤ i ∧ jv = .int .i64 j ∧ SoleAt W w1.heap.size ((D ++ [s]) ++ T1) T1 ∧ Hid (Seen (wds l) (wds D) (wds (s :: T1))) ∧ Hid (AllBase (wds l) (wds ((D ++ [s]) ++ T1))) ∧ Hid (Part (wds l) (wds ((D ++ [s]) ++ T1)) (wd s) j) ∧ Below w1.heap.size w1 W) (fun _ jv _ => i - (intOf jv).toNat)
            case atStart => exact ⟨0, T, Nat.zero_le _, rfl, hst2, HS, Hbase, Lib.hid (fun m hm => by omega), hbr2⟩
            case round =>
              clear hst2 HS Hbase hbr2
              obtain ⟨j, T1, hj, rfl, hst, HS, Hbase, Hpart, hbr⟩ := hrel
              by_cases hjn : j < i
              · obtain ⟨bb, oo, rfl, cj⟩ := CellG.out wr hbr j hjn
                obtain ⟨y, hy⟩ : ∃ y, y = l.getD j ByteArray.empty := ⟨_, rfl⟩
                rw [← hy] at cj
                have hys : y.size ≤ 12 := by rw [hy]; exact Hsz.out j hjn
                have hyw : wd y ∈ wds l := by rw [hy]; exact Hwi.out j hjn
                have hyd : (wds l).getD j [] = wd y := by rw [hy]; exact wds_getD l j
                have Hyw := Lib.hid hyw
                have Hyd := Lib.hid hyd
                clear hy hyw hyd
                by_cases hye : wd y = wd s
                · have q1 : (y.toList == s.toList) = true := by rw [wd_inj hye]; simp
                  obtain rfl : R = false := HRf.out (not_ud Hdang.out (by rw [← hye]; exact Hyw.out))
                  clear hye
                  go_wp2
                  go_ret2
                  exact ⟨rfl, hb1.trans (hbr.mono hb1.size)⟩
                · have q1 : (y.toList == s.toList) = false := by
                    rw [beq_eq_false_iff_ne]; intro h; apply hye
                    rw [ByteArray.toList_eq, ByteArray.toList_eq] at h; exact h
                  have HP1 := Lib.hid (hasPrefix_any y s (by omega) (by omega))
                  have HP2 := Lib.hid (hasPrefix_any s y (by omega) (by omega))
                  have hp1 := preB_iff y s
                  have hp2 := preB_iff s y
                  have hfew : ((D ++ [s]) ++ T1).length ≤ 1000000 := by
                    have := HS.out.few Hok.out.len Hok.out.few
                    rw [← wds_app] at this
                    unfold wds at this
                    rw [List.length_map] at this
                    simp only [List.length_append, List.length_cons, List.length_nil] at this ⊢
                    omega
                  have hfew2 : T1.length ≤ 1000000 := by rw [List.length_append] at hfew; omega
                  have grow : ∀ z, Dang (wds l) (wd z) → Seen (wds l) (wds D) (wds (s :: addT ((D ++ [s]) ++ T1) T1 z)) := fun z hz => by
                    have h1 := HS.out.add hz
                    have e : addT (D ++ s :: T1) (s :: T1) z = s :: addT ((D ++ [s]) ++ T1) T1 z := by
                      rw [show D ++ s :: T1 = (D ++ [s]) ++ T1 from by simp]
                      unfold addT
                      split <;> rfl
                    rwa [e] at h1
                  have sub : ∀ z t, t ∈ wds ((D ++ [s]) ++ T1) → t ∈ wds ((D ++ [s]) ++ addT ((D ++ [s]) ++ T1) T1 z) := fun z t ht => by
                    rw [← addS_app, mem_addS]; exact .inl ht
                  have own : ∀ z, wd z ∈ wds ((D ++ [s]) ++ addT ((D ++ [s]) ++ T1) T1 z) := fun z => by rw [← addS_app, mem_addS]; exact .inr rfl
                  have Hadd := Lib.hid (fun z W hW => soleAdd w1.heap.size z ((D ++ [s]) ++ T1) T1 W hW hfew hfew2)
                  cases hpb1 : preB y s
                  · rw [hpb1] at HP1 hp1
                    have no1 : ∀ t, t ≠ [] → wd y = wd s ++ t → False := fun t _ he => by have := hp1.2 ⟨t, he.symm⟩; cases this
                    cases hpb2 : preB s y
                    · rw [hpb2] at HP2 hp2
                      have no2 : ∀ t, t ≠ [] → wd s = wd y ++ t → False := fun t _ he => by have := hp2.2 ⟨t, he.symm⟩; cases this
                      have hpn := Hpart.out.succ (by rw [Hyd.out]; exact hye) (fun t ht he => (no1 t ht (by rw [← Hyd.out]; exact he)).elim) (fun t ht he => (no2 t ht (by rw [← Hyd.out]; exact he)).elim)
                      have Hpn := Lib.hid hpn
                      clear hp1 hp2 no1 no2 hpn hye hpb1 hpb2 grow sub own Hadd hfew hfew2
                      go_wp2_with fail
                      refine (HP1.out _).mono ?_
                      rintro e w6 ⟨rfl, rfl⟩
                      go_wp2_with fail
                      refine (HP2.out _).mono ?_
                      rintro e w6 ⟨rfl, rfl⟩
                      go_wp2
                      go_roundw
                      case rel => exact ⟨j + 1, T1, by omega, by go_num, hst, HS, Hbase, Hpn, hbr⟩
                      case measure => simp [intOf]; omega
                    · rw [hpb2] at HP2 hp2
                      have hpre := hp2.1 rfl
                      have hle : y.size ≤ s.size := hpre.length_le
                      have hle' : (y.size : Int) ≤ s.size := by omega
                      have hsp := pre_split hpre
                      obtain ⟨z, hzz⟩ : ∃ z, z = s.extract y.size s.size := ⟨_, rfl⟩
                      have hwz : wd z = (wd s).drop (wd y).length := by rw [hzz, wd_extract]; rfl
                      have hdr : (wd s).drop (wd y).length ≠ [] := fun e => hye (by have h := hsp; rw [e, List.append_nil] at h; exact h.symm)
                      have hz := grow z (by rw [hwz]; exact .past (wd s) (wd y) _ Hdang.out Hyw.out hsp hdr)
                      have hpn := (Hpart.out.mono (sub z)).succ (by rw [Hyd.out]; exact hye) (fun t ht he => (no1 t ht (by rw [← Hyd.out]; exact he)).elim) (fun t ht he => by
                        rw [Hyd.out] at he
                        rw [rest_eq he, ← hwz]; exact own z)
                      have hbs : AllBase (wds l) (wds ((D ++ [s]) ++ addT ((D ++ [s]) ++ T1) T1 z)) := fun u hu v hv r hr he => sub z r (Hbase.out u hu v hv r hr he)
                      have Hz := Lib.hid hz
                      have Hpn := Lib.hid hpn
                      have Hbs := Lib.hid hbs
                      have Had := Lib.hid (fun W hW => (addS_app (D ++ [s]) T1 z) ▸ Hadd.out z W hW)
                      clear hp1 hp2 no1 hpre hsp hwz hdr hz hpn hbs hye hpb1 hpb2 grow sub own Hadd hfew hfew2
                      go_wp2_with fail
                      refine (HP1.out _).mono ?_
                      rintro e w6 ⟨rfl, rfl⟩
                      go_wp2_with fail
                      refine (HP2.out _).mono ?_
                      rintro e w6 ⟨rfl, rfl⟩
                      go_wp2_with fail
                      rw [← hzz]
                      refine (Had.out _ hst).mono ?_
                      rintro e w7 ⟨rfl, hst7, hb7⟩
                      have hbr7 : Below w1.heap.size w1 w7 := hbr.trans hb7
                      go_wp2
                      go_roundw
                      case rel => exact ⟨j + 1, _, by omega, by go_num, hst7, Hz, Hbs, Hpn, hbr7⟩
                      case measure => simp [intOf]; omega
                  · rw [hpb1] at HP1 hp1
                    have hpre := hp1.1 rfl
                    have hle : s.size ≤ y.size := hpre.length_le
                    have hle' : (s.size : Int) ≤ y.size := by omega
                    have hsp := pre_split hpre
                    have hpb2 : preB s y = false := by
                      cases hq : preB s y
                      · rfl
                      · exfalso
                        rw [hq] at hp2
                        have h2 := hp2.1 rfl
                        exact hye (h2.eq_of_length (Nat.le_antisymm h2.length_le hle))
                    rw [hpb2] at HP2 hp2
                    have no2 : ∀ t, t ≠ [] → wd s = wd y ++ t → False := fun t _ he => by have := hp2.2 ⟨t, he.symm⟩; cases this
                    obtain ⟨z, hzz⟩ : ∃ z, z = y.extract s.size y.size := ⟨_, rfl⟩
                    have hwz : wd z = (wd y).drop (wd s).length := by rw [hzz, wd_extract]; rfl
                    have hdr : (wd y).drop (wd s).length ≠ [] := fun e => hye (by have h := hsp; rw [e, List.append_nil] at h; exact h)
                    have hz := grow z (by rw [hwz]; exact .into (wd s) (wd y) _ Hdang.out Hyw.out hsp hdr)
                    have hpn := (Hpart.out.mono (sub z)).succ (by rw [Hyd.out]; exact hye) (fun t ht he => by
                        rw [Hyd.out] at he
                        rw [rest_eq he, ← hwz]; exact own z) (fun t ht he => (no2 t ht (by rw [← Hyd.out]; exact he)).elim)
                    have hbs : AllBase (wds l) (wds ((D ++ [s]) ++ addT ((D ++ [s]) ++ T1) T1 z)) := fun u hu v hv r hr he => sub z r (Hbase.out u hu v hv r hr he)
                    have Hz := Lib.hid hz
                    have Hpn := Lib.hid hpn
                    have Hbs := Lib.hid hbs
                    have Had := Lib.hid (fun W hW => (addS_app (D ++ [s]) T1 z) ▸ Hadd.out z W hW)
                    clear hp1 hp2 no2 hpre hsp hwz hdr hz hpn hbs hye hpb1 hpb2 grow sub own Hadd hfew hfew2
                    go_wp2_with fail
                    refine (HP1.out _).mono ?_
                    rintro e w6 ⟨rfl, rfl⟩
                    go_wp2_with fail
                    rw [← hzz]
                    refine (Had.out _ hst).mono ?_
                    rintro e w7 ⟨rfl, hst7, hb7⟩
                    have hbr7 : Below w1.heap.size w1 w7 := hbr.trans hb7
                    go_wp2_with fail
                    refine (HP2.out _).mono ?_
                    rintro e w6 ⟨rfl, rfl⟩
                    go_wp2
                    go_roundw
                    case rel => exact ⟨j + 1, _, by omega, by go_num, hst7, Hz, Hbs, Hpn, hbr7⟩
                    case measure => simp [intOf]; omega
              · obtain rfl : j = i := by omega
                have hmem : ∀ w ∈ wds l, ∃ m, m < j ∧ (wds l).getD m [] = w := fun w hw => by
                  obtain ⟨m, hm, rfl⟩ := List.getElem_of_mem hw
                  exact ⟨m, by rw [← Hwl.out]; exact hm, by rw [List.getD_eq_getElem?_getD, List.getElem?_eq_getElem hm]; rfl⟩
                have hnext := HS.out.pop (fun hs => by
                    obtain ⟨m, hm, e⟩ := hmem _ hs
                    exact (Hpart.out m hm).1 e) (fun w hw t ht he => by
                    obtain ⟨m, hm, rfl⟩ := hmem _ hw
                    have := (Hpart.out m hm).2.1 t ht he
                    rwa [show D ++ s :: T1 = (D ++ [s]) ++ T1 from by simp]) (fun w hw t ht he => by
                    obtain ⟨m, hm, rfl⟩ := hmem _ hw
                    have := (Hpart.out m hm).2.2 t ht he
                    rwa [show D ++ s :: T1 = (D ++ [s]) ++ T1 from by simp])
                have Hnext := Lib.hid hnext
                clear hmem hnext
                go_wp2
                go_roundg (156 - D.length)
                case measure => omega
                case rel => exact ⟨D ++ [s], T1, by simp; omega, hst, Hnext, Hbase, hbr⟩
end Go.Proofs.YtafpcekemlgclaaGreatDoor
