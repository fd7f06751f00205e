/- SeekEach's walk: a pattern is found exactly where it occurs, and overlapping occurrences imply a period. -/
import Derived.Test.YtmojfmoinaadgaaSeekLaws
import Derived.Test.YtmojfmoinaadgaaKeep
namespace Go.Proofs.Ytmojfmoinaadgaa
open Go.RowKit
set_option linter.unusedVariables false

theorem overlap_same {s p : ByteArray} {x y : Nat} (hx : Occ s.data.toList p.data.toList x) (hy : Occ s.data.toList p.data.toList y) (hxy : x < y) (hd : y - x < p.size) :
    p.extract (y - x) p.size = p.extract 0 (p.size - (y - x)) := by
  have hsl : p.data.toList.length = p.size := rfl
  refine ba_ext ?_
  rw [Lib.extract_data, Lib.extract_data, Nat.sub_zero, List.drop_zero]
  refine ext_getD _ _ 0 (by rw [List.length_take, List.length_take, List.length_drop]; omega) fun j hj => ?_
  rw [List.length_take, List.length_drop] at hj
  rw [getD_take _ _ _ _ (by omega), getD_take _ _ _ _ (by omega), getD_drop, hx.2 (y - x + j) (by omega), hy.2 j (by omega)]
  congr 1; omega

set_option maxRecDepth 100000 in
set_option maxHeartbeats 2000000 in
theorem seekEach_walk (s p : ByteArray) (k0 : Int) (hs0 : s.size ≤ 140737488351232) (hp0 : p.size ≤ 140737488351232) (hk0 : (Lit.int .i64 k0).wf = true) (w : World) :
    Calls Try.prog 11 #[.string s, .string p, .int .i64 k0] w fun e w' => e = .returned (.bool true) ∧ Below w.heap.size w w' := by
  by_cases hE : seekE s.size p.size = 0
  case neg =>
    have H1 := Lib.hid (find_no s p hE)
    generalize seekE s.size p.size = E at *
    have q1 : (E != 0) = true := by simpa using hE
    go_enter Try.func11, Try.ntmps11
    go_wp2_with fail
    refine (seeks_any _).mono ?_
    rintro e w1 ⟨rfl, hb1⟩
    go_wp2_with fail
    refine (H1.out _).mono ?_
    rintro e w2 ⟨rfl, rfl⟩
    go_wp2
    go_ret
    exact ⟨rfl, hb1⟩
  obtain ⟨hs, hp, hp1⟩ := seekE_ok.1 hE
  obtain ⟨k, hk, hkm⟩ : ∃ k : Nat, k0 % ((s.size : Int) + 1) = k ∧ k ≤ s.size := by
    have h1 := Int.emod_nonneg k0 (show ((s.size : Int) + 1) ≠ 0 by omega)
    have h2 := Int.emod_lt_of_pos k0 (show 0 < ((s.size : Int) + 1) by omega)
    exact ⟨(k0 % ((s.size : Int) + 1)).toNat, by omega, by omega⟩
  have hw1 : ∀ w, Calls Try.prog 24 #[.int .i64 k0, .int .i64 ((s.size : Int) + 1)] w fun e w' => e = .returned (.int .i64 (k : Int)) ∧ w = w' := fun w => by
    have := within_any k0 ((s.size : Int) + 1) (by omega) (by omega) w
    rwa [hk] at this
  have Hw1 := Lib.hid hw1
  have hks : (k : Int) ≤ s.size := by omega
  have H1 := Lib.hid (find_ok s p hE)
  have hmem := mem_find s.data.toList p.data.toList hp1
  have hrise := found_rise s.data.toList p.data.toList hp1 s.size (Nat.le_refl _)
  have hlen := foundOf_length s.data.toList p.data.toList s.size
  have e0 : foundOf s.data.toList p.data.toList s.size = findOf s.data.toList p.data.toList := rfl
  rw [e0] at hrise hlen
  have hpre : preB (s.extract k s.size) p = hasB ((k : Nat) : Int) (nI (findOf s.data.toList p.data.toList)) := by
    rw [Bool.eq_iff_iff, preB_iff, hasB_iff, mem_nI, hmem k, occ_prefix _ _ _ hkm, Lib.extract_data, List.take_of_length_le (by rw [List.length_drop]; exact Nat.le_refl _)]
  have hfx := hasPrefix_any (s.extract k s.size) p (by simp; omega) (by omega)
  rw [hpre] at hfx
  generalize findOf s.data.toList p.data.toList = L at *
  have hnl := nI_length L
  have Hmem := Lib.hid hmem
  have Hrise := Lib.hid hrise
  have Hfx := Lib.hid hfx
  obtain ⟨N, hN⟩ : ∃ N, (nI L).length = N := ⟨_, rfl⟩
  rw [hN] at hnl
  rw [← hnl] at hlen
  have HN := Lib.hid hnl
  have HN2 := Lib.hid hN
  clear hw1 hk hmem hrise hpre hfx e0 hE
  go_enter Try.func11, Try.ntmps11
  go_wp2_with fail
  refine (seeks_any _).mono ?_
  rintro e w1 ⟨rfl, hb1⟩
  go_wp2_with fail
  refine (H1.out _).mono ?_
  rintro e w2 ⟨A, c, rfl, hr2, hb2, _⟩
  rw [hN] at hr2 ⊢
  have hbw := chain hb2 hb1
  clear hb1 hb2 hN hnl
  go_wp2_with fail
  refine (Hw1.out _).mono ?_
  rintro e w3 ⟨rfl, rfl⟩
  have hcn := fun n => containsInt_any (k : Int) A N c _ (nI L) (w2.drewN n) (by omega) HN2.out (hr2.drewN n)
  have Hcn := Lib.hid hcn
  clear hcn
  generalize hasB ((k : Nat) : Int) (nI L) = z at *
  have qz : (z != z) = false := by simp
  have qz' : (z == z) = true := by simp
  go_wp2_with fail
  go_quiet ((first | (go_at_call 23; exact quiet_left (Hcn.out _)) | (go_at_call 35; exact quiet_left (Hfx.out _))))
  generalize hW : World.drewN _ _ = W
  have hr3 : Reads W w2.heap.size A N 1 ((nI L).flatMap cInt) := by rw [← hW]; exact hr2.drewN _
  have hb3 : Below w.heap.size w W := by rw [← hW]; exact below_drewN hbw _
  clear hW hr2 hbw Hcn Hfx
  go_wp2
  go_loopw [9, 10] (fun iv _ wr => ∃ i : Nat, 1 ≤ i ∧ (i ≤ N ∨ i = 1) ∧ iv = .int .i64 i ∧ Reads wr w2.heap.size A N 1 ((nI L).flatMap cInt) ∧ Below w.heap.size w wr) (fun iv _ _ => N - (intOf iv).toNat)
  case atStart => exact ⟨1, Nat.le_refl _, .inr rfl, rfl, hr3, hb3⟩
  case round =>
    clear hr3 hb3
    obtain ⟨i, hi1, hi2, rfl, hr, hbr⟩ := hrel
    by_cases hlt : i < N
    · obtain ⟨b, o, rfl, hbB, _⟩ := hr.2 (by omega)
      obtain ⟨m, hm⟩ : ∃ m, i - 1 = m := ⟨_, rfl⟩
      have ci := nI_cell hr HN.out.symm i hlt
      have cm := nI_cell hr HN.out.symm m (by omega)
      have hxy := rise_at Hrise.out (i := m) (j := i) (by omega) (by rw [← HN.out]; exact hlt)
      have ox := (Hmem.out (L.getD m 0)).1 (by rw [getD_some _ _ _ (by rw [← HN.out]; omega)]; exact List.getElem_mem _)
      have oy := (Hmem.out (L.getD i 0)).1 (by rw [getD_some _ _ _ (by rw [← HN.out]; exact hlt)]; exact List.getElem_mem _)
      have hsame := fun h => overlap_same ox oy hxy h
      have hys : L.getD i 0 ≤ 200 := by have := oy.1; have e : s.data.toList.length = s.size := rfl; omega
      have wm : IntKind.i64.wrap ((i : Int) - 1) = (m : Int) := by rw [IntKind.wrap_i64]; omega
      have em : (i : Int) - 1 = (m : Int) := by omega
      have hmN : (m : Int) < (N : Int) := by omega
      have hiN : (i : Int) < (N : Int) := by omega
      have hmN' : m < N := by omega
      clear ox oy hm
      generalize L.getD m 0 = x at *
      generalize L.getD i 0 = y at *
      obtain ⟨D, hD⟩ : ∃ D, y - x = D := ⟨_, rfl⟩
      rw [hD] at hsame
      have wd : IntKind.i64.wrap ((y : Int) - (x : Int)) = (D : Int) := by rw [IntKind.wrap_i64]; omega
      have ed : (y : Int) - (x : Int) = (D : Int) := by omega
      have f1 : decide ((D : Int) < 1) = false := decide_eq_false (by omega)
      have hD0 : 0 < D := by omega
      clear hD
      by_cases hlp : D < p.size
      · have f2 : decide (D < p.size) = true := decide_eq_true hlp
        have f2' : decide ((D : Int) < (p.size : Int)) = true := decide_eq_true (by omega)
        have hs2 := hsame hlp
        obtain ⟨G, hG⟩ : ∃ G, p.size - D = G := ⟨_, rfl⟩
        rw [hG] at hs2
        have wg : IntKind.i64.wrap ((p.size : Int) - (D : Int)) = (G : Int) := by rw [IntKind.wrap_i64]; omega
        have eg : (p.size : Int) - (D : Int) = (G : Int) := by omega
        have dp : (D : Int) ≤ p.size := by omega
        have gp : (G : Int) ≤ p.size := by omega
        have f3 : ((p.extract D p.size).toList == (p.extract 0 G).toList) = true := by rw [hs2]; simp
        clear hs2 hsame hG
        go_wp2
        go_quiet (fail)
        go_wp2
        go_quiet (fail)
        go_wp2
        clear em ed eg
        go_roundw
        case rel => exact ⟨i + 1, by omega, by omega, by go_num, hr.drewN _, below_drewN hbr _⟩
        case measure => simp [intOf]; omega
      · have f2 : decide (D < p.size) = false := decide_eq_false hlp
        have f2' : decide ((D : Int) < (p.size : Int)) = false := decide_eq_false (by omega)
        clear hsame
        go_wp2
        go_quiet (fail)
        go_wp2
        go_quiet (fail)
        go_wp2
        clear em ed
        go_roundw
        case rel => exact ⟨i + 1, by omega, by omega, by go_num, hr.drewN _, below_drewN hbr _⟩
        case measure => simp [intOf]; omega
    · go_wp2
      go_ret
      exact ⟨rfl, hbr⟩

end Go.Proofs.Ytmojfmoinaadgaa
