/- PhraseFew: k distinct phrases of one byte value have at least 1 + 2 + ... + k bytes, with equality for runs. -/
import Derived.Test.YtjdmfpoiniocmaaPhraseLaws
import Derived.Test.YtjdmfpoiniocmaaLaidRepeat
import Derived.Test.YtjdmfpoiniocmaaKeep
namespace Go.Proofs.Ytjdmfpoiniocmaa
open Go.RowKit
set_option linter.unusedVariables false

/-- The texts of a run: 0 to k of the byte. -/
def runT (c : UInt8) (k : Nat) : List (List UInt8) := (List.range (k + 1)).map fun j => List.replicate j c
theorem runT_succ (c : UInt8) (k : Nat) : runT c (k + 1) = runT c k ++ [List.replicate (k + 1) c] := by
  unfold runT
  rw [List.range_succ, List.map_append]; rfl
theorem runT_mem {c : UInt8} {k j : Nat} (h : j ≤ k) : List.replicate j c ∈ runT c k := List.mem_map.2 ⟨j, List.mem_range.2 (by omega), rfl⟩
theorem runT_len {c : UInt8} {k : Nat} {t : List UInt8} (h : t ∈ runT c k) : t.length ≤ k := by
  obtain ⟨j, hj, rfl⟩ := List.mem_map.1 h
  rw [List.mem_range] at hj
  rw [List.length_replicate]; omega
theorem tri_succ (k : Nat) : (k + 1) * (k + 1 + 1) / 2 = k * (k + 1) / 2 + k + 1 := by
  rw [show (k + 1) * (k + 1 + 1) = k * (k + 1) + (k + 1) * 2 from by rw [Nat.mul_add (k + 1) (k + 1) 1, Nat.mul_two]; have : (k + 1) * (k + 1) = k * (k + 1) + (k + 1) := Nat.succ_mul k (k + 1); omega, Nat.add_mul_div_right _ _ (by omega)]
  omega
/-- How long the best one is. -/
theorem run_best {c : UInt8} {n k : Nat} {x : PhS} (h : InvP (List.replicate n c) x) (hT : x.2.1 = runT c k) : lenOf (List.replicate n c) x = min k (n - x.2.2) := by
  have hat := h.at_le
  rw [List.length_replicate] at hat
  have h1 : lenOf (List.replicate n c) x ≤ k := by
    have hb := getD_mem' (d := []) (best_lt h)
    rw [hT] at hb
    unfold lenOf
    rw [hT]
    exact runT_len hb
  have h2 := lenOf_le h
  rw [List.length_replicate] at h2
  have h3 : min k (n - x.2.2) ≤ lenOf (List.replicate n c) x := by
    have hm : List.replicate (min k (n - x.2.2)) c ∈ x.2.1 := by rw [hT]; exact runT_mem (Nat.min_le_left _ _)
    have := best_longest h hm (by
      rw [List.drop_replicate]
      refine ⟨List.replicate (n - x.2.2 - min k (n - x.2.2)) c, ?_⟩
      rw [List.replicate_append_replicate]
      congr 1
      omega)
    rwa [List.length_replicate] at this
  omega
theorem run_phS (c : UInt8) (n : Nat) : ∀ k, (∀ j, j < k → goesP (List.replicate n c) (phS (List.replicate n c) j)) → (phS (List.replicate n c) k).2.1 = runT c k ∧ (phS (List.replicate n c) k).2.2 = k * (k + 1) / 2
  | 0, _ => ⟨rfl, rfl⟩
  | k + 1, h => by
    obtain ⟨h1, h2⟩ := run_phS c n k fun j hj => h j (by omega)
    have hg := h k (by omega)
    have hI := inv_phS (List.replicate n c) k
    have hl := run_best hI h1
    have hg' : (phS (List.replicate n c) k).2.2 + lenOf (List.replicate n c) (phS (List.replicate n c) k) < (List.replicate n c).length := hg
    rw [List.length_replicate, hl] at hg'
    have hlk : lenOf (List.replicate n c) (phS (List.replicate n c) k) = k := by omega
    rw [phS, stepP, if_pos hg]
    refine ⟨?_, ?_⟩
    · show (phS (List.replicate n c) k).2.1 ++ [_] = _
      rw [h1, runT_succ, hlk, List.drop_replicate, List.take_replicate, show min (k + 1) (n - (phS (List.replicate n c) k).2.2) = k + 1 from by omega]
    · show (phS (List.replicate n c) k).2.2 + _ + 1 = _
      rw [hlk, h2, tri_succ]
theorem run_put (c : UInt8) (n : Nat) : (putP (List.replicate n c)).1.length * ((putP (List.replicate n c)).1.length + 1) / 2 + (n - (putP (List.replicate n c)).2.2) = n ∧ n - (putP (List.replicate n c)).2.2 ≤ (putP (List.replicate n c)).1.length := by
  obtain ⟨k, h1, h2, h3, h4⟩ := putP_ends (List.replicate n c)
  obtain ⟨e1, e2⟩ := run_phS c n k h1
  have hI := inv_phS (List.replicate n c) k
  have hl := run_best hI e1
  have hat := hI.at_le
  rw [List.length_replicate] at hat
  have h2' : ¬ ((phS (List.replicate n c) k).2.2 + lenOf (List.replicate n c) (phS (List.replicate n c) k) < (List.replicate n c).length) := h2
  rw [List.length_replicate, hl] at h2'
  rw [h4, h3, e2]
  rw [e2] at h2' hat
  omega
theorem put_few (s : List UInt8) : (putP s).1.length ≤ s.length := Nat.le_trans (putP_inv s).many (putP_inv s).at_le

theorem few_core (n : Nat) (hn : n ≤ 200) : ∃ (X R : ByteArray) (k m : Nat), (∀ w, Calls Try.prog 29 #[.string ⟨#[120]⟩, .int .i64 (n : Int)] w fun e w' => e = .returned (.string X) ∧ Below w.heap.size w w') ∧
    (∀ w, Calls Try.prog 28 #[.string X] w fun e w' => ∃ A c, e = .returned (.tuple #[.slice A k c, .string R, .int .i64 0]) ∧ Below w.heap.size w w') ∧
    k ≤ 200 ∧ (k : Int) * ((k : Int) + 1) = (m : Int) ∧ m ≤ 40200 ∧ m / 2 + R.size = n ∧ R.size ≤ k := by
  obtain ⟨r1, r2⟩ := run_put 120 n
  have hx2 : (⟨(List.replicate n (120 : UInt8)).toArray⟩ : ByteArray).data.toList = List.replicate n 120 := rfl
  have hsz : (⟨(List.replicate n (120 : UInt8)).toArray⟩ : ByteArray).size ≤ 200 := by
    show ((List.replicate n (120 : UInt8)).toArray).size ≤ 200
    rw [List.size_toArray, List.length_replicate]; exact hn
  have hk : (putP (List.replicate n (120 : UInt8))).1.length ≤ 200 := by
    have := put_few (List.replicate n (120 : UInt8))
    rw [List.length_replicate] at this
    omega
  refine ⟨⟨(List.replicate n (120 : UInt8)).toArray⟩, ba ((List.replicate n (120 : UInt8)).drop (putP (List.replicate n 120)).2.2), (putP (List.replicate n (120 : UInt8))).1.length, (putP (List.replicate n (120 : UInt8))).1.length * ((putP (List.replicate n (120 : UInt8))).1.length + 1), fun w => ?_, fun w => ?_, hk, ?_, ?_, ?_, ?_⟩
  · have h := repeat_any ⟨#[120]⟩ n w (by omega) (by rw [show (⟨#[120]⟩ : ByteArray).size = 1 from rfl]; omega)
    have hx : (⟨#[120]⟩ : ByteArray).data.toList = List.replicate 1 120 := rfl
    rw [hx, Lib.repeatL_replicate, Nat.mul_one] at h
    exact h
  · have h := phrasePut_ok ⟨(List.replicate n (120 : UInt8)).toArray⟩ hsz w
    rw [hx2] at h
    exact h.mono fun e w' ⟨A, c, he, _, hb, _⟩ => ⟨A, c, he, hb⟩
  · push_cast; rfl
  · have := Nat.mul_le_mul hk (show (putP (List.replicate n (120 : UInt8))).1.length + 1 ≤ 201 from by omega)
    omega
  · rw [ba_size, List.length_drop, List.length_replicate]; exact r1
  · rw [ba_size, List.length_drop, List.length_replicate]; exact r2

set_option maxRecDepth 100000 in
set_option maxHeartbeats 4000000 in
theorem phraseFew_walk (s : ByteArray) (n0 : Int) (hs : s.size ≤ 140737488351232) (hn0 : (Lit.int .i64 n0).wf = true) {w : World} :
    Calls Try.prog 7 #[.string s, .int .i64 n0] w fun e w' => e = .returned (.bool true) ∧ Below w.heap.size w w' := by
  clear hn0
  obtain ⟨n, hn, hwin⟩ : ∃ n : Nat, n ≤ 200 ∧ ∀ w, Calls Try.prog 20 #[.int .i64 n0, .int .i64 201] w fun e w' => e = .returned (.int .i64 (n : Int)) ∧ w = w' := by
    have e1 := Int.emod_nonneg n0 (show (201 : Int) ≠ 0 by omega)
    have e2 := Int.emod_lt_of_pos n0 (show (0 : Int) < 201 by omega)
    refine ⟨(n0 % 201).toNat, by omega, fun w => ?_⟩
    rw [Int.toNat_of_nonneg e1]
    exact within_any n0 201 (by omega) (by omega) w
  have Hwin := Lib.hid hwin
  clear hwin
  by_cases hs2 : 200 < s.size
  · have HP := Lib.hid (phrasePut_no s hs2)
    go_enter Try.func7, Try.ntmps7
    go_wp2_with fail
    refine (phrases_any _).mono ?_
    rintro e w1 ⟨rfl, hb1⟩
    go_wp2_with fail
    refine (HP.out w1).mono ?_
    rintro e w2 ⟨rfl, rfl⟩
    go_wp2
    go_ret
    exact ⟨rfl, hb1⟩
  have hp := phrasePut_ok s (by omega)
  have hfew := put_few s.data.toList
  have hsl : s.data.toList.length = s.size := rfl
  rw [hsl] at hfew
  generalize (putP s.data.toList).1 = F at *
  generalize (putP s.data.toList).2.2 = F2 at *
  have HP := Lib.hid hp
  obtain ⟨X, R, k, m, hrep, hput, hk, hmI, hmk, hr1, hr2⟩ := few_core n hn
  have Hrep := Lib.hid hrep
  have Hput := Lib.hid hput
  have hw : (m : Int) / 2 + (R.size : Int) = (n : Int) := by omega
  have hr2' : (R.size : Int) ≤ (k : Int) := by omega
  have hfew' : (F.length : Int) ≤ (s.size : Int) := by omega
  have Hr1 := Lib.hid hr1
  obtain ⟨K, hK⟩ : ∃ K, K = F.length := ⟨_, rfl⟩
  rw [← hK] at HP hfew hfew'
  clear hrep hput hr1 hsl hK hp hs
  go_enter Try.func7, Try.ntmps7
  go_wp2_with fail
  refine (phrases_any _).mono ?_
  rintro e w1 ⟨rfl, hb1⟩
  go_wp2_with fail
  refine (HP.out w1).mono ?_
  rintro e w2 ⟨A2, c2, rfl, _, hb2, _⟩
  have hbw2 := chain hb2 hb1
  clear hb1 hb2
  go_wp2_with fail
  refine (Hwin.out w2).mono ?_
  rintro e w3 ⟨rfl, rfl⟩
  go_wp2_with fail
  refine (Hrep.out _).mono ?_
  rintro e w3 ⟨rfl, hb3⟩
  go_wp2_with fail
  refine (Hput.out w3).mono ?_
  rintro e w4 ⟨A4, c4, rfl, hb4⟩
  have hbw4 := chain hb4 (chain hb3 hbw2)
  clear hb3 hb4 hbw2
  go_wp2
  go_ret
  exact ⟨rfl, hbw4⟩
end Go.Proofs.Ytjdmfpoiniocmaa
