/- The walks of siftDownOrdered and heapSortOrdered at bytes. -/
import Derived.Test.YtpnpalbdlhlnkaaBs0
import Derived.Sort.WalkB3
namespace Go.Proofs.Ytpnpalbdlhlnkaa
open Go.RowKit Go.Sort
set_option linter.unusedVariables false

set_option maxHeartbeats 3200000 in
set_option maxRecDepth 1000000 in
theorem bSift (blk off cap : Nat) (d : Array UInt8) (lo hi first : Nat) (w : World) (hH : Holds c8 w blk off d) (hlo : lo ≤ hi) (hb : first + hi ≤ d.size) (hsz : d.size < 1000000000000) :
    Calls Try.prog 39 #[.slice (some ⟨blk, off, none⟩) d.size cap, .int .i64 lo, .int .i64 hi, .int .i64 first] w fun e w' => e = .returned (.tuple #[]) ∧ To8 w blk off (siftDown lt8 hi first lo d) w' := by
  go_enter Try.func39, Try.ntmps39
  go_wp2
  go_loopg [8] (hi - lo) (fun k s8 wr => ∃ (root : Nat) (dk : Array UInt8) (n : Nat), s8 = .int .i64 root ∧ root ≤ hi ∧ hi - root ≤ k ∧ dk.size = d.size ∧ wr = putRow c8 (Sort.ahead w n) blk off dk ∧ siftDown lt8 hi first root dk = siftDown lt8 hi first lo d)
  case atStart => exact ⟨lo, d, 0, rfl, hlo, Nat.le_refl _, rfl, (putRow_self c8 w blk off d hH).symm, rfl⟩
  case round =>
    obtain ⟨root, dk, n, rfl, hr, hk, hds, hwr, heq⟩ := hrel
    obtain ⟨G, hG, hcw, hfw⟩ := fam8 hH hds hwr
    have HG := Lib.hid hG
    have HW := Lib.hid hwr
    have HE := Lib.hid heq
    have HH := Lib.hid hH
    clear hwr hG hH heq
    by_cases h0 : hi ≤ 2 * root + 1
    · have h0z : (hi : Int) ≤ 2 * (root : Int) + 1 := by omega
      go_wp2
      go_end0
      exact ⟨rfl, n, by rw [HW.out, ← HE.out, sd_end lt8 dk h0]⟩
    · have h0z : ¬ ((hi : Int) ≤ 2 * (root : Int) + 1) := by omega
      have SL := Lib.hid (fun (h1 : 2 * root + 2 < hi → lt8 (G (first + 2 * root + 1)) (G (first + 2 * root + 2)) = false) => show
          (lt8 (G (first + root)) (G (first + 2 * root + 1)) = false → siftDown lt8 hi first root dk = dk) ∧ (lt8 (G (first + root)) (G (first + 2 * root + 1)) = true → siftDown lt8 hi first root dk = siftDown lt8 hi first (2 * root + 1) (swp dk (first + root) (first + (2 * root + 1)))) from by
        have h1' : 2 * root + 2 < hi → lt8 dk[first + (2 * root + 1)]! dk[first + (2 * root + 2)]! = false := fun h => by rw [← HG.out, ← HG.out]; exact h1 h
        rw [HG.out, HG.out]
        exact ⟨fun h => sd_left_stop lt8 dk (by omega) h1' h, fun h => sd_left_go lt8 dk (by omega) h1' h⟩)
      have SR := Lib.hid (fun (h1 : 2 * root + 2 < hi) (h2 : lt8 (G (first + 2 * root + 1)) (G (first + 2 * root + 2)) = true) => show
          (lt8 (G (first + root)) (G (first + 2 * root + 2)) = false → siftDown lt8 hi first root dk = dk) ∧ (lt8 (G (first + root)) (G (first + 2 * root + 2)) = true → siftDown lt8 hi first root dk = siftDown lt8 hi first (2 * root + 2) (swp dk (first + root) (first + (2 * root + 2)))) from by
        have h2' : lt8 dk[first + (2 * root + 1)]! dk[first + (2 * root + 2)]! = true := by rw [← HG.out, ← HG.out]; exact h2
        rw [HG.out, HG.out]
        exact ⟨fun h => sd_right_stop lt8 dk h1 h2' h, fun h => sd_right_go lt8 dk h1 h2' h⟩)
      by_cases h1 : 2 * root + 2 < hi
      · have h1z : 2 * (root : Int) + 1 + 1 < (hi : Int) := by omega
        go_wp2_with fail
        go_big_quiet (first | (go_at_call 25; refine Calls.quiet_of_same (less8 _ _ _)))
        go_wp2_with fail
        · have hL : lt8 (G (first + 2 * root + 1)) (G (first + 2 * root + 2)) = true := by assumption
          have S := Lib.hid (SR.out h1 hL)
          revert nq
          intro nq1
          have hcw2 : ∀ t, t < d.size → (wr.drewN nq1).cell? ⟨blk, off + t, none⟩ = some (.int .u8 ((G t).toNat : Int)) := hcw
          have hfw2 : ∀ t, t < d.size → (wr.drewN nq1).frozen? ⟨blk, off + t, none⟩ = false := hfw
          have HW2 := Lib.hid (drewN_world c8 HW.out nq1)
          clear hcw hfw HW
          generalize wr.drewN nq1 = wr2 at hcw2 hfw2 HW2 ⊢
          go_big_quiet (first | (go_at_call 25; refine Calls.quiet_of_same (less8 _ _ _)))
          go_wp2_with fail
          · have hS : lt8 (G (first + root)) (G (first + 2 * root + 2)) = false := by
              have : (!lt8 (G (first + root)) (G (first + 2 * root + 2))) = true := by assumption
              simpa using this
            (try simp only [Exit.inBlock, Exit.then]); refine bodyPost_ret (results_none rfl _ _ _) rfl ?_
            refine ⟨rfl, n + nq1 + nq, ?_⟩
            rw [drewN_world c8 HW2.out nq, ← HE.out, S.out.1 hS]
          · have hS : lt8 (G (first + root)) (G (first + 2 * root + 2)) = true := by
              have : (!lt8 (G (first + root)) (G (first + 2 * root + 2))) = false := by assumption
              simpa using this
            have hcw3 : ∀ t, t < d.size → (wr2.drewN nq).cell? ⟨blk, off + t, none⟩ = some (.int .u8 ((G t).toNat : Int)) := hcw2
            have hfw3 : ∀ t, t < d.size → (wr2.drewN nq).frozen? ⟨blk, off + t, none⟩ = false := hfw2
            have HW3 := Lib.hid (drewN_world c8 HW2.out nq)
            clear hcw2 hfw2 HW2
            generalize wr2.drewN nq = wr3 at hcw3 hfw3 HW3 ⊢
            go_region
            go_wp2
            go_roundg (hi - (2 * root + 2))
            case measure => omega
            case rel =>
              refine ⟨2 * root + 2, swp dk (first + root) (first + (2 * root + 2)), n + nq1 + nq + 1, by simp <;> omega, by omega, Nat.le_refl _, by rw [size_swp]; exact hds, ?_, ?_⟩
              · rw [HW3.out, HG.out, HG.out]
                exact swap_worldA c8 w (n + nq1 + nq) 1 blk off dk (first + root) (first + (2 * root + 2)) (by omega) (by omega)
              · rw [← HE.out, S.out.2 hS]
        · have hL : lt8 (G (first + 2 * root + 1)) (G (first + 2 * root + 2)) = false := by assumption
          have S := Lib.hid (SL.out fun _ => hL)
          revert nq
          intro nq1
          have hcw2 : ∀ t, t < d.size → (wr.drewN nq1).cell? ⟨blk, off + t, none⟩ = some (.int .u8 ((G t).toNat : Int)) := hcw
          have hfw2 : ∀ t, t < d.size → (wr.drewN nq1).frozen? ⟨blk, off + t, none⟩ = false := hfw
          have HW2 := Lib.hid (drewN_world c8 HW.out nq1)
          clear hcw hfw HW
          generalize wr.drewN nq1 = wr2 at hcw2 hfw2 HW2 ⊢
          go_big_quiet (first | (go_at_call 25; refine Calls.quiet_of_same (less8 _ _ _)))
          go_wp2_with fail
          · have hS : lt8 (G (first + root)) (G (first + 2 * root + 1)) = false := by
              have : (!lt8 (G (first + root)) (G (first + 2 * root + 1))) = true := by assumption
              simpa using this
            (try simp only [Exit.inBlock, Exit.then]); refine bodyPost_ret (results_none rfl _ _ _) rfl ?_
            refine ⟨rfl, n + nq1 + nq, ?_⟩
            rw [drewN_world c8 HW2.out nq, ← HE.out, S.out.1 hS]
          · have hS : lt8 (G (first + root)) (G (first + 2 * root + 1)) = true := by
              have : (!lt8 (G (first + root)) (G (first + 2 * root + 1))) = false := by assumption
              simpa using this
            have hcw3 : ∀ t, t < d.size → (wr2.drewN nq).cell? ⟨blk, off + t, none⟩ = some (.int .u8 ((G t).toNat : Int)) := hcw2
            have hfw3 : ∀ t, t < d.size → (wr2.drewN nq).frozen? ⟨blk, off + t, none⟩ = false := hfw2
            have HW3 := Lib.hid (drewN_world c8 HW2.out nq)
            clear hcw2 hfw2 HW2
            generalize wr2.drewN nq = wr3 at hcw3 hfw3 HW3 ⊢
            go_region
            go_wp2
            go_roundg (hi - (2 * root + 1))
            case measure => omega
            case rel =>
              refine ⟨2 * root + 1, swp dk (first + root) (first + (2 * root + 1)), n + nq1 + nq + 1, by simp <;> omega, by omega, Nat.le_refl _, by rw [size_swp]; exact hds, ?_, ?_⟩
              · rw [HW3.out, HG.out, HG.out]
                exact swap_worldA c8 w (n + nq1 + nq) 1 blk off dk (first + root) (first + (2 * root + 1)) (by omega) (by omega)
              · rw [← HE.out, S.out.2 hS]
      · have h1z : decide (2 * (root : Int) + 1 + 1 < (hi : Int)) = false := decide_eq_false (by omega)
        have S := Lib.hid (SL.out fun h => absurd h h1)
        go_wp2_with fail
        go_big_quiet (first | (go_at_call 25; refine Calls.quiet_of_same (less8 _ _ _)))
        go_wp2_with fail
        revert nq
        intro nq1
        have hcw2 : ∀ t, t < d.size → (wr.drewN nq1).cell? ⟨blk, off + t, none⟩ = some (.int .u8 ((G t).toNat : Int)) := hcw
        have hfw2 : ∀ t, t < d.size → (wr.drewN nq1).frozen? ⟨blk, off + t, none⟩ = false := hfw
        have HW2 := Lib.hid (drewN_world c8 HW.out nq1)
        clear hcw hfw HW
        generalize wr.drewN nq1 = wr2 at hcw2 hfw2 HW2 ⊢
        go_big_quiet (first | (go_at_call 25; refine Calls.quiet_of_same (less8 _ _ _)))
        go_wp2_with fail
        · have hS : lt8 (G (first + root)) (G (first + 2 * root + 1)) = false := by
            have : (!lt8 (G (first + root)) (G (first + 2 * root + 1))) = true := by assumption
            simpa using this
          (try simp only [Exit.inBlock, Exit.then]); refine bodyPost_ret (results_none rfl _ _ _) rfl ?_
          refine ⟨rfl, n + nq1 + nq, ?_⟩
          rw [drewN_world c8 HW2.out nq, ← HE.out, S.out.1 hS]
        · have hS : lt8 (G (first + root)) (G (first + 2 * root + 1)) = true := by
            have : (!lt8 (G (first + root)) (G (first + 2 * root + 1))) = false := by assumption
            simpa using this
          have hcw3 : ∀ t, t < d.size → (wr2.drewN nq).cell? ⟨blk, off + t, none⟩ = some (.int .u8 ((G t).toNat : Int)) := hcw2
          have hfw3 : ∀ t, t < d.size → (wr2.drewN nq).frozen? ⟨blk, off + t, none⟩ = false := hfw2
          have HW3 := Lib.hid (drewN_world c8 HW2.out nq)
          clear hcw2 hfw2 HW2
          generalize wr2.drewN nq = wr3 at hcw3 hfw3 HW3 ⊢
          go_region
          go_wp2
          go_roundg (hi - (2 * root + 1))
          case measure => omega
          case rel =>
            refine ⟨2 * root + 1, swp dk (first + root) (first + (2 * root + 1)), n + nq1 + nq + 1, by simp <;> omega, by omega, Nat.le_refl _, by rw [size_swp]; exact hds, ?_, ?_⟩
            · rw [HW3.out, HG.out, HG.out]
              exact swap_worldA c8 w (n + nq1 + nq) 1 blk off dk (first + root) (first + (2 * root + 1)) (by omega) (by omega)
            · rw [← HE.out, S.out.2 hS]
end Go.Proofs.Ytpnpalbdlhlnkaa
