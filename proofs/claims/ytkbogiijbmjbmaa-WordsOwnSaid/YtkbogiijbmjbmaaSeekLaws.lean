/- The walk of the laws' helper seeks; quiet calls in regions. -/
import Derived.Test.YtkbogiijbmjbmaaSeekWalk
import Derived.Test.YtkbogiijbmjbmaaEqual
import Derived.Test.YtkbogiijbmjbmaaContains
import Derived.Test.YtkbogiijbmjbmaaPrefix
namespace Go.Proofs.Ytkbogiijbmjbmaa
open Go.RowKit
set_option linter.unusedVariables false

theorem quiet_left {P : Program} {f : FuncId} {args : Array Value} {w : World} {n : Nat} {v : Value}
    (h : Calls P f args (w.drewN n) fun e w' => e = .returned v ∧ w.drewN n = w') : Calls P f args (w.drewN n) fun e w'' => e = .returned v ∧ ∃ m, w'' = w.drewN m :=
  h.mono fun _ _ ⟨he, hm⟩ => ⟨he, n, hm.symm⟩
theorem quiet_add_left {P : Program} {f : FuncId} {args : Array Value} {w : World} {a n : Nat} {v : Value}
    (h : Calls P f args (w.drewN (a + n)) fun e w' => e = .returned v ∧ w.drewN (a + n) = w') :
    Calls P f args (w.drewN (a + n)) fun e w'' => e = .returned v ∧ ∃ m, w'' = w.drewN (a + m) :=
  h.mono fun _ _ ⟨he, hm⟩ => ⟨he, n, hm.symm⟩

theorem find_known : nI (findOf (ByteArray.mk #[97, 98, 97, 98]).data.toList (ByteArray.mk #[97, 98]).data.toList) = [0, 2] := by decide +kernel

set_option maxHeartbeats 1000000 in
theorem seeks_any (w : World) : Calls Try.prog 5 #[] w fun e w' => e = .returned (.bool true) ∧ Below w.heap.size w w' := by
  have c1 : ∀ w, Calls Try.prog 21 #[.string ⟨#[97, 98, 97, 98]⟩, .string ⟨#[97, 98]⟩] w fun e w' => ∃ A c, e = .returned (.tuple #[.slice A 2 c, .int .i64 0]) ∧ Reads w' w'.heap.size A 2 1 [.int .i64 0, .int .i64 2] ∧ Below w.heap.size w w' := fun w =>
    (find_ok ⟨#[97, 98, 97, 98]⟩ ⟨#[97, 98]⟩ (by decide) w).mono fun e w' ⟨A, c, he, hr, hb, _⟩ => by
      rw [find_known] at he hr
      exact ⟨A, c, he, hr, hb⟩
  have C1 := Lib.hid c1
  clear c1
  go_enter Try.func5, Try.ntmps5
  go_wp2_with fail
  refine (C1.out _).mono ?_
  rintro e w1 ⟨A1, c1, rfl, hr1, hb1⟩
  go_wp2_with fail
  refine (equalInt_any A1 _ 2 2 c1 2 _ _ [0, 2] [0, 2] _ (by decide) (by decide) rfl rfl (hr1.alloc (Nat.le_refl _) _) (Reads.of_fresh w1 #[.int .i64 0, .int .i64 2] _ 2 1 rfl)).mono ?_
  rintro e w2 ⟨rfl, hb2⟩
  have hbw2 : Below w.heap.size w w2 := (hb1.alloc hb1.size _).trans (hb2.mono (by have := hb1.size; simp; omega))
  have q0 : decide (([0, 2] : List Int) = [0, 2]) = true := by decide
  go_wp2
  go_ret
  exact ⟨rfl, hbw2⟩

theorem mem_nI (x : Nat) (L : List Nat) : ((x : Nat) : Int) ∈ nI L ↔ x ∈ L := by
  unfold nI
  rw [List.mem_map]
  exact ⟨fun ⟨y, hy, e⟩ => by rw [show x = y from by omega]; exact hy, fun h => ⟨x, h, rfl⟩⟩
/-- A number of a list that is told. -/
theorem nI_cell {w : World} {B N : Nat} {b o : Nat} {L : List Nat} (h : Reads w B (some ⟨b, o, none⟩) N 1 ((nI L).flatMap cInt)) (hN : L.length = N) (j : Nat) (hj : j < N) : w.cell? ⟨b, o + j, none⟩ = some (.int .i64 ((L.getD j 0 : Nat) : Int)) := by
  obtain ⟨b', o', hA, _, hc⟩ := h.2 (by omega)
  injection hA with hA
  injection hA with e1 e2
  subst e1 e2
  have c0 := hc (j * 1 + 0) (by rw [flat_length cInt 1 cInt_len, nI_length, hN]; omega)
  rw [flat_getD cInt 1 cInt_len 0 (nI L) j _ (by rw [nI_length, hN]; exact hj) (by omega)] at c0
  have e0 : (nI L).getD j 0 = ((L.getD j 0 : Nat) : Int) := getD_map (fun p : Nat => (p : Int)) L j 0
  simp only [cInt, List.getD_cons_zero, Nat.mul_one, Nat.add_zero] at c0
  rw [e0] at c0
  exact c0
theorem rise_at {L : List Nat} (h : L.Pairwise (· < ·)) {i j : Nat} (hij : i < j) (hj : j < L.length) : L.getD i 0 < L.getD j 0 := by
  rw [getD_some _ _ _ (by omega), getD_some _ _ _ hj]
  exact List.pairwise_iff_getElem.1 h i j (by omega) hj hij

end Go.Proofs.Ytkbogiijbmjbmaa
