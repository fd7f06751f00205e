/- The walk of code.Front. -/
import Derived.Test.YtafpcekemlgclaaGreatDoorCodeCheck
import Derived.Test.YtafpcekemlgclaaGreatDoorPrefix
namespace Go.Proofs.YtafpcekemlgclaaGreatDoor
open Go.RowKit
set_option linter.unusedVariables false

/-- None begins another one. -/
def FrontP (l : List Wd) : Prop := ∀ i k, i < l.length → k < l.length → i ≠ k → ¬ l.getD i [] <+: l.getD k []
open Classical in
noncomputable def frontB (l : List Wd) : Bool := decide (checkC l = 0 ∧ FrontP l)
theorem wds_getD (l : List ByteArray) (k : Nat) : (wds l).getD k [] = wd (l.getD k ByteArray.empty) := by
  unfold wds
  rw [List.getD_eq_getElem?_getD, List.getElem?_map, List.getD_eq_getElem?_getD]
  cases l[k]? <;> rfl
open Classical in
theorem frontB_iff (l : List Wd) : frontB l = true ↔ checkC l = 0 ∧ FrontP l := by unfold frontB; exact decide_eq_true_iff
theorem frontB_no {l : List Wd} (h : ¬ (checkC l = 0 ∧ FrontP l)) : frontB l = false := by
  cases hb : frontB l
  · rfl
  · exact absurd ((frontB_iff l).1 hb) h

set_option maxHeartbeats 2000000 in
theorem codeFront_any (A : Option Addr) (n c B : Nat) (l : List ByteArray) (w : World) (hn : n ≤ 1125899906842624) (hnc : n ≤ c) (hl : l.length = n) (hz : ∀ p ∈ l, p.size ≤ 140737488351232) (h : Reads w B A n 1 (l.flatMap cStr)) (hB : B ≤ w.heap.size) :
    Calls Tryz.prog 9 #[.slice A n c] w fun e w' => e = .returned (.tuple #[.bool (frontB (wds l)), .int .i64 (checkC (wds l))]) ∧ Below w.heap.size w w' := by
  have HC := Lib.hid (codeCheck_any A n c B l w hn hnc hl hz h hB)
  have hwl : (wds l).length = n := by unfold wds; rw [List.length_map, hl]
  obtain ⟨R, hR⟩ : ∃ R, R = frontB (wds l) := ⟨_, rfl⟩
  rw [← hR]
  by_cases hc : checkC (wds l) = 0
  case neg =>
    obtain rfl : R = false := by rw [hR]; exact frontB_no fun h => hc h.1
    have q1 : (checkC (wds l) != 0) = true := by simpa using hc
    generalize checkC (wds l) = E at *
    go_enter Tryz.func9, Tryz.ntmps9
    go_wp2_with fail
    refine HC.out.mono ?_
    rintro e w1 ⟨rfl, hb1⟩
    go_wp2
    go_ret2
    exact ⟨rfl, hb1⟩
  have hRt : FrontP (wds l) → R = true := fun h => by rw [hR]; exact (frontB_iff _).2 ⟨hc, h⟩
  have hRf : ∀ i k, i < n → k < n → i ≠ k → wd (l.getD i ByteArray.empty) <+: wd (l.getD k ByteArray.empty) → R = false := fun i k h1 h2 h3 h4 => by
    rw [hR]
    refine frontB_no fun h => h.2 i k (by omega) (by omega) h3 ?_
    rw [wds_getD, wds_getD]; exact h4
  have HRt := Lib.hid hRt
  have HRf := Lib.hid hRf
  have Hl := Lib.hid hl
  have Hz := Lib.hid hz
  have Hwl := Lib.hid hwl
  rw [hc] at HC ⊢
  clear hR hRt hRf hl hz hc hwl
  go_enter Tryz.func9, Tryz.ntmps9
  go_wp2_with fail
  refine HC.out.mono ?_
  rintro e w1 ⟨rfl, hb1⟩
  have h := h.below (hb1.mono hB)
  go_wp2
  go_loopw [5, 6, 7, 8, 16, 23] (fun _ _ _ _ iv _ wr => ∃ i : Nat, i ≤ n ∧ iv = .int .i64 i ∧ wr = w1 ∧ Hid (∀ j k, j < i → k < n → j ≠ k → ¬ wd (l.getD j ByteArray.empty) <+: wd (l.getD k ByteArray.empty))) (fun _ _ _ _ iv _ _ => n - (intOf iv).toNat)
  case atStart => exact ⟨0, Nat.zero_le _, rfl, rfl, Lib.hid (fun j k hj => by omega)⟩
  case round =>
    obtain ⟨i, hi, rfl, rfl, Hi⟩ := hrel
    by_cases hlt : i < n
    · obtain ⟨b, o, rfl, hbB, hc⟩ := h.2 (by omega)
      have cell : ∀ k, k < n → wr.cell? ⟨b, o + k, none⟩ = some (.string (l.getD k ByteArray.empty)) := fun k hk => by
        have c0 := hc (k * 1 + 0) (by rw [flat_length cStr 1 cStr_len, Hl.out]; omega)
        rw [flat_getD cStr 1 cStr_len ByteArray.empty l k _ (by rw [Hl.out]; omega) (by omega)] at c0
        simpa only [cStr, List.getD_cons_zero, Nat.mul_one, Nat.add_zero] using c0
      have size : ∀ k, k < n → (l.getD k ByteArray.empty).size ≤ 140737488355328 := fun k hk => by
        have := Hz.out (l.getD k ByteArray.empty) (by rw [getD_some _ _ _ (by rw [Hl.out]; omega)]; exact List.getElem_mem _)
        omega
      have ci := cell i hlt
      have Cell := Lib.hid cell
      have Size := Lib.hid size
      clear hc cell size
      obtain ⟨x, hx⟩ : ∃ x, x = l.getD i ByteArray.empty := ⟨_, rfl⟩
      rw [← hx] at ci
      have Hx := Lib.hid hx
      clear hx
      go_wp2
      go_loopw [7, 8, 23] (fun _ _ kv W => ∃ k : Nat, k ≤ n ∧ kv = .int .i64 k ∧ W = wr ∧ Hid (∀ j, j < k → i ≠ j → ¬ wd x <+: wd (l.getD j ByteArray.empty))) (fun _ _ kv _ => n - (intOf kv).toNat)
      case atStart => exact ⟨0, Nat.zero_le _, rfl, rfl, Lib.hid (fun j hj => by omega)⟩
      case round =>
        obtain ⟨k, hk, rfl, rfl, Hk⟩ := hrel
        by_cases hkn : k < n
        · have ck := Cell.out k hkn
          have hp := hasPrefix_any (l.getD k ByteArray.empty) x (Size.out k hkn) (by rw [Hx.out]; exact Size.out i hlt)
          have hpi := preB_iff (l.getD k ByteArray.empty) x
          obtain ⟨y, hy⟩ : ∃ y, y = l.getD k ByteArray.empty := ⟨_, rfl⟩
          rw [← hy] at ck hp hpi
          have Hy := Lib.hid hy
          have HP := Lib.hid hp
          clear hy hp
          by_cases hik : i = k
          · have q1 : ((i : Int) != (k : Int)) = false := by rw [hik]; simp
            have q1' : ((i : Int) == (k : Int)) = true := by rw [hik]; simp
            have hnx : ∀ j, j < k + 1 → i ≠ j → ¬ wd x <+: wd (l.getD j ByteArray.empty) := fun j hj hij => Hk.out j (by omega) hij
            have Hnx := Lib.hid hnx
            clear hik hnx hpi
            go_wp2
            go_roundw
            case rel => exact ⟨k + 1, by omega, by go_num, trivial, Hnx⟩
            case measure => simp [intOf]; omega
          · have q1 : ((i : Int) != (k : Int)) = true := by rw [bne_iff_ne]; omega
            have q1' : ((i : Int) == (k : Int)) = false := by rw [beq_eq_false_iff_ne]; omega
            cases hpb : preB y x
            · rw [hpb] at HP hpi
              have hnx : ∀ j, j < k + 1 → i ≠ j → ¬ wd x <+: wd (l.getD j ByteArray.empty) := fun j hj hij => by
                by_cases e : j = k
                · rw [e, ← Hy.out]; intro h; have := hpi.2 h; cases this
                · exact Hk.out j (by omega) hij
              have Hnx := Lib.hid hnx
              clear hik hnx hpi hpb
              go_wp2_with fail
              refine (HP.out _).mono ?_
              rintro e w2 ⟨rfl, rfl⟩
              go_wp2
              go_roundw
              case rel => exact ⟨k + 1, by omega, by go_num, trivial, Hnx⟩
              case measure => simp [intOf]; omega
            · rw [hpb] at HP hpi
              obtain rfl : R = false := HRf.out i k hlt hkn hik (by rw [← Hx.out, ← Hy.out]; exact hpi.1 rfl)
              clear hik hpi hpb
              go_wp2_with fail
              refine (HP.out _).mono ?_
              rintro e w2 ⟨rfl, rfl⟩
              go_wp2
              go_ret2
              exact ⟨rfl, hb1⟩
        · obtain rfl : k = n := by omega
          have hnx : ∀ j m, j < i + 1 → m < k → j ≠ m → ¬ wd (l.getD j ByteArray.empty) <+: wd (l.getD m ByteArray.empty) := fun j m hj hm hjm => by
            by_cases e : j = i
            · rw [e, ← Hx.out]; exact Hk.out m hm (by omega)
            · exact Hi.out j m (by omega) hm hjm
          have Hnx := Lib.hid hnx
          clear hnx
          go_wp2
          go_roundw
          case rel => exact ⟨i + 1, by omega, by go_num, trivial, Hnx⟩
          case measure => simp [intOf]; omega
    · obtain rfl : i = n := by omega
      obtain rfl : R = true := HRt.out fun j k hj hk hjk => by
        rw [wds_getD, wds_getD]
        exact Hi.out j k (by rw [Hwl.out] at hj; exact hj) (by rw [Hwl.out] at hk; exact hk) hjk
      go_wp2
      go_ret2
      exact ⟨rfl, hb1⟩
end Go.Proofs.YtafpcekemlgclaaGreatDoor
