/- The walks of the laws' helpers cut (at most so many bytes) and back (from behind), and of slices.Reverse on bytes. -/
import Derived.Test.YtafpcekemlgclaaGreatDoorRows
import Derived.Test.YtafpcekemlgclaaGreatDoorLib
import Derived.Test.YtafpcekemlgclaaGreatDoorPlain
import Derived.RegionTactic
import Derived.ChangeAlike
import Derived.Lib.Strings
namespace Go.Proofs.YtafpcekemlgclaaGreatDoor
open Go.RowKit
set_option linter.unusedVariables false

theorem ba_ext {a b : ByteArray} (h : a.data.toList = b.data.toList) : a = b := by
  obtain ⟨⟨a⟩⟩ := a
  obtain ⟨⟨b⟩⟩ := b
  simp at h
  rw [h]
theorem ba_of (a : ByteArray) : ByteArray.mk a.data.toList.toArray = a := ba_ext (by simp)


/-- Where the first k places at either end have been exchanged. -/
def revd (l : List UInt8) (k j : Nat) : UInt8 := if j < k ∨ l.length ≤ j + k then l.getD (l.length - 1 - j) 0 else l.getD j 0

set_option maxHeartbeats 800000 in
theorem reverse_any (B g n c : Nat) (l : List UInt8) (hl : l.length = n) (hn : n ≤ 140737488355328) (hg : B ≤ g) (w0 w : World) (hb : Below B w0 w) (hat : BytesAt w g l) :
    Calls Tryz.prog 11 #[.slice (some ⟨g, 0, none⟩) n c] w fun e w' => e = .returned (.tuple #[]) ∧ Below B w0 w' ∧ BytesAt w' g l.reverse := by
  have Hl := Lib.hid hl
  go_enter Tryz.func11, Tryz.ntmps11
  go_wp2
  go_loopw [2, 3] (fun i j wr => ∃ (k : Nat) (l' : List UInt8), 2 * k ≤ n + 1 ∧ i = .int .i64 k ∧ j = .int .i64 ((n : Int) - 1 - k) ∧ l'.length = n ∧ BytesAt wr g l' ∧ Below B w0 wr ∧ ∀ x, x < n → l'.getD x 0 = revd l k x)
    (fun i _ _ => n + 1 - 2 * (intOf i).toNat)
  case atStart => exact ⟨0, l, by omega, rfl, by go_num, hl, hat, hb, fun x hx => by unfold revd; rw [if_neg (by omega)]⟩
  case round =>
    clear hat hb hl
    obtain ⟨k, l', hk, rfl, rfl, hl', hat, hb, hv⟩ := hrel
    have Hl' := Lib.hid hl'
    have Hv := Lib.hid hv
    clear hl' hv
    by_cases hlt : 2 * k + 1 < n
    · obtain ⟨m, hm⟩ : ∃ m : Nat, n = k + m + 1 ∧ k < m := ⟨n - 1 - k, by omega, by omega⟩
      obtain ⟨hnm, hkm⟩ := hm
      have hsub : (n : Int) - 1 - k = (m : Int) := by omega
      rw [hsub]
      have hkm' : (k : Int) < (m : Int) := by omega
      have hmn : m < n := by omega
      have hkn : k < n := by omega
      obtain ⟨hck, hfk⟩ := hat.2 k (by rw [Hl'.out]; omega)
      obtain ⟨hcm, hfm⟩ := hat.2 m (by rw [Hl'.out]; omega)
      have hne : ¬ k = m := by omega
      have hne' : ¬ m = k := by omega
      clear hsub
      have Hnm := Lib.hid hnm
      clear hnm
      go_wp2
      go_region
      go_wp2
      go_roundw
      case rel =>
        rw [← List.getD_eq_getElem?_getD, ← List.getD_eq_getElem?_getD]
        have hn' := Hnm.out
        refine ⟨k + 1, (l'.set k (l'.getD m 0)).set m (l'.getD k 0), by omega, by go_num, by congr 1; omega, by rw [List.length_set, List.length_set]; exact Hl'.out,
          ((hat.set k (by rw [Hl'.out]; omega) _).set m (by rw [List.length_set, Hl'.out]; omega) _).drew, ((hb.setCell hg _).setCell hg _).drew, fun x hx => ?_⟩
        rw [getD_set _ _ _ _ (by rw [List.length_set, Hl'.out]; omega), getD_set _ _ _ _ (by rw [Hl'.out]; omega)]
        by_cases e1 : x = m
        · rw [if_pos e1, Hv.out k hkn]
          unfold revd
          rw [if_neg (by rw [Hl.out]; omega), if_pos (by rw [Hl.out]; omega), Hl.out]
          congr 1; omega
        · rw [if_neg e1]
          by_cases e2 : x = k
          · rw [if_pos e2, Hv.out m hmn]
            unfold revd
            rw [if_neg (by rw [Hl.out]; omega), if_pos (by rw [Hl.out]; omega), Hl.out]
            congr 1; omega
          · rw [if_neg e2, Hv.out x hx]
            unfold revd
            rw [Hl.out]
            by_cases e3 : x < k ∨ n ≤ x + k
            · rw [if_pos e3, if_pos (by omega)]
            · rw [if_neg e3, if_neg (by omega)]
      case measure => simp [intOf]; omega
    · go_wp2
      go_end0
      refine ⟨rfl, hb, ?_⟩
      have : l' = l.reverse := by
        refine ext_getD _ _ 0 (by rw [Hl'.out, List.length_reverse, Hl.out]) fun x hx => ?_
        rw [Hl'.out] at hx
        rw [Hv.out x hx, getD_reverse l 0 x (by rw [Hl.out]; exact hx)]
        unfold revd
        rw [Hl.out]
        by_cases e3 : x < k ∨ n ≤ x + k
        · rw [if_pos e3]
        · rw [if_neg e3]; congr 1; omega
      rw [← this]
      exact hat

set_option maxRecDepth 100000 in
set_option maxHeartbeats 400000 in
theorem back_any (s : ByteArray) (hs : s.size ≤ 140737488355328) (w : World) :
    Calls Tryz.prog 5 #[.string s] w fun e w' => e = .returned (.string ⟨s.data.toList.reverse.toArray⟩) ∧ Below w.heap.size w w' := by
  have hcv := fun w s => run_bytes_of_string (P := Tryz.prog) w 9 32 5 s Tryz.underlying9 Tryz.underlying32 Tryz.underlying5
  go_enter Tryz.func5, Tryz.ntmps5
  go_wp2_with fail
  generalize hW : World.drew _ = W
  obtain ⟨hb2, hz2, hat⟩ := bytes_at s _ (grownCap_ge _ _ _ _) _ _ _ hW
  clear hW
  generalize grownCap _ _ _ _ = cap
  refine (reverse_any w.heap.size w.heap.size s.size cap s.data.toList rfl hs (Nat.le_refl _) w W hb2 hat).mono ?_
  rintro e w1 ⟨rfl, hb1, hat1⟩
  go_wp2
  rw [run_string_of w1 _ _ 5 ⟨w.heap.size, 0, none⟩ s.size cap s.data.toList.reverse (by simp) Tryz.underlying32 Tryz.underlying5 Tryz.underlying9 (fun j hj => by rw [add_zero, (hat1.2 j hj).1, List.getD_eq_getElem?_getD, List.getElem?_eq_getElem hj]; rfl)]
  go_wp2
  go_ret
  exact ⟨rfl, hb1⟩

end Go.Proofs.YtafpcekemlgclaaGreatDoor
