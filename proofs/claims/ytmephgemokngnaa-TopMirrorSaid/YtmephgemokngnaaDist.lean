/- The walk of dist.Of: it is the edit distance. -/
import Derived.Test.YtmephgemokngnaaCheck
import Derived.Test.YtmephgemokngnaaLev
import Derived.Test.YtmephgemokngnaaPlain
import Derived.Deep.QuietTactic
import Derived.BigQuiet
namespace Go.Proofs.Ytmephgemokngnaa
open Go.RowKit
set_option linter.unusedVariables false

/-- The distance of the first i bytes of a from the first k of b. -/
def pd (a b : List UInt8) (i k : Nat) : Nat := lev (a.take i).reverse (b.take k).reverse
theorem pd_zero_left (a b : List UInt8) (k : Nat) (h : k ≤ b.length) : pd a b 0 k = k := by
  unfold pd; simp [lev_nil_left]; omega
theorem pd_zero_right (a b : List UInt8) (i : Nat) (h : i ≤ a.length) : pd a b i 0 = i := by
  unfold pd; simp [lev_nil_right]; omega
theorem pd_succ (a b : List UInt8) (i k : Nat) (hi : i < a.length) (hk : k < b.length) :
    pd a b (i + 1) (k + 1) = min (pd a b i k + ne1 (a.getD i 0) (b.getD k 0)) (min (pd a b i (k + 1)) (pd a b (i + 1) k) + 1) := by
  unfold pd
  rw [take_succ_getD a i 0 hi, take_succ_getD b k 0 hk]
  simp only [List.reverse_append, List.reverse_cons, List.reverse_nil, List.nil_append, List.cons_append]
  rw [lev_cons]
theorem pd_le (a b : List UInt8) (i k : Nat) : pd a b i k ≤ i + k := by
  have := lev_le_add (a.take i).reverse (b.take k).reverse
  simp at this
  unfold pd; omega
theorem pd_all (a b : List UInt8) : pd a b a.length b.length = lev a b := by
  unfold pd
  rw [List.take_length, List.take_length, lev_reverse]

theorem A.infoInt' : (Try.prog.info? 3).map (fun i => (i.zero, i.size, i.bytes)) = some (some (.int .i64 0), 1, 8) := by kernel_rfl

set_option maxHeartbeats 800000 in
theorem dist_ok (a b : ByteArray) (ha : a.size ≤ 200) (hb : b.size ≤ 200) (w : World) :
    Calls Try.prog 9 #[.string a, .string b] w fun e w' => e = .returned (.tuple #[.int .i64 (lev a.data.toList b.data.toList : Nat), .int .i64 0]) ∧ Below w.heap.size w w' := by
  have hmk := fun w : World => make_ints (P := Try.prog) 41 3 Try.underlying41 A.infoInt' (b.size + 1) ((b.size : Int) + 1) (by omega) (by omega) w
  go_enter Try.func9, Try.ntmps9
  go_wp2_with fail
  refine (sameCheck_ok a b ha hb _).mono ?_
  rintro e w1 ⟨rfl, rfl⟩
  go_wp2
  obtain ⟨hb0, hz0, hat0⟩ := ints_made w (b.size + 1) 3
  generalize hW : World.alloc _ _ = W at *
  clear hW hmk
  have hg := Nat.le_refl w.heap.size
  have hg2 : w.heap.size < W.heap.size := by omega
  generalize hgg : w.heap.size = g at hg hg2 hat0 ⊢
  have hlow : w.heap.size ≤ g := by omega
  clear hgg hz0 hg
  go_loopw [8, 25] (fun _ i wr => ∃ (k : Nat) (l : List Int), k ≤ b.size + 1 ∧ i = .int .i64 k ∧ l.length = b.size + 1 ∧ IntsAt wr g l ∧ Below w.heap.size w wr ∧ ∀ j, j < k → l.getD j 0 = (j : Int))
    (fun _ i _ => b.size + 1 - (intOf i).toNat)
  case atStart => exact ⟨0, List.replicate (b.size + 1) 0, Nat.zero_le _, rfl, by simp, hat0, hb0, fun j hj => by omega⟩
  case round =>
    obtain ⟨k, l, hk, rfl, hl, hat, hbr, hv⟩ := hrel
    have Hl := Lib.hid hl
    have Hv := Lib.hid hv
    clear hl hv
    by_cases hlt : k < b.size + 1
    · obtain ⟨hc, hf⟩ := hat.2 k (by rw [Hl.out]; omega)
      go_wp2
      go_roundw
      case rel =>
        exact ⟨k + 1, l.set k k, by omega, by go_num, by rw [List.length_set]; exact Hl.out, hat.set k (by rw [Hl.out]; omega) _, hbr.setCell hlow _, fun j hj => by
          rw [getD_set _ _ _ _ (by rw [Hl.out]; omega)]
          by_cases e : j = k
          · rw [if_pos e, e]
          · rw [if_neg e]; exact Hv.out j (by omega)⟩
      case measure => simp [intOf]; omega
    · obtain rfl : k = b.size + 1 := by omega
      go_wp2
      clear hat0 hb0
      go_loopw [9, 10, 11, 12, 35] (fun _ _ _ _ i wr => ∃ (k : Nat) (l : List Int), k ≤ a.size ∧ i = .int .i64 k ∧ l.length = b.size + 1 ∧ IntsAt wr g l ∧ Below w.heap.size w wr ∧ ∀ j, j ≤ b.size → l.getD j 0 = (pd a.data.toList b.data.toList k j : Nat))
        (fun _ _ _ _ i _ => a.size - (intOf i).toNat)
      case atStart => exact ⟨0, l, Nat.zero_le _, rfl, Hl.out, hat, hbr, fun j hj => by rw [Hv.out j (by omega), pd_zero_left _ _ _ hj]⟩
      case round =>
        clear hat hbr Hl Hv hlt hk
        obtain ⟨i, l, hi, rfl, hl, hat, hbr, hv⟩ := hrel
        have Hl := Lib.hid hl
        have Hv := Lib.hid hv
        clear hl hv
        by_cases hlt : i < a.size
        · obtain ⟨hc0, hf0⟩ := hat.2 0 (by rw [Hl.out]; omega)
          rw [Hv.out 0 (by omega)] at hc0
          go_wp2
          go_loopw [10, 11, 12, 47] (fun c _ _ x wr => ∃ (k : Nat) (l' : List Int), k ≤ b.size ∧ x = .int .i64 k ∧ c = .int .i64 (pd a.data.toList b.data.toList i k : Nat) ∧ l'.length = b.size + 1 ∧ IntsAt wr g l' ∧ Below w.heap.size w wr ∧
              ∀ j, j ≤ b.size → l'.getD j 0 = if j ≤ k then (pd a.data.toList b.data.toList (i + 1) j : Nat) else (pd a.data.toList b.data.toList i j : Nat))
            (fun _ _ _ x _ => b.size - (intOf x).toNat)
          case atStart =>
            refine ⟨0, l.set 0 ((i : Int) + 1), Nat.zero_le _, rfl, rfl, by rw [List.length_set]; exact Hl.out, hat.set 0 (by rw [Hl.out]; omega) _, hbr.setCell hlow _, fun j hj => ?_⟩
            rw [getD_set _ _ _ _ (by rw [Hl.out]; omega)]
            by_cases e : j = 0
            · subst e
              rw [if_pos rfl, if_pos (Nat.le_refl _), pd_zero_right _ _ _ (show i + 1 ≤ a.data.toList.length from hlt)]; simp
            · rw [if_neg e, if_neg (by omega), Hv.out j hj]
          case round =>
            clear hat hbr Hl Hv hc0 hf0
            obtain ⟨k, l, hk, rfl, rfl, hl, hat, hbr, hv⟩ := hrel
            have Hl := Lib.hid hl
            have Hv := Lib.hid hv
            clear hl hv
            by_cases hkb : k < b.size
            · have hP := pd_le a.data.toList b.data.toList i k
              have hQ := pd_le a.data.toList b.data.toList i (k + 1)
              have hR := pd_le a.data.toList b.data.toList (i + 1) k
              have hN := pd_succ a.data.toList b.data.toList i k hlt hkb
              rw [getD_bytes a i hlt, getD_bytes b k hkb] at hN
              obtain ⟨hck, hfk⟩ := hat.2 k (by rw [Hl.out]; omega)
              obtain ⟨hcn, hfn⟩ := hat.2 (k + 1) (by rw [Hl.out]; omega)
              rw [Hv.out k (by omega), if_pos (Nat.le_refl _)] at hck
              rw [Hv.out (k + 1) (by omega), if_neg (by omega)] at hcn
              have hrel' : ∀ j, j ≤ b.size → (l.set (k + 1) (pd a.data.toList b.data.toList (i + 1) (k + 1) : Nat)).getD j 0 = if j ≤ k + 1 then (pd a.data.toList b.data.toList (i + 1) j : Nat) else (pd a.data.toList b.data.toList i j : Nat) := fun j hj => by
                rw [getD_set _ _ _ _ (by rw [Hl.out]; omega)]
                by_cases e : j = k + 1
                · rw [if_pos e, if_pos (by omega), e]
                · rw [if_neg e, Hv.out j hj]
                  by_cases e2 : j ≤ k
                  · rw [if_pos e2, if_pos (by omega)]
                  · rw [if_neg e2, if_neg (by omega)]
              have Hrel := Lib.hid hrel'
              clear hrel'
              generalize pd a.data.toList b.data.toList (i + 1) (k + 1) = N at *
              generalize hq : pd a.data.toList b.data.toList i (k + 1) = Q at *
              generalize pd a.data.toList b.data.toList (i + 1) k = R at *
              generalize pd a.data.toList b.data.toList i k = P at *
              have Hq := Lib.hid hq
              clear hq
              by_cases heq : a[i] = b[k]
              · have hne : ((a[i].toNat : Int) != (b[k].toNat : Int)) = false := by rw [heq]; simp
                have hmin : ∀ (ats : Array TypeId) (t : TypeId) (w : World), (Builtin.min_ ats t #[.int .i64 (P : Int), .int .i64 ((R : Int) + 1), .int .i64 ((Q : Int) + 1)]).run Try.prog w = .ok (.int .i64 (N : Int)) w := fun ats t w => by
                  rw [run_min_int3]; congr 2; rw [heq, ne1_self] at hN; omega
                clear hN heq
                go_wp2
                go_quiet (fail)
                go_wp2
                go_roundw
                case rel => exact ⟨k + 1, _, by omega, by go_num, by rw [Hq.out], by rw [List.length_set]; exact Hl.out, hat.set (k + 1) (by rw [Hl.out]; omega) _, below_drewN (hbr.setCell hlow _) _, Hrel.out⟩
                case measure => simp [intOf]; omega
              · have hne : ((a[i].toNat : Int) != (b[k].toNat : Int)) = true := by rw [bne_iff_ne]; intro h; exact heq (UInt8.toNat_inj.1 (by omega))
                have hmin : ∀ (ats : Array TypeId) (t : TypeId) (w : World), (Builtin.min_ ats t #[.int .i64 ((P : Int) + 1), .int .i64 ((R : Int) + 1), .int .i64 ((Q : Int) + 1)]).run Try.prog w = .ok (.int .i64 (N : Int)) w := fun ats t w => by
                  rw [run_min_int3]; congr 2; rw [ne1, if_neg heq] at hN; omega
                clear hN heq
                go_wp2
                go_quiet (fail)
                go_wp2
                go_roundw
                case rel => exact ⟨k + 1, _, by omega, by go_num, by rw [Hq.out], by rw [List.length_set]; exact Hl.out, hat.set (k + 1) (by rw [Hl.out]; omega) _, below_drewN (hbr.setCell hlow _) _, Hrel.out⟩
                case measure => simp [intOf]; omega
            · obtain rfl : k = b.size := by omega
              go_wp2
              go_roundw
              case rel => exact ⟨i + 1, l, by omega, by go_num, Hl.out, hat, hbr, fun j hj => by rw [Hv.out j hj, if_pos hj]⟩
              case measure => simp [intOf]; omega
        · obtain rfl : i = a.size := by omega
          obtain ⟨hc, hf⟩ := hat.2 b.size (by rw [Hl.out]; omega)
          rw [Hv.out b.size (Nat.le_refl _)] at hc
          have hall : pd a.data.toList b.data.toList a.size b.size = lev a.data.toList b.data.toList := pd_all a.data.toList b.data.toList
          have Hall := Lib.hid hall
          clear hall
          generalize pd a.data.toList b.data.toList a.size b.size = X at *
          go_wp2
          go_ret2
          exact ⟨by rw [← Hall.out]; rfl, hbr⟩

set_option maxHeartbeats 400000 in
theorem dist_no (a b : ByteArray) (h : 200 < a.size ∨ 200 < b.size) (w : World) :
    Calls Try.prog 9 #[.string a, .string b] w fun e w' => e = .returned (.tuple #[.int .i64 0, .int .i64 2]) ∧ w = w' := by
  go_enter Try.func9, Try.ntmps9
  go_wp2_with fail
  refine (sameCheck_no a b h _).mono ?_
  rintro e w1 ⟨rfl, rfl⟩
  go_wp2
  go_ret2
  exact ⟨rfl, rfl⟩

/-- What Of answers, at every two texts: the number, the error. -/
def dv (a b : ByteArray) : Int := if a.size ≤ 200 ∧ b.size ≤ 200 then (lev a.data.toList b.data.toList : Nat) else 0
def de (a b : ByteArray) : Int := if a.size ≤ 200 ∧ b.size ≤ 200 then 0 else 2
theorem dv_ok {a b : ByteArray} (ha : a.size ≤ 200) (hb : b.size ≤ 200) : dv a b = (lev a.data.toList b.data.toList : Nat) := by unfold dv; rw [if_pos ⟨ha, hb⟩]
theorem de_ok {a b : ByteArray} (ha : a.size ≤ 200) (hb : b.size ≤ 200) : de a b = 0 := by unfold de; rw [if_pos ⟨ha, hb⟩]
theorem dv_comm (a b : ByteArray) : dv a b = dv b a := by
  unfold dv
  rw [lev_comm]
  by_cases h : a.size ≤ 200 ∧ b.size ≤ 200
  · rw [if_pos h, if_pos h.symm]
  · rw [if_neg h, if_neg (fun h' => h h'.symm)]
theorem de_comm (a b : ByteArray) : de a b = de b a := by
  unfold de
  by_cases h : a.size ≤ 200 ∧ b.size ≤ 200
  · rw [if_pos h, if_pos h.symm]
  · rw [if_neg h, if_neg (fun h' => h h'.symm)]
theorem de_zero {a b : ByteArray} (h : de a b = 0) : a.size ≤ 200 ∧ b.size ≤ 200 := by
  unfold de at h
  by_cases h' : a.size ≤ 200 ∧ b.size ≤ 200
  · exact h'
  · rw [if_neg h'] at h; cases h
theorem dv_no {a b : ByteArray} (h : de a b ≠ 0) : dv a b = 0 := by
  unfold de at h
  unfold dv
  by_cases h' : a.size ≤ 200 ∧ b.size ≤ 200
  · rw [if_pos h'] at h; exact absurd rfl h
  · rw [if_neg h']
theorem dv_bd (a b : ByteArray) : 0 ≤ dv a b ∧ dv a b ≤ 400 := by
  unfold dv
  by_cases h' : a.size ≤ 200 ∧ b.size ≤ 200
  · rw [if_pos h']
    have := lev_le_add a.data.toList b.data.toList
    have h1 : a.data.toList.length = a.size := rfl
    have h2 : b.data.toList.length = b.size := rfl
    omega
  · rw [if_neg h']; omega
theorem dist_any (a b : ByteArray) (w : World) :
    Calls Try.prog 9 #[.string a, .string b] w fun e w' => e = .returned (.tuple #[.int .i64 (dv a b), .int .i64 (de a b)]) ∧ Below w.heap.size w w' := by
  by_cases h : a.size ≤ 200 ∧ b.size ≤ 200
  · exact (dist_ok a b h.1 h.2 w).mono fun e w' ⟨he, hb⟩ => ⟨by rw [he, dv_ok h.1 h.2, de_ok h.1 h.2], hb⟩
  · exact (dist_no a b (by omega) w).mono fun e w' ⟨he, hb⟩ => ⟨by rw [he, dv, de, if_neg h, if_neg h], by rw [← hb]; exact Below.refl _ _⟩

theorem lev_kitten : lev (ByteArray.mk #[107, 105, 116, 116, 101, 110]).data.toList (ByteArray.mk #[115, 105, 116, 116, 105, 110, 103]).data.toList = 3 := by decide +kernel

end Go.Proofs.Ytmephgemokngnaa
