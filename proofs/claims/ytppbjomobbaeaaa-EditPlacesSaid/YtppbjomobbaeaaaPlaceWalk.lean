/- The walk of edit.Place. -/
import Derived.Test.YtppbjomobbaeaaaPlaceP
import Derived.Test.YtppbjomobbaeaaaEditWalk
namespace Go.Proofs.Ytppbjomobbaeaaa
open Go.RowKit
set_option linter.unusedVariables false

set_option maxHeartbeats 4000000 in
theorem place_ok (n : Nat) (A : Option Addr) (len c B0 : Nat) (l : List Ed) (hl : l.length = len) (hE : checkE n l = 0) (a : Nat) (ha : a ≤ n)
    (w : World) (h : Reads w B0 A len 3 (l.flatMap cEdit)) (hB0 : B0 ≤ w.heap.size) :
    Calls Try.prog 40 #[.int .i64 (n : Int), .slice A len c, .int .i64 (a : Int)] w fun e w' => e = .returned (.tuple #[.int .i64 (plc a 0 l).1, .bool (plc a 0 l).2, .int .i64 0]) ∧ Below w.heap.size w w' := by
  obtain ⟨h0, h1, h2, h3, h4⟩ := checkE_ok hE
  have hck : ∀ w, Reads w B0 A len 3 (l.flatMap cEdit) → B0 ≤ w.heap.size → Calls Try.prog 63 #[.int .i64 (n : Int), .slice A len c] w fun e w' => e = .returned (.int .i64 0) ∧ Below w.heap.size w w' := fun w h hB0 => by
    have := check_any n (by omega) A len c B0 l (by omega) hl (ok_bounds (by omega) h3) w h hB0
    rwa [hE] at this
  have Hck := Lib.hid hck
  have hl20 : len ≤ 20 := by omega
  have Hl := Lib.hid hl
  have Hall := Lib.hid (ok_all (by omega) h3)
  have hn200 : n ≤ 200 := by omega
  generalize hR : plc a 0 l = R
  have HR := Lib.hid hR
  have p1 : decide ((a : Int) < 0) = false := decide_eq_false (by omega)
  have p2 : decide ((n : Int) < (a : Int)) = false := decide_eq_false (by omega)
  have p2n : decide (n < a) = false := decide_eq_false (by omega)
  clear hck hl hE h3 h4 h2 hR
  go_enter Try.func40, Try.ntmps40
  go_wp2_with fail
  refine (Hck.out _ h hB0).mono ?_
  rintro e w1 ⟨rfl, hb1⟩
  go_wp2
  have hsz1 := hb1.size
  go_loopw [10, 12, 28] (fun mv _ i wr => ∃ (k : Nat) (m : Int), k ≤ len ∧ i = .int .i64 k ∧ mv = .int .i64 m ∧ -200 * (k : Int) ≤ m ∧ m ≤ 40 * (k : Int) ∧ Hid (R = plc a m (l.drop k)) ∧ Below w1.heap.size w1 wr)
    (fun _ _ i _ => len - (intOf i).toNat)
  case atStart => exact ⟨0, 0, Nat.zero_le _, rfl, rfl, by omega, by omega, Lib.hid HR.out.symm, Below.refl _ _⟩
  case round =>
    obtain ⟨k, m, hk, rfl, rfl, hm1, hm2, HR2, hbr⟩ := hrel
    by_cases hlt : k < len
    · have h := (h.below' hb1 hB0).below' hbr (by omega)
      obtain ⟨b, o, rfl, hbB, hc⟩ := h.2 (by omega)
      have c0 := hc (k * 3 + 0) (by rw [flat_length cEdit 3 cEdit_len, Hl.out]; omega)
      have c1 := hc (k * 3 + 1) (by rw [flat_length cEdit 3 cEdit_len, Hl.out]; omega)
      have c2 := hc (k * 3 + 2) (by rw [flat_length cEdit 3 cEdit_len, Hl.out]; omega)
      have dE : Ed := (0, 0, ByteArray.empty)
      rw [flat_getD cEdit 3 cEdit_len dE l k _ (by rw [Hl.out]; omega) (by omega)] at c0 c1 c2
      simp only [cEdit, List.getD_cons_zero, List.getD_cons_succ, Nat.add_zero, ← Nat.add_assoc] at c0 c1 c2
      have hmem : l.getD k dE ∈ l := by rw [getD_some _ _ _ (by rw [Hl.out]; omega)]; exact List.getElem_mem _
      have hx := Hall.out _ hmem
      have hdrop := drop_getD l k dE (by rw [Hl.out]; omega)
      have hr := HR2.out
      rw [hdrop] at hr
      clear hc hmem hdrop
      generalize l.getD k dE = x at *
      obtain ⟨at_, del, ins⟩ := x
      simp only at c0 c1 c2 hx
      obtain ⟨o1, o2, o3, o4⟩ := hx
      obtain ⟨i, rfl⟩ : ∃ i : Nat, at_ = i := ⟨at_.toNat, by omega⟩
      obtain ⟨d, rfl⟩ : ∃ i : Nat, del = i := ⟨del.toNat, by omega⟩
      have hbB' : b < wr.heap.size := by have := hbr.size; omega
      rw [plc] at hr
      simp only at hr
      by_cases d1 : (a : Int) < (i : Int)
      · rw [if_pos d1] at hr
        have q1 : decide ((a : Int) < (i : Int)) = true := decide_eq_true d1
        have q1n : decide (a < i) = true := decide_eq_true (by omega)
        have Hr := Lib.hid hr
        clear hr
        rcases Nat.eq_zero_or_pos k with k0 | k0
        · subst k0
          simp only [Nat.zero_mul, Nat.add_zero] at c0 c1 c2
          go_wp2
          refine bodyPost_ret (v := .tuple #[.int .i64 ((a : Int) + m), .bool true, .int .i64 0]) (by simp [results, Try.results40, go_sem]) rfl ⟨by rw [Hr.out], chain (hbr.alloc hbr.size _) hb1⟩
        · go_wp2
          refine bodyPost_ret (v := .tuple #[.int .i64 ((a : Int) + m), .bool true, .int .i64 0]) (by simp [results, Try.results40, go_sem]) rfl ⟨by rw [Hr.out], chain (hbr.alloc hbr.size _) hb1⟩
      rw [if_neg d1] at hr
      have q1 : decide ((a : Int) < (i : Int)) = false := decide_eq_false d1
      have q1n : decide (a < i) = false := decide_eq_false (by omega)
      by_cases d2 : (a : Int) < (i : Int) + (d : Int)
      · rw [if_pos d2] at hr
        have q2 : decide ((a : Int) < (i : Int) + (d : Int)) = true := decide_eq_true d2
        have q2n : decide (a < i + d) = true := decide_eq_true (by omega)
        have Hr := Lib.hid hr
        clear hr
        rcases Nat.eq_zero_or_pos k with k0 | k0
        · subst k0
          simp only [Nat.zero_mul, Nat.add_zero] at c0 c1 c2
          go_wp2
          refine bodyPost_ret (v := .tuple #[.int .i64 ((i : Int) + m), .bool false, .int .i64 0]) (by simp [results, Try.results40, go_sem]) rfl ⟨by rw [Hr.out], chain (hbr.alloc hbr.size _) hb1⟩
        · go_wp2
          refine bodyPost_ret (v := .tuple #[.int .i64 ((i : Int) + m), .bool false, .int .i64 0]) (by simp [results, Try.results40, go_sem]) rfl ⟨by rw [Hr.out], chain (hbr.alloc hbr.size _) hb1⟩
      rw [if_neg d2] at hr
      have q2 : decide ((a : Int) < (i : Int) + (d : Int)) = false := decide_eq_false d2
      have q2n : decide (a < i + d) = false := decide_eq_false (by omega)
      have Hr := Lib.hid hr
      clear hr
      rcases Nat.eq_zero_or_pos k with k0 | k0
      · subst k0
        simp only [Nat.zero_mul, Nat.add_zero] at c0 c1 c2
        go_wp2
        go_roundw
        case rel => exact ⟨0 + 1, m + ((ins.size : Int) - (d : Int)), by omega, by go_num, rfl, by omega, by omega, Hr, hbr.alloc hbr.size _⟩
        case measure => simp only [intOf]; omega
      · go_wp2
        go_roundw
        case rel => exact ⟨k + 1, m + ((ins.size : Int) - (d : Int)), by omega, by go_num, rfl, by omega, by omega, Hr, hbr.alloc hbr.size _⟩
        case measure => simp only [intOf]; omega
    · obtain rfl : k = len := by omega
      have e : l.drop k = [] := List.drop_of_length_le (by rw [Hl.out]; omega)
      have hr := HR2.out
      rw [e, plc] at hr
      have Hr := Lib.hid hr
      clear hr e
      go_wp2
      refine bodyPost_ret (v := .tuple #[.int .i64 ((a : Int) + m), .bool true, .int .i64 0]) (by simp [results, Try.results40, go_sem]) rfl ⟨by rw [Hr.out], chain hbr hb1⟩

set_option maxHeartbeats 1000000 in
theorem place_no (n : Int) (hn : -9223372036854775808 ≤ n ∧ n ≤ 9223372036854775807) (A : Option Addr) (len c B0 : Nat) (l : List Ed) (hlen : len ≤ 4398046511104) (hl : l.length = len) (ho : ∀ x ∈ l, (-9223372036854775808 ≤ x.1 ∧ x.1 ≤ 9223372036854775807) ∧ (-9223372036854775808 ≤ x.2.1 ∧ x.2.1 ≤ 9223372036854775807) ∧ (x.2.2).size ≤ 140737488351232)
    (E : Int) (hE : checkE n l = E) (hE0 : E ≠ 0) (a : Int) (w : World) (h : Reads w B0 A len 3 (l.flatMap cEdit)) (hB0 : B0 ≤ w.heap.size) :
    Calls Try.prog 40 #[.int .i64 n, .slice A len c, .int .i64 a] w fun e w' => e = .returned (.tuple #[.int .i64 0, .bool false, .int .i64 E]) ∧ Below w.heap.size w w' := by
  have hck := fun w h hB0 => check_any n hn A len c B0 l hlen hl ho w h hB0
  rw [hE] at hck
  have Hck := Lib.hid hck
  clear hck hE ho hl
  have q5 : (E != 0) = true := by simpa using hE0
  go_enter Try.func40, Try.ntmps40
  go_wp2_with fail
  refine (Hck.out _ h hB0).mono ?_
  rintro e w1 ⟨rfl, hb1⟩
  go_wp2
  exact bodyPost_ret (v := .tuple #[.int .i64 0, .bool false, .int .i64 E]) (by simp [results, Try.results40, go_sem]) rfl ⟨rfl, hb1⟩

end Go.Proofs.Ytppbjomobbaeaaa
