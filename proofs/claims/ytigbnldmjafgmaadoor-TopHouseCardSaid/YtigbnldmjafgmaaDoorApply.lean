/- The walk of edit.Apply. -/
import Derived.Test.YtigbnldmjafgmaaDoorEditWalk
namespace Go.Proofs.YtigbnldmjafgmaaDoor
open Go.RowKit
set_option linter.unusedVariables false

theorem take_drop_eq (s : List UInt8) (a i : Nat) (h : a ≤ i) : (s.drop a).take (i - a) = (s.take i).drop a := by
  rw [List.drop_take]

theorem ba_tail (O s : ByteArray) (a : Nat) : O ++ s.extract a s.size = ⟨(O.data.toList ++ s.data.toList.drop a).toArray⟩ := ba_ext (by
  simp [ByteArray.data_append]
  rw [List.take_of_length_le]
  rw [List.length_drop]
  exact Nat.le_refl _)

set_option maxHeartbeats 1000000 in
theorem apply_ok (s : ByteArray) (A : Option Addr) (len c B0 : Nat) (l : List Ed) (hl : l.length = len) (hE : checkE s.size l = 0)
    (w : World) (h : Reads w B0 A len 3 (l.flatMap cEdit)) (hB0 : B0 ≤ w.heap.size) :
    Calls Tryd.prog 55 #[.string s, .slice A len c] w fun e w' => e = .returned (.tuple #[.string ⟨(app s.data.toList 0 l).toArray⟩, .int .i64 0]) ∧ Below w.heap.size w w' := by
  obtain ⟨h0, h1, h2, h3, h4⟩ := checkE_ok hE
  have hsl : s.data.toList.length = s.size := rfl
  have hck : ∀ w, Reads w B0 A len 3 (l.flatMap cEdit) → B0 ≤ w.heap.size → Calls Tryd.prog 76 #[.int .i64 (s.size : Int), .slice A len c] w fun e w' => e = .returned (.int .i64 0) ∧ Below w.heap.size w w' := fun w h hB0 => by
    have := check_any s.size (by omega) A len c B0 l (by omega) hl (ok_bounds (by omega) h3) w h hB0
    rwa [hE] at this
  have Hck := Lib.hid hck
  have hl20 : len ≤ 20 := by omega
  have Hl := Lib.hid hl
  have Hs := Lib.hid hsl
  clear hck hl hE hsl
  generalize hR : app s.data.toList 0 l = R
  have H3 := Lib.hid h3
  have HR := Lib.hid hR
  clear h3 hR h4
  go_enter Tryd.func55, Tryd.ntmps55
  go_wp2_with fail
  refine (Hck.out _ h hB0).mono ?_
  rintro e w1 ⟨rfl, hb1⟩
  go_wp2
  go_loopw [7, 8, 10, 20] (fun ov av _ i wr => ∃ (k a : Nat) (O : ByteArray), k ≤ len ∧ i = .int .i64 k ∧ ov = .string O ∧ av = .int .i64 a ∧ a ≤ s.size ∧ (k = 0 → a = 0) ∧ O.size ≤ 240 * k ∧ OkE s.size (k == 0) a (l.drop k) ∧
      R = O.data.toList ++ app s.data.toList a (l.drop k) ∧ Below w.heap.size w wr)
    (fun _ _ _ i _ => len - (intOf i).toNat)
  case atStart => exact ⟨0, 0, ⟨#[]⟩, Nat.zero_le _, rfl, rfl, rfl, Nat.zero_le _, fun _ => rfl, by decide, H3.out, by rw [← HR.out]; rfl, hb1⟩
  case round =>
    obtain ⟨k, a, O, hk, rfl, rfl, rfl, ha, hka, hO, hok, hR, hbr⟩ := hrel
    by_cases hlt : k < len
    · have h := h.below' hbr hB0
      obtain ⟨b, o, rfl, hbB, hc⟩ := h.2 (by omega)
      have c0 := hc (k * 3 + 0) (by rw [flat_length cEdit 3 cEdit_len, Hl.out]; omega)
      have c1 := hc (k * 3 + 1) (by rw [flat_length cEdit 3 cEdit_len, Hl.out]; omega)
      have c2 := hc (k * 3 + 2) (by rw [flat_length cEdit 3 cEdit_len, Hl.out]; omega)
      have dE : Ed := (0, 0, ByteArray.empty)
      rw [flat_getD cEdit 3 cEdit_len dE l k _ (by rw [Hl.out]; omega) (by omega)] at c0 c1 c2
      simp only [cEdit, List.getD_cons_zero, List.getD_cons_succ, Nat.add_zero, ← Nat.add_assoc] at c0 c1 c2
      rw [drop_getD l k dE (by rw [Hl.out]; omega)] at hR hok
      generalize l.getD k dE = x at *
      obtain ⟨at_, del, ins⟩ := x
      obtain ⟨o1, o2, o3, o4, o5, o6, o7⟩ := hok
      simp only at c0 c1 c2 o1 o2 o3 o4 o5 o6 o7
      obtain ⟨i, rfl⟩ : ∃ i : Nat, at_ = i := ⟨at_.toNat, by omega⟩
      obtain ⟨q, hq⟩ : ∃ q : Nat, (i : Int) + del = q := ⟨((i : Int) + del).toNat, by omega⟩
      have hai : a ≤ i := by
        rcases Nat.eq_zero_or_pos k with k0 | k0
        · have := hka k0; omega
        · have := o6 (by simp; omega); omega
      have his : i ≤ s.size := by omega
      rw [app] at hR
      simp only at hR
      rw [hq, Int.toNat_natCast, Int.toNat_natCast] at hR
      rw [hq] at o7
      have hbB' : b < wr.heap.size := by have := hbr.size; omega
      have hqs : q ≤ s.size := by omega
      have HRr := Lib.hid hR
      have O7 := Lib.hid o7
      have Hq := Lib.hid hq
      clear hR hc hq o7 o5 o6 hka
      have hrel : ∃ k' : Nat, k' = k + 1 := ⟨_, rfl⟩
      rcases Nat.eq_zero_or_pos k with k0 | k0
      · subst k0
        simp only [Nat.zero_mul, Nat.add_zero] at c0 c1 c2
        go_wp2
        go_quiet (fail)
        go_wp2
        go_roundw
        case rel =>
          refine ⟨0 + 1, q, O ++ (s.extract a i ++ ins), by omega, by go_num, rfl, by rw [← Hq.out], by omega, by omega, ?_, O7.out, ?_, below_drewN (hbr.alloc hbr.size _) _⟩
          · simp [ByteArray.size_append]; omega
          · rw [HRr.out]; simp [ByteArray.data_append, take_drop_eq _ _ _ hai]
        case measure => simp only [intOf]; omega
      · go_wp2
        go_quiet (fail)
        go_wp2
        go_roundw
        case rel =>
          refine ⟨k + 1, q, O ++ (s.extract a i ++ ins), by omega, by go_num, rfl, by rw [← Hq.out], by omega, by omega, ?_, O7.out, ?_, below_drewN (hbr.alloc hbr.size _) _⟩
          · simp [ByteArray.size_append]; omega
          · rw [HRr.out]; simp [ByteArray.data_append, take_drop_eq _ _ _ hai]
        case measure => simp only [intOf]; omega
    · obtain rfl : k = len := by omega
      have e : l.drop k = [] := List.drop_of_length_le (by rw [Hl.out]; omega)
      rw [e, app] at hR
      have HRr := Lib.hid hR
      clear hR hok hka
      have e1 : min s.size s.size = s.size := by omega
      go_wp2
      go_ret2
      refine ⟨?_, hbr⟩
      rw [HRr.out]
      rw [ba_tail]
      rfl

set_option maxHeartbeats 1000000 in
theorem apply_no (s : ByteArray) (hs : s.size ≤ 140737488355328) (A : Option Addr) (len c B0 : Nat) (l : List Ed) (hlen : len ≤ 4398046511104) (hl : l.length = len) (ho : ∀ x ∈ l, (-9223372036854775808 ≤ x.1 ∧ x.1 ≤ 9223372036854775807) ∧ (-9223372036854775808 ≤ x.2.1 ∧ x.2.1 ≤ 9223372036854775807) ∧ (x.2.2).size ≤ 140737488351232)
    (E : Int) (hE : checkE s.size l = E) (hE0 : E ≠ 0) (w : World) (h : Reads w B0 A len 3 (l.flatMap cEdit)) (hB0 : B0 ≤ w.heap.size) :
    Calls Tryd.prog 55 #[.string s, .slice A len c] w fun e w' => e = .returned (.tuple #[.string ⟨#[]⟩, .int .i64 E]) ∧ Below w.heap.size w w' := by
  have hck := fun w h hB0 => check_any s.size (by omega) A len c B0 l hlen hl ho w h hB0
  rw [hE] at hck
  have Hck := Lib.hid hck
  clear hck hE ho hl
  have q5 : (E != 0) = true := by simpa using hE0
  go_enter Tryd.func55, Tryd.ntmps55
  go_wp2_with fail
  refine (Hck.out _ h hB0).mono ?_
  rintro e w1 ⟨rfl, hb1⟩
  go_wp2
  go_ret2
  exact ⟨rfl, hb1⟩

end Go.Proofs.YtigbnldmjafgmaaDoor
