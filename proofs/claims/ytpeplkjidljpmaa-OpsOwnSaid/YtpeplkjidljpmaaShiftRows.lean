/- ShiftRows' walk: two concurrent sequences converge after transformation. -/
import Derived.Test.YtpeplkjidljpmaaShiftAll
import Derived.Test.YtpeplkjidljpmaaShiftTwo
namespace Go.Proofs.Ytpeplkjidljpmaa
open Go.RowKit
set_option linter.unusedVariables false

set_option maxHeartbeats 1000000 in
theorem row_ok (s : ByteArray) (A : Option Addr) (len c B0 : Nat) (l : List Op3) (hl : l.length = len) (hs : s.size ≤ 200) (hE : rowE s.data.toList.length l = 0) (hlen : len ≤ 140737488355328)
    (w : World) (h : Reads w B0 A len 3 (l.flatMap cOp)) (hB0 : B0 ≤ w.heap.size) :
    Calls Try.prog 23 #[.string s, .slice A len c] w fun e w' => e = .returned (.tuple #[.string (tb (rowO s.data.toList l)), .bool true]) ∧ Below w.heap.size w w' := by
  have Hl := Lib.hid hl
  have HE := Lib.hid hE
  clear hl hE
  go_enter Try.func23, Try.ntmps23
  go_wp2
  go_loopw [0, 7, 8, 9, 12] (fun sv _ _ _ kv wr => ∃ (k : Nat) (t : ByteArray), k ≤ len ∧ kv = .int .i64 k ∧ sv = .string t ∧ Hid (t = tb (rowO s.data.toList (l.take k))) ∧ Below w.heap.size w wr)
    (fun _ _ _ _ kv _ => len - (intOf kv).toNat)
  case atStart => exact ⟨0, s, by omega, rfl, rfl, Lib.hid (tb_of s).symm, Below.refl _ _⟩
  case round =>
    obtain ⟨k, t, hk, rfl, rfl, Ht, hbr⟩ := hrel
    by_cases hkl : k < len
    · have h := h.below' hbr hB0
      obtain ⟨b1, o1, rfl, hbB, hc⟩ := h.2 (by omega)
      have c0 := hc (k * 3 + 0) (by rw [flat_length cOp 3 cOp_len, Hl.out]; omega)
      have c1 := hc (k * 3 + 1) (by rw [flat_length cOp 3 cOp_len, Hl.out]; omega)
      have c2 := hc (k * 3 + 2) (by rw [flat_length cOp 3 cOp_len, Hl.out]; omega)
      have dO : Op3 := (0, 0, 0)
      rw [flat_getD cOp 3 cOp_len dO l k _ (by rw [Hl.out]; omega) (by omega)] at c0 c1 c2
      simp only [cOp, List.getD_cons_zero, List.getD_cons_succ, Nat.add_zero, ← Nat.add_assoc] at c0 c1 c2
      have hch : chO t.size (l.getD k dO) = 0 := by
        have e := List.take_append_drop k l
        have hE := HE.out
        rw [← e] at hE
        have h1 := rowE_front _ _ _ hE
        rw [rowE_append _ _ _ h1, drop_getD l k dO (by rw [Hl.out]; omega)] at hE
        have h2 := (rowE_cons hE).1
        rw [← rowO_len h1] at h2
        rw [Ht.out]; exact h2
      have hnext : rowO s.data.toList (l.take (k + 1)) = doO t.data.toList (l.getD k dO) := by
        rw [take_succ_getD l k dO (by rw [Hl.out]; omega), rowO_append, Ht.out]; rfl
      have hd := fun w => do_ok t (l.getD k dO) hch w
      rw [← hnext] at hd
      generalize l.getD k dO = x at *
      obtain ⟨xk, xa, xb⟩ := x
      simp only at c0 c1 c2
      have HD := Lib.hid hd
      have klt : (k : Int) < len := by omega
      have hbB' : b1 < wr.heap.size := by have := hbr.size; omega
      have hbV := hbr.alloc hbr.size (Obj.cells #[.int .i64 xk, .int .i64 xa, .int .u8 (xb.toNat : Int)] 23)
      clear hd hc hch hnext
      generalize hT : tb (rowO s.data.toList (l.take (k + 1))) = T at *
      have HT := Lib.hid hT
      clear hT
      go_wp2_with fail
      refine (HD.out _).mono ?_
      rintro e w2 ⟨rfl, hb2⟩
      have hb3 := chain hb2 hbV
      clear hbV hb2
      go_wp2
      go_roundw
      case rel => exact ⟨k + 1, T, by omega, by go_num, rfl, Lib.hid HT.out.symm, hb3⟩
      case measure => simp only [intOf]; omega
    · obtain rfl : k = len := by omega
      have e : l.take k = l := List.take_of_length_le (by rw [Hl.out]; exact Nat.le_refl _)
      go_wp2
      go_ret2
      exact ⟨by rw [Ht.out, e]; rfl, hbr⟩

theorem own_capA {w : World} {base size n c : Nat} {e : TypeId} {A : Option Addr} {xs : List Value} (h : w.ownsRow base e size (.slice A n c) n xs) : n ≤ c := by
  rcases h.2 with ⟨h1, h0⟩ | ⟨g, cap, cur, h1, _, _, h2, _⟩
  · omega
  · injection h1 with _ _ h3
    omega
theorem all_no (n : Int) (hn : -9223372036854775808 ≤ n ∧ n ≤ 9223372036854775807) (A A' : Option Addr) (la ca lb cb B0 : Nat) (a b : List Op3) (ha : a.length = la) (hb : b.length = lb)
    (hla : la ≤ 140737488355328) (hlb : lb ≤ 140737488355328) (E : Int) (hE : allE n a b = E) (h0 : E ≠ 0)
    (w : World) (h : Reads w B0 A la 3 (a.flatMap cOp)) (h' : Reads w B0 A' lb 3 (b.flatMap cOp)) (hB0 : B0 ≤ w.heap.size) :
    Calls Try.prog 20 #[.int .i64 n, .slice A la ca, .slice A' lb cb] w fun e w' => e = .returned (.tuple #[.slice none 0 0, .slice none 0 0, .int .i64 E]) ∧ Below w.heap.size w w' :=
  (all_any n hn A A' la ca lb cb B0 a b ha hb hla hlb w h h' hB0).mono fun e w' ⟨h1, h2⟩ => by
    rw [hE] at h2
    rcases h2 with ⟨_, h2⟩ | ⟨h2, _⟩
    · exact ⟨h2, h1⟩
    · exact absurd h2 h0
theorem all_yes (n : Int) (hn : -9223372036854775808 ≤ n ∧ n ≤ 9223372036854775807) (A A' : Option Addr) (la ca lb cb B0 : Nat) (a b : List Op3) (ha : a.length = la) (hb : b.length = lb)
    (hla : la ≤ 140737488355328) (hlb : lb ≤ 140737488355328) (hE : allE n a b = 0)
    (w : World) (h : Reads w B0 A la 3 (a.flatMap cOp)) (h' : Reads w B0 A' lb 3 (b.flatMap cOp)) (hB0 : B0 ≤ w.heap.size) :
    Calls Try.prog 20 #[.int .i64 n, .slice A la ca, .slice A' lb cb] w fun e w' => Below w.heap.size w w' ∧ ∃ A c A' c', e = .returned (.tuple #[.slice A la c, .slice A' lb c', .int .i64 0]) ∧
      Reads w' w'.heap.size A la 3 ((allO a b).1.flatMap cOp) ∧ Reads w' w'.heap.size A' lb 3 ((allO a b).2.flatMap cOp) ∧ la ≤ c ∧ lb ≤ c' :=
  (all_any n hn A A' la ca lb cb B0 a b ha hb hla hlb w h h' hB0).mono fun e w' ⟨h1, h2⟩ => by
    rcases h2 with ⟨h2, _⟩ | ⟨_, A, c, A', c', h3, h4, h5, _⟩
    · exact absurd hE h2
    · rw [ha] at h3 h4
      rw [hb] at h3 h5
      exact ⟨h1, A, c, A', c', h3, Reads.of_own h4, Reads.of_own h5, own_capA h4, own_capA h5⟩

set_option maxRecDepth 100000 in
set_option maxHeartbeats 2000000 in
theorem shiftRows_walk (s : ByteArray) (A : Option Addr) (la ca : Nat) (a : List Op3) (A' : Option Addr) (lb cb : Nat) (b : List Op3) (hs : s.size ≤ 140737488351232) (w : World) (ha : OpsIn w A la ca a) (hb : OpsIn w A' lb cb b) :
    Calls Try.prog 6 #[.string s, .slice A la ca, .slice A' lb cb] w fun e w' => e = .returned (.bool true) ∧ Below w.heap.size w w' := by
  obtain ⟨hla, hra, hka, _, _, _, _⟩ := ha
  obtain ⟨hlb, hrb, hkb, _, _, _, _⟩ := hb
  have Hla := Lib.hid hla
  have Hlb := Lib.hid hlb
  have hka : la ≤ 140737488355328 := by omega
  have hkb : lb ≤ 140737488355328 := by omega
  by_cases hE : allE s.size a b = 0
  · have hlaw := all_law (s := s.data.toList) (allE_ok hE) hs
    obtain ⟨g1, g2, g3, g4, g5, g6⟩ := hlaw
    have g1 : s.size ≤ 200 := g1
    have hok := allE_ok hE
    have Hall := Lib.hid (fun w B0 h h' hB0 => all_yes s.size (by omega) A A' la ca lb cb B0 a b hla hlb hka hkb hE w h h' hB0)
    have R1 := Lib.hid (fun w h hB0 => row_ok s A' lb cb w.heap.size b hlb g1 g2 hkb w h hB0)
    have R3 := Lib.hid (fun w h hB0 => row_ok s A la ca w.heap.size a hla g1 g4 hka w h hB0)
    have l1 : (tb (rowO s.data.toList b)).size ≤ 200 := by
      have := rowO_len (s := s.data.toList) g2
      show (rowO s.data.toList b).length ≤ 200
      by_cases h0 : 0 < a.length ∨ 0 < b.length
      · obtain ⟨n0, n1, _, n3, _⟩ := hok.range h0
        have e : (s.data.toList.length : Int) = s.size := rfl
        omega
      · have h1 : b = [] := List.eq_nil_of_length_eq_zero (by omega)
        subst h1
        exact g1
    have l2 : (tb (rowO s.data.toList a)).size ≤ 200 := by
      have := rowO_len (s := s.data.toList) g4
      show (rowO s.data.toList a).length ≤ 200
      by_cases h0 : 0 < a.length ∨ 0 < b.length
      · obtain ⟨n0, n1, n2, _, _⟩ := hok.range h0
        have e : (s.data.toList.length : Int) = s.size := rfl
        omega
      · have h1 : a = [] := List.eq_nil_of_length_eq_zero (by omega)
        subst h1
        exact g1
    have R2 := Lib.hid (fun w A1 c1 B0 h hB0 => row_ok (tb (rowO s.data.toList b)) A1 la c1 B0 (allO a b).1 ((allO_len a b).1.trans hla) l1 g3 hka w h hB0)
    have R4 := Lib.hid (fun w A1 c1 B0 h hB0 => row_ok (tb (rowO s.data.toList a)) A1 lb c1 B0 (allO a b).2 ((allO_len a b).2.trans hlb) l2 g5 hkb w h hB0)
    simp only [tb_list] at R2 R4
    rw [g6] at R2
    have la30 : la ≤ 30 := hla ▸ hok.la
    have lb30 : lb ≤ 30 := hlb ▸ hok.lb
    clear hla hlb hE g2 g3 g4 g5 g6 hok l1 l2
    generalize tb (rowO s.data.toList b) = t1 at *
    generalize tb (rowO s.data.toList a) = t2 at *
    generalize tb (rowO (rowO s.data.toList a) (allO a b).2) = t3 at *
    have q9 : (t3.toList == t3.toList) = true := by simp
    go_enter Try.func6, Try.ntmps6
    go_wp2_with fail
    refine (shifts_any _).mono ?_
    rintro e w1 ⟨rfl, hb1⟩
    go_wp2_with fail
    refine (Hall.out _ w.heap.size (hra.below hb1) (hrb.below hb1) hb1.size).mono ?_
    rintro e w2 ⟨hb2, A1, c1, A2, c2, rfl, hr1, hr2, hc1, hc2⟩
    have hw2 := chain hb2 hb1
    clear hb1 hb2
    go_wp2_with fail
    refine (R1.out _ ((hrb.below hw2).more hw2.size) (Nat.le_refl _)).mono ?_
    rintro e w3 ⟨rfl, hb3⟩
    have hw3 := chain hb3 hw2
    have hr1 := hr1.after hb3
    have hr2 := hr2.after hb3
    clear hb3 hw2
    go_wp2_with fail
    refine (R2.out _ A1 c1 _ hr1 (Nat.le_refl _)).mono ?_
    rintro e w4 ⟨rfl, hb4⟩
    have hw4 := chain hb4 hw3
    have hr2 := hr2.after hb4
    clear hb4 hw3
    go_wp2_with fail
    refine (R3.out _ ((hra.below hw4).more hw4.size) (Nat.le_refl _)).mono ?_
    rintro e w5 ⟨rfl, hb5⟩
    have hw5 := chain hb5 hw4
    have hr2 := hr2.after hb5
    clear hb5 hw4
    go_wp2_with fail
    refine (R4.out _ A2 c2 _ hr2 (Nat.le_refl _)).mono ?_
    rintro e w6 ⟨rfl, hb6⟩
    have hw6 := chain hb6 hw5
    clear hb6 hw5
    go_wp2
    go_ret
    exact ⟨by simp, hw6⟩
  · have hne : (allE s.size a b != 0) = true := by rw [bne_iff_ne]; exact hE
    have Hall := Lib.hid (fun w B0 h h' hB0 => all_no s.size (by omega) A A' la ca lb cb B0 a b hla hlb hka hkb _ rfl hE w h h' hB0)
    clear hla hlb
    generalize allE s.size a b = E at *
    clear hE
    go_enter Try.func6, Try.ntmps6
    go_wp2_with fail
    refine (shifts_any _).mono ?_
    rintro e w1 ⟨rfl, hb1⟩
    go_wp2_with fail
    refine (Hall.out _ w.heap.size (hra.below hb1) (hrb.below hb1) hb1.size).mono ?_
    rintro e w2 ⟨rfl, hb2⟩
    have hw2 := chain hb2 hb1
    clear hb1 hb2
    go_wp2
    go_ret
    exact ⟨by simp, hw2⟩

end Go.Proofs.Ytpeplkjidljpmaa
