import Derived.Test.YtaogegpfapfchaaGreatDoorDeskM08
import Derived.Test.YtaogegpfapfchaaGreatDoorDeskM09
import Derived.Test.YtaogegpfapfchaaGreatDoorRows
import Derived.Test.YtaogegpfapfchaaGreatDoorDeskM01
import Derived.Test.YtaogegpfapfchaaGreatDoorDeskM02
import Derived.Test.YtaogegpfapfchaaGreatDoorDeskM04
import Derived.Deep.QuietTactic
import Derived.BigQuiet
import Derived.Deep.DeepMust
/- Several texts in one: XScriptOne XEditWalk XApply XUndoP. -/
/- script.Write and script.Read, each answer in one form. -/
namespace Go.Proofs.YtaogegpfapfchaaGreatDoor
open Go.RowKit
set_option linter.unusedVariables false

/-- Edits that lie there and fit. -/
structure EdsAt (w : World) (A : Option Addr) (n c : Nat) (l : List Ed) : Prop where
  len : l.length = n
  small : n ≤ 4398046511104
  ok : ∀ x ∈ l, (-9223372036854775808 ≤ x.1 ∧ x.1 ≤ 9223372036854775807) ∧ (-9223372036854775808 ≤ x.2.1 ∧ x.2.1 ≤ 9223372036854775807) ∧ (x.2.2).size ≤ 140737488351232
  at_ : Reads w w.heap.size A n 3 (l.flatMap cEdit)
theorem EdsAt.after {w w' : World} {A : Option Addr} {n c : Nat} {l : List Ed} (h : EdsAt w A n c l) (hb : Below w.heap.size w w') : EdsAt w' A n c l := ⟨h.len, h.small, h.ok, h.at_.after hb⟩
theorem OkLs.fits {l : List Ed} (h : OkLs l) : ∀ x ∈ l, (-9223372036854775808 ≤ x.1 ∧ x.1 ≤ 9223372036854775807) ∧ (-9223372036854775808 ≤ x.2.1 ∧ x.2.1 ≤ 9223372036854775807) ∧ (x.2.2).size ≤ 140737488351232 := fun x hx => by
  obtain ⟨h1, h2, h3⟩ := h x hx
  omega
/-- What may be written. -/
def Wr (l : List Ed) : Prop := l.length ≤ 20 ∧ OkLs l
theorem write_one {A : Option Addr} {n c : Nat} {l : List Ed} (w : World) (ht : Tab w) (h : EdsAt w A n c l) :
    Calls Tryz.prog 119 #[.slice A n c] w fun e w' => ∃ (t : ByteArray) (E : Int), e = .returned (.tuple #[.string t, .int .i64 E]) ∧ ((E = 0 ∧ Wr l ∧ t.data.toList = writeL l) ∨ (E ≠ 0 ∧ ¬ Wr l ∧ t = ⟨#[]⟩)) ∧ Below w.heap.size w w' := by
  refine (write_any A n c _ l h.small h.len h.ok w ht h.at_ (Nat.le_refl _)).mono ?_
  rintro e w' ⟨hb, ⟨h1, h2, b, h3, rfl⟩ | ⟨h1, E, h2, rfl⟩⟩
  · exact ⟨b, 0, rfl, .inl ⟨rfl, ⟨h1, h2⟩, h3⟩, hb⟩
  · exact ⟨_, E, rfl, .inr ⟨h2, h1, rfl⟩, hb⟩
theorem read_one (s : ByteArray) (hs : s.size ≤ 140737488351232) (w : World) :
    Calls Tryz.prog 124 #[.string s] w fun e w' => ∃ (A : Option Addr) (c : Nat) (l : List Ed) (E : Int), e = .returned (.tuple #[.slice A l.length c, .int .i64 E]) ∧ ((E = 0 ∧ ReadOk s.data.toList l) ∨ (E = 12 ∧ (∀ m, ¬ ReadOk s.data.toList m) ∧ l = [])) ∧ EdsAt w' A l.length c l ∧ Below w.heap.size w w' := by
  refine (read_any s hs w).mono ?_
  rintro e w' ⟨hb, ⟨A, c, l, h1, rfl, h2⟩ | ⟨h1, rfl⟩⟩
  · exact ⟨A, c, l, 0, rfl, .inl ⟨rfl, h1⟩, ⟨rfl, by have := h1.2.1; omega, h1.2.2.fits, Reads.of_own h2⟩, hb⟩
  · exact ⟨none, 0, [], 12, rfl, .inr ⟨rfl, h1, rfl⟩, ⟨rfl, by decide, (fun x hx => by cases hx), Reads.nil⟩, hb⟩
theorem writes_len {l : List Ed} (h : Wr l) : (writeL l).length ≤ 20000 := by
  have := write_len h.2
  have := h.1
  omega
theorem edsAt_of {w : World} {A : Option Addr} {len cap : Nat} {l : List Ed} (h : EditsIn w A len cap l) : EdsAt w A len cap l := ⟨h.1, by have := h.2.2.1; omega, h.2.2.2.1, h.2.1⟩
end Go.Proofs.YtaogegpfapfchaaGreatDoor

/- The walks of edit.Check and edit.Apply. -/
namespace Go.Proofs.YtaogegpfapfchaaGreatDoor
open Go.RowKit
set_option linter.unusedVariables false

set_option maxHeartbeats 1000000 in
theorem check_any (n : Int) (hn : -9223372036854775808 ≤ n ∧ n ≤ 9223372036854775807) (A : Option Addr) (len c B0 : Nat) (l : List Ed) (hlen : len ≤ 4398046511104) (hl : l.length = len) (ho : ∀ x ∈ l, (-9223372036854775808 ≤ x.1 ∧ x.1 ≤ 9223372036854775807) ∧ (-9223372036854775808 ≤ x.2.1 ∧ x.2.1 ≤ 9223372036854775807) ∧ (x.2.2).size ≤ 140737488351232)
    (w : World) (h : Reads w B0 A len 3 (l.flatMap cEdit)) (hB0 : B0 ≤ w.heap.size) :
    Calls Tryz.prog 138 #[.int .i64 n, .slice A len c] w fun e w' => e = .returned (.int .i64 (checkE n l)) ∧ Below w.heap.size w w' := by
  have hcE : checkE n l = if n < 0 ∨ 200 < n then 1 else if 20 < l.length then 2 else chk n true 0 n l := rfl
  rw [hl] at hcE
  have HcE := Lib.hid hcE
  clear hcE
  generalize hR : checkE n l = R at HcE ⊢
  have Hl := Lib.hid hl
  clear hR hl
  by_cases h1 : n < 0
  · have e1 : R = 1 := by rw [HcE.out, if_pos (.inl h1)]
    have e1 := e1.symm
    subst e1
    have q1 : decide (n < 0) = true := decide_eq_true h1
    go_enter Tryz.func138, Tryz.ntmps138
    go_wp2
    go_ret
    exact ⟨rfl, Below.refl _ _⟩
  by_cases h2 : 200 < n
  · have e1 : R = 1 := by rw [HcE.out, if_pos (.inr h2)]
    have e1 := e1.symm
    subst e1
    have q1 : decide (n < 0) = false := decide_eq_false h1
    have q2 : decide (200 < n) = true := decide_eq_true h2
    go_enter Tryz.func138, Tryz.ntmps138
    go_wp2
    go_ret
    exact ⟨rfl, Below.refl _ _⟩
  by_cases h3 : 20 < len
  · have e1 : R = 2 := by rw [HcE.out, if_neg (by omega), if_pos h3]
    have e1 := e1.symm
    subst e1
    have q1 : decide (n < 0) = false := decide_eq_false h1
    have q2 : decide (200 < n) = false := decide_eq_false h2
    have q3 : decide ((20 : Int) < (len : Int)) = true := decide_eq_true (by omega)
    go_enter Tryz.func138, Tryz.ntmps138
    go_wp2
    go_ret
    exact ⟨rfl, Below.refl _ _⟩
  have e0 : R = chk n true 0 n l := by rw [HcE.out, if_neg (by omega), if_neg h3]
  have E0 := Lib.hid e0
  clear e0 HcE
  have q1 : decide (n < 0) = false := decide_eq_false h1
  have q2 : decide (200 < n) = false := decide_eq_false h2
  have q3 : decide ((20 : Int) < (len : Int)) = false := decide_eq_false (by omega)
  go_enter Tryz.func138, Tryz.ntmps138
  go_wp2
  go_loopw [5, 6, 7, 8, 21] (fun ev zv _ _ i wr => ∃ (k : Nat) (E Z : Int), k ≤ len ∧ i = .int .i64 k ∧ ev = .int .i64 E ∧ zv = .int .i64 Z ∧ 0 ≤ E ∧ E ≤ 200 ∧ -200 * (k : Int) ≤ Z ∧ Z ≤ 200 + 40 * (k : Int) ∧ R = chk n (k == 0) E Z (l.drop k) ∧ Below w.heap.size w wr)
    (fun _ _ _ _ i _ => len - (intOf i).toNat)
  case atStart => exact ⟨0, 0, n, Nat.zero_le _, rfl, rfl, rfl, by omega, by omega, by omega, by omega, E0.out, Below.refl _ _⟩
  case round =>
    obtain ⟨k, E, Z, hk, rfl, rfl, rfl, hE0, hE1, hZ0, hZ1, hR, hbr⟩ := hrel
    by_cases hlt : k < len
    · have h := h.below' hbr hB0
      obtain ⟨b, o, rfl, hbB, hc⟩ := h.2 (by omega)
      have c0 := hc (k * 3 + 0) (by rw [flat_length cEdit 3 cEdit_len, Hl.out]; omega)
      have c1 := hc (k * 3 + 1) (by rw [flat_length cEdit 3 cEdit_len, Hl.out]; omega)
      have c2 := hc (k * 3 + 2) (by rw [flat_length cEdit 3 cEdit_len, Hl.out]; omega)
      have dE : Ed := (0, 0, ByteArray.empty)
      rw [flat_getD cEdit 3 cEdit_len dE l k _ (by rw [Hl.out]; omega) (by omega)] at c0 c1 c2
      simp only [cEdit, List.getD_cons_zero, List.getD_cons_succ, Nat.add_zero, ← Nat.add_assoc] at c0 c1 c2
      have hx := ho (l.getD k dE) (by rw [getD_some _ _ _ (by rw [Hl.out]; omega)]; exact List.getElem_mem _)
      rw [drop_getD l k dE (by rw [Hl.out]; omega), chk] at hR
      generalize l.getD k dE = x at *
      obtain ⟨at_, del, ins⟩ := x
      simp only at c0 c1 c2 hx hR
      have HR := Lib.hid hR
      clear hR hc
      have hbB' : b < wr.heap.size := by have := hbr.size; omega
      by_cases a1 : at_ < 0
      · have p1 : decide (at_ < 0) = true := decide_eq_true a1
        have e1 : R = 1 := by rw [HR.out, if_pos (.inl a1)]
        have E1 := Lib.hid e1
        clear e1 HR
        go_wp2
        go_ret
        exact ⟨by rw [E1.out]; rfl, hbr.alloc hbr.size _⟩
      have p1 : decide (at_ < 0) = false := decide_eq_false a1
      by_cases a2 : del < 0
      · have p2 : decide (del < 0) = true := decide_eq_true a2
        have e1 : R = 1 := by rw [HR.out, if_pos (.inr (.inl a2))]
        have E1 := Lib.hid e1
        clear e1 HR
        go_wp2
        go_ret
        exact ⟨by rw [E1.out]; rfl, hbr.alloc hbr.size _⟩
      have p2 : decide (del < 0) = false := decide_eq_false a2
      by_cases a3 : n < at_
      · have p3 : decide (n < at_) = true := decide_eq_true a3
        have e1 : R = 1 := by rw [HR.out, if_pos (.inr (.inr (.inl a3)))]
        have E1 := Lib.hid e1
        clear e1 HR
        go_wp2
        go_ret
        exact ⟨by rw [E1.out]; rfl, hbr.alloc hbr.size _⟩
      have p3 : decide (n < at_) = false := decide_eq_false a3
      by_cases a4 : n - at_ < del
      · have p4 : decide (n - at_ < del) = true := decide_eq_true a4
        have e1 : R = 1 := by rw [HR.out, if_pos (.inr (.inr (.inr a4)))]
        have E1 := Lib.hid e1
        clear e1 HR
        go_wp2
        go_ret
        exact ⟨by rw [E1.out]; rfl, hbr.alloc hbr.size _⟩
      have p4 : decide (n - at_ < del) = false := decide_eq_false a4
      have g1 : ¬ (at_ < 0 ∨ del < 0 ∨ n < at_ ∨ n - at_ < del) := by omega
      by_cases a5 : 40 < ins.size
      · have p5 : decide ((40 : Int) < (ins.size : Int)) = true := decide_eq_true (by omega)
        have e1 : R = 2 := by rw [HR.out, if_neg g1, if_pos a5]
        have E1 := Lib.hid e1
        clear e1 HR
        go_wp2
        go_ret
        exact ⟨by rw [E1.out]; rfl, hbr.alloc hbr.size _⟩
      have p5 : decide ((40 : Int) < (ins.size : Int)) = false := decide_eq_false (by omega)
      have g2 : ¬ 40 < ins.size := a5
      by_cases a6 : del = 0 ∧ ins.size = 0
      · obtain ⟨a6, a6'⟩ := a6
        have e1 : R = 5 := by rw [HR.out, if_neg g1, if_neg g2, if_pos ⟨a6, a6'⟩]
        have E1 := Lib.hid e1
        clear e1 HR
        subst a6
        have hi : ins = ⟨#[]⟩ := ba_ext (by rw [List.eq_nil_of_length_eq_zero (show ins.data.toList.length = 0 from a6')])
        subst hi
        go_wp2
        go_ret
        exact ⟨by rw [E1.out]; rfl, hbr.alloc hbr.size _⟩
      by_cases a7 : del = 0
      · have a6' : ins.size ≠ 0 := fun hh => a6 ⟨a7, hh⟩
        have p6 : (del == 0) = true := by simp [a7]
        have p7 : (ins.toList == []) = false := by
          rw [ByteArray.toList_eq, beq_eq_false_iff_ne]
          intro hh
          exact a6' (show ins.data.toList.length = 0 by rw [hh]; rfl)
        by_cases a8 : 0 < k ∧ at_ ≤ E
        · obtain ⟨a8, a9⟩ := a8
          have p8 : decide ((0 : Int) < (k : Int)) = true := decide_eq_true (by omega)
          have p9 : decide (at_ ≤ E) = true := decide_eq_true a9
          have e1 : R = 6 := by rw [HR.out, if_neg g1, if_neg g2, if_neg a6, if_pos ⟨by simp; omega, a9⟩]
          have E1 := Lib.hid e1
          clear e1 HR
          go_wp2
          go_ret
          exact ⟨by rw [E1.out]; rfl, hbr.alloc hbr.size _⟩
        have e1 : R = chk n (k + 1 == 0) (at_ + del) (Z + (ins.size - del)) (l.drop (k + 1)) := by
          rw [HR.out, if_neg g1, if_neg g2, if_neg a6, if_neg (fun hh => a8 ⟨by have := hh.1; simp at this; omega, hh.2⟩)]
          rfl
        have E1 := Lib.hid e1
        clear e1 HR
        rcases Nat.eq_zero_or_pos k with k0 | k0
        · subst k0
          simp only [Nat.zero_mul, Nat.add_zero] at c0 c1 c2
          have p8 : decide ((0 : Int) < ((0 : Nat) : Int)) = false := by decide
          go_wp2
          go_roundw
          case rel => exact ⟨_, at_ + del, Z + (ins.size - del), by omega, by go_num, by go_num, by go_num, by omega, by omega, by omega, by omega, E1.out, hbr.alloc hbr.size _⟩
          case measure => simp only [intOf]; omega
        · have p8 : decide ((0 : Int) < (k : Int)) = true := decide_eq_true (by omega)
          have p9 : decide (at_ ≤ E) = false := decide_eq_false (fun hh => a8 ⟨k0, hh⟩)
          go_wp2
          go_roundw
          case rel => exact ⟨_, at_ + del, Z + (ins.size - del), by omega, by go_num, by go_num, by go_num, by omega, by omega, by omega, by omega, E1.out, hbr.alloc hbr.size _⟩
          case measure => simp only [intOf]; omega
      · have p6 : (del == 0) = false := by simpa using a7
        by_cases a8 : 0 < k ∧ at_ ≤ E
        · obtain ⟨a8, a9⟩ := a8
          have p8 : decide ((0 : Int) < (k : Int)) = true := decide_eq_true (by omega)
          have p9 : decide (at_ ≤ E) = true := decide_eq_true a9
          have e1 : R = 6 := by rw [HR.out, if_neg g1, if_neg g2, if_neg a6, if_pos ⟨by simp; omega, a9⟩]
          have E1 := Lib.hid e1
          clear e1 HR
          go_wp2
          go_ret
          exact ⟨by rw [E1.out]; rfl, hbr.alloc hbr.size _⟩
        have e1 : R = chk n (k + 1 == 0) (at_ + del) (Z + (ins.size - del)) (l.drop (k + 1)) := by
          rw [HR.out, if_neg g1, if_neg g2, if_neg a6, if_neg (fun hh => a8 ⟨by have := hh.1; simp at this; omega, hh.2⟩)]
          rfl
        have E1 := Lib.hid e1
        clear e1 HR
        rcases Nat.eq_zero_or_pos k with k0 | k0
        · subst k0
          simp only [Nat.zero_mul, Nat.add_zero] at c0 c1 c2
          have p8 : decide ((0 : Int) < ((0 : Nat) : Int)) = false := by decide
          go_wp2
          go_roundw
          case rel => exact ⟨_, at_ + del, Z + (ins.size - del), by omega, by go_num, by go_num, by go_num, by omega, by omega, by omega, by omega, E1.out, hbr.alloc hbr.size _⟩
          case measure => simp only [intOf]; omega
        · have p8 : decide ((0 : Int) < (k : Int)) = true := decide_eq_true (by omega)
          have p9 : decide (at_ ≤ E) = false := decide_eq_false (fun hh => a8 ⟨k0, hh⟩)
          go_wp2
          go_roundw
          case rel => exact ⟨_, at_ + del, Z + (ins.size - del), by omega, by go_num, by go_num, by go_num, by omega, by omega, by omega, by omega, E1.out, hbr.alloc hbr.size _⟩
          case measure => simp only [intOf]; omega
    · obtain rfl : k = len := by omega
      have e : l.drop k = [] := List.drop_of_length_le (by rw [Hl.out]; omega)
      rw [e, chk] at hR
      by_cases hz : 200 < Z
      · rw [if_pos hz] at hR
        have q4 : decide (200 < Z) = true := decide_eq_true hz
        have HR := Lib.hid hR
        clear hR
        go_wp2
        go_ret
        exact ⟨by rw [HR.out]; rfl, hbr⟩
      · rw [if_neg hz] at hR
        have q4 : decide (200 < Z) = false := decide_eq_false hz
        have HR := Lib.hid hR
        clear hR
        go_wp2
        go_ret
        exact ⟨by rw [HR.out]; rfl, hbr⟩

end Go.Proofs.YtaogegpfapfchaaGreatDoor

/- The walk of edit.Apply. -/
namespace Go.Proofs.YtaogegpfapfchaaGreatDoor
open Go.RowKit
set_option linter.unusedVariables false

theorem take_drop_eq (s : List UInt8) (a i : Nat) (h : a ≤ i) : (s.drop a).take (i - a) = (s.take i).drop a := by
  rw [List.drop_take]

theorem ba_tail (O s : ByteArray) (a : Nat) : O ++ s.extract a s.size = ⟨(O.data.toList ++ s.data.toList.drop a).toArray⟩ := ba_ext (by
  simp [ByteArray.data_append]
  rw [List.take_of_length_le]
  rw [List.length_drop]
  exact Nat.le_refl _)

set_option maxHeartbeats 1000000 in
theorem apply_ok (s : ByteArray) (A : Option Addr) (len c B0 : Nat) (l : List Ed) (hl : l.length = len) (hE : checkE s.size l = 0)
    (w : World) (h : Reads w B0 A len 3 (l.flatMap cEdit)) (hB0 : B0 ≤ w.heap.size) :
    Calls Tryz.prog 118 #[.string s, .slice A len c] w fun e w' => e = .returned (.tuple #[.string ⟨(app s.data.toList 0 l).toArray⟩, .int .i64 0]) ∧ Below w.heap.size w w' := by
  obtain ⟨h0, h1, h2, h3, h4⟩ := checkE_ok hE
  have hsl : s.data.toList.length = s.size := rfl
  have hck : ∀ w, Reads w B0 A len 3 (l.flatMap cEdit) → B0 ≤ w.heap.size → Calls Tryz.prog 138 #[.int .i64 (s.size : Int), .slice A len c] w fun e w' => e = .returned (.int .i64 0) ∧ Below w.heap.size w w' := fun w h hB0 => by
    have := check_any s.size (by omega) A len c B0 l (by omega) hl (ok_bounds (by omega) h3) w h hB0
    rwa [hE] at this
  have Hck := Lib.hid hck
  have hl20 : len ≤ 20 := by omega
  have Hl := Lib.hid hl
  have Hs := Lib.hid hsl
  clear hck hl hE hsl
  generalize hR : app s.data.toList 0 l = R
  have H3 := Lib.hid h3
  have HR := Lib.hid hR
  clear h3 hR h4
  go_enter Tryz.func118, Tryz.ntmps118
  go_wp2_with fail
  refine (Hck.out _ h hB0).mono ?_
  rintro e w1 ⟨rfl, hb1⟩
  go_wp2
  go_loopw [7, 8, 10, 20] (fun ov av _ i wr => ∃ (k a : Nat) (O : ByteArray), k ≤ len ∧ i = .int .i64 k ∧ ov = .string O ∧ av = .int .i64 a ∧ a ≤ s.size ∧ (k = 0 → a = 0) ∧ O.size ≤ 240 * k ∧ OkE s.size (k == 0) a (l.drop k) ∧
      R = O.data.toList ++ app s.data.toList a (l.drop k) ∧ Below w.heap.size w wr)
    (fun _ _ _ i _ => len - (intOf i).toNat)
  case atStart => exact ⟨0, 0, ⟨#[]⟩, Nat.zero_le _, rfl, rfl, rfl, Nat.zero_le _, fun _ => rfl, by decide, H3.out, by rw [← HR.out]; rfl, hb1⟩
  case round =>
    obtain ⟨k, a, O, hk, rfl, rfl, rfl, ha, hka, hO, hok, hR, hbr⟩ := hrel
    by_cases hlt : k < len
    · have h := h.below' hbr hB0
      obtain ⟨b, o, rfl, hbB, hc⟩ := h.2 (by omega)
      have c0 := hc (k * 3 + 0) (by rw [flat_length cEdit 3 cEdit_len, Hl.out]; omega)
      have c1 := hc (k * 3 + 1) (by rw [flat_length cEdit 3 cEdit_len, Hl.out]; omega)
      have c2 := hc (k * 3 + 2) (by rw [flat_length cEdit 3 cEdit_len, Hl.out]; omega)
      have dE : Ed := (0, 0, ByteArray.empty)
      rw [flat_getD cEdit 3 cEdit_len dE l k _ (by rw [Hl.out]; omega) (by omega)] at c0 c1 c2
      simp only [cEdit, List.getD_cons_zero, List.getD_cons_succ, Nat.add_zero, ← Nat.add_assoc] at c0 c1 c2
      rw [drop_getD l k dE (by rw [Hl.out]; omega)] at hR hok
      generalize l.getD k dE = x at *
      obtain ⟨at_, del, ins⟩ := x
      obtain ⟨o1, o2, o3, o4, o5, o6, o7⟩ := hok
      simp only at c0 c1 c2 o1 o2 o3 o4 o5 o6 o7
      obtain ⟨i, rfl⟩ : ∃ i : Nat, at_ = i := ⟨at_.toNat, by omega⟩
      obtain ⟨q, hq⟩ : ∃ q : Nat, (i : Int) + del = q := ⟨((i : Int) + del).toNat, by omega⟩
      have hai : a ≤ i := by
        rcases Nat.eq_zero_or_pos k with k0 | k0
        · have := hka k0; omega
        · have := o6 (by simp; omega); omega
      have his : i ≤ s.size := by omega
      rw [app] at hR
      simp only at hR
      rw [hq, Int.toNat_natCast, Int.toNat_natCast] at hR
      rw [hq] at o7
      have hbB' : b < wr.heap.size := by have := hbr.size; omega
      have hqs : q ≤ s.size := by omega
      have HRr := Lib.hid hR
      have O7 := Lib.hid o7
      have Hq := Lib.hid hq
      clear hR hc hq o7 o5 o6 hka
      have hrel : ∃ k' : Nat, k' = k + 1 := ⟨_, rfl⟩
      rcases Nat.eq_zero_or_pos k with k0 | k0
      · subst k0
        simp only [Nat.zero_mul, Nat.add_zero] at c0 c1 c2
        go_wp2
        go_quiet (fail)
        go_wp2
        go_roundw
        case rel =>
          refine ⟨0 + 1, q, O ++ (s.extract a i ++ ins), by omega, by go_num, rfl, by rw [← Hq.out], by omega, by omega, ?_, O7.out, ?_, below_drewN (hbr.alloc hbr.size _) _⟩
          · simp [ByteArray.size_append]; omega
          · rw [HRr.out]; simp [ByteArray.data_append, take_drop_eq _ _ _ hai]
        case measure => simp only [intOf]; omega
      · go_wp2
        go_quiet (fail)
        go_wp2
        go_roundw
        case rel =>
          refine ⟨k + 1, q, O ++ (s.extract a i ++ ins), by omega, by go_num, rfl, by rw [← Hq.out], by omega, by omega, ?_, O7.out, ?_, below_drewN (hbr.alloc hbr.size _) _⟩
          · simp [ByteArray.size_append]; omega
          · rw [HRr.out]; simp [ByteArray.data_append, take_drop_eq _ _ _ hai]
        case measure => simp only [intOf]; omega
    · obtain rfl : k = len := by omega
      have e : l.drop k = [] := List.drop_of_length_le (by rw [Hl.out]; omega)
      rw [e, app] at hR
      have HRr := Lib.hid hR
      clear hR hok hka
      have e1 : min s.size s.size = s.size := by omega
      go_wp2
      go_ret2
      refine ⟨?_, hbr⟩
      rw [HRr.out]
      rw [ba_tail]
      rfl

set_option maxHeartbeats 1000000 in
theorem apply_no (s : ByteArray) (hs : s.size ≤ 140737488355328) (A : Option Addr) (len c B0 : Nat) (l : List Ed) (hlen : len ≤ 4398046511104) (hl : l.length = len) (ho : ∀ x ∈ l, (-9223372036854775808 ≤ x.1 ∧ x.1 ≤ 9223372036854775807) ∧ (-9223372036854775808 ≤ x.2.1 ∧ x.2.1 ≤ 9223372036854775807) ∧ (x.2.2).size ≤ 140737488351232)
    (E : Int) (hE : checkE s.size l = E) (hE0 : E ≠ 0) (w : World) (h : Reads w B0 A len 3 (l.flatMap cEdit)) (hB0 : B0 ≤ w.heap.size) :
    Calls Tryz.prog 118 #[.string s, .slice A len c] w fun e w' => e = .returned (.tuple #[.string ⟨#[]⟩, .int .i64 E]) ∧ Below w.heap.size w w' := by
  have hck := fun w h hB0 => check_any s.size (by omega) A len c B0 l hlen hl ho w h hB0
  rw [hE] at hck
  have Hck := Lib.hid hck
  clear hck hE ho hl
  have q5 : (E != 0) = true := by simpa using hE0
  go_enter Tryz.func118, Tryz.ntmps118
  go_wp2_with fail
  refine (Hck.out _ h hB0).mono ?_
  rintro e w1 ⟨rfl, hb1⟩
  go_wp2
  go_ret2
  exact ⟨rfl, hb1⟩

end Go.Proofs.YtaogegpfapfchaaGreatDoor

/- Plain: the edits that undo edits. -/
namespace Go.Proofs.YtaogegpfapfchaaGreatDoor
set_option linter.unusedVariables false

/-- A list of bytes as a string. -/
def e8 (l : List UInt8) : ByteArray := ⟨l.toArray⟩
theorem e8_list (l : List UInt8) : (e8 l).data.toList = l := rfl
theorem e8_size (l : List UInt8) : (e8 l).size = l.length := rfl
theorem e8_of (s : ByteArray) : e8 s.data.toList = s := by
  cases s; rfl

/-- What Undo tells. -/
def undoE (s : List UInt8) : Int → List Ed → List Ed
  | _, [] => []
  | m, x :: l => (x.1 + m, (x.2.2.size : Int), e8 ((s.drop x.1.toNat).take x.2.1.toNat)) :: undoE s (m + (x.2.2.size - x.2.1)) l
theorem undo_snoc (s : List UInt8) : ∀ (l : List Ed) (m : Int) (x : Ed), undoE s m (l ++ [x]) = undoE s m l ++ [(x.1 + (m + gain l), (x.2.2.size : Int), e8 ((s.drop x.1.toNat).take x.2.1.toNat))]
  | [], m, x => by simp [undoE, gain]
  | y :: l, m, x => by
    rw [List.cons_append, undoE, undo_snoc s l, undoE, gain, List.cons_append]
    rw [show m + ((y.2.2.size : Int) - y.2.1) + gain l = m + ((y.2.2.size : Int) - y.2.1 + gain l) from by omega]
theorem undo_length (s : List UInt8) : ∀ (l : List Ed) (m : Int), (undoE s m l).length = l.length
  | [], m => rfl
  | y :: l, m => by rw [undoE, List.length_cons, undo_length s l, List.length_cons]
theorem undo_gain {s : List UInt8} : ∀ {l : List Ed} {f : Bool} {e m : Int}, OkE s.length f e l → gain (undoE s m l) = - gain l
  | [], f, e, m, _ => by simp [undoE, gain]
  | x :: l, f, e, m, ⟨h1, h2, h3, h4, h5, h6, h7⟩ => by
    rw [undoE, gain, undo_gain h7, gain]
    have : ((e8 ((s.drop x.1.toNat).take x.2.1.toNat)).size : Int) = x.2.1 := by
      rw [e8_size, List.length_take, List.length_drop]; omega
    simp only [this]; omega

theorem undo_all {s t : List UInt8} : ∀ {l : List Ed} {f : Bool} {e : Nat} {m : Int}, OkE s.length f e l → (∀ x ∈ l, x.2.1 ≤ 40) → (f = true → e = 0) → 0 ≤ (e : Int) + m → (e : Int) + m ≤ t.length → e ≤ s.length → t.drop ((e : Int) + m).toNat = app s e l →
    OkE t.length f (e + m) (undoE s m l) ∧ app t ((e : Int) + m).toNat (undoE s m l) = s.drop e ∧ undoE t (-m) (undoE s m l) = l
  | [], f, e, m, _, _, _, _, _, _, hd => ⟨trivial, hd, rfl⟩
  | x :: l, f, e, m, ⟨h1, h2, h3, h4, h5, h6, h7⟩, hdel, hf, hm, hmt, hes, hd => by
    obtain ⟨at_, del, ins⟩ := x
    simp only at h1 h2 h3 h4 h5 h6 h7
    obtain ⟨i, rfl⟩ : ∃ i : Nat, at_ = i := ⟨at_.toNat, by omega⟩
    obtain ⟨d, rfl⟩ : ∃ i : Nat, del = i := ⟨del.toNat, by omega⟩
    obtain ⟨p, hp⟩ : ∃ p : Nat, (e : Int) + m = p := ⟨((e : Int) + m).toNat, by omega⟩
    have hle : e ≤ i := by
      cases f with
      | true => have := hf rfl; omega
      | false => have := h6 rfl; omega
    have hdx := hdel _ List.mem_cons_self
    simp only at hdx
    have hi : ins.data.toList.length = ins.size := rfl
    rw [hp, Int.toNat_natCast, app] at hd
    simp only [Int.toNat_natCast] at hd
    rw [show ((i : Int) + (d : Int)).toNat = i + d from by omega] at hd
    have hfl : ((s.take i).drop e).length = i - e := by rw [List.length_drop, List.length_take]; omega
    have hlen := congrArg List.length hd
    rw [List.length_drop, List.length_append, List.length_append, hfl, hi] at hlen
    have hpt : p ≤ t.length := by omega
    have e1 : (((i + d : Nat) : Int)) + (m + ((ins.size : Int) - (d : Int))) = ((p + (i - e) + ins.size : Nat) : Int) := by omega
    have hd2 : t.drop (p + (i - e) + ins.size) = app s (i + d) l := by
      have := congrArg (List.drop (i - e + ins.size)) hd
      rw [List.drop_drop] at this
      rw [show p + (i - e) + ins.size = p + (i - e + ins.size) from by omega, this]
      rw [List.drop_append_of_le_length (by rw [List.length_append, hfl, hi]; omega), List.drop_eq_nil_of_le (by rw [List.length_append, hfl, hi]; omega), List.nil_append]
    have ih := undo_all (s := s) (t := t) (l := l) (f := false) (e := i + d) (m := m + ((ins.size : Int) - (d : Int))) (by rw [show ((i + d : Nat) : Int) = (i : Int) + (d : Int) from by omega]; exact h7) (fun x hx => hdel x (List.mem_cons_of_mem _ hx)) (by simp) (by omega) (by rw [e1]; omega) (by omega) (by rw [e1, Int.toNat_natCast]; exact hd2)
    rw [e1, Int.toNat_natCast] at ih
    obtain ⟨g1, g2, g3⟩ := ih
    have hcut : (s.drop i).take d ++ s.drop (i + d) = s.drop i := by
      rw [← List.drop_drop]; exact List.take_append_drop d _
    have hsz : ((s.drop i).take d).length = d := by rw [List.length_take, List.length_drop]; omega
    rw [undoE]
    simp only [Int.toNat_natCast]
    refine ⟨⟨?_, ?_, ?_, ?_, ?_, ?_, ?_⟩, ?_, ?_⟩
    · show 0 ≤ (i : Int) + m; omega
    · show 0 ≤ (ins.size : Int); omega
    · show (i : Int) + m + (ins.size : Int) ≤ t.length; omega
    · show (e8 _).size ≤ 40; rw [e8_size, hsz]; omega
    · show ¬ ((ins.size : Int) = 0 ∧ (e8 _).size = 0)
      rw [e8_size, hsz]
      intro hh; exact h5 ⟨by omega, by omega⟩
    · intro hh; have := h6 hh; show (e : Int) + m < (i : Int) + m; omega
    · show OkE t.length false ((i : Int) + m + (ins.size : Int)) _
      rw [show (i : Int) + m + (ins.size : Int) = ((p + (i - e) + ins.size : Nat) : Int) from by omega]
      exact g1
    · show (t.take ((i : Int) + m).toNat).drop ((e : Int) + m).toNat ++ (e8 _).data.toList ++ app t ((i : Int) + m + (ins.size : Int)).toNat _ = _
      rw [e8_list, show ((i : Int) + m + (ins.size : Int)).toNat = p + (i - e) + ins.size from by omega, g2, show ((i : Int) + m).toNat = p + (i - e) from by omega, hp, Int.toNat_natCast]
      have h8 : (t.take (p + (i - e))).drop p = (s.take i).drop e := by
        rw [List.drop_take, show p + (i - e) - p = i - e from by omega, hd, List.append_assoc, List.take_append_of_le_length (by omega), List.take_of_length_le (by omega)]
      rw [h8, List.append_assoc, hcut, List.drop_take]
      rw [show s.drop i = (s.drop e).drop (i - e) from by rw [List.drop_drop]; congr 1; omega]
      exact List.take_append_drop _ _
    · show ((i : Int) + m + -m, ((e8 ((s.drop i).take d)).size : Int), e8 ((t.drop ((i : Int) + m).toNat).take (ins.size : Int).toNat)) :: undoE t (-m + (((e8 ((s.drop i).take d)).size : Int) - (ins.size : Int))) _ = _
      rw [e8_size, hsz, show (i : Int) + m + -m = (i : Int) from by omega, show -m + ((d : Int) - (ins.size : Int)) = -(m + ((ins.size : Int) - (d : Int))) from by omega, g3]
      congr 3
      rw [Int.toNat_natCast, show ((i : Int) + m).toNat = p + (i - e) from by omega, ← List.drop_drop, hd, List.append_assoc, List.drop_append_of_le_length (by omega), List.drop_eq_nil_of_le (by omega), List.nil_append, List.take_append_of_le_length (by rw [hi]; exact Nat.le_refl _), List.take_of_length_le (by rw [hi]; exact Nat.le_refl _)]
      exact e8_of ins

theorem app_length {s : List UInt8} : ∀ {l : List Ed} {f : Bool} {e : Nat}, OkE s.length f e l → (f = true → e = 0) → e ≤ s.length → ((app s e l).length : Int) = s.length - e + gain l
  | [], f, e, _, _, he => by rw [app, gain, List.length_drop]; omega
  | x :: l, f, e, ⟨h1, h2, h3, h4, h5, h6, h7⟩, hf, he => by
    obtain ⟨at_, del, ins⟩ := x
    simp only at h1 h2 h3 h4 h5 h6 h7
    obtain ⟨i, rfl⟩ : ∃ i : Nat, at_ = i := ⟨at_.toNat, by omega⟩
    obtain ⟨d, rfl⟩ : ∃ i : Nat, del = i := ⟨del.toNat, by omega⟩
    have hle : e ≤ i := by
      cases f with
      | true => have := hf rfl; omega
      | false => have := h6 rfl; omega
    have ih := app_length (s := s) (l := l) (f := false) (e := i + d) (by rw [show ((i + d : Nat) : Int) = (i : Int) + (d : Int) from by omega]; exact h7) (by simp) (by omega)
    have hi : ins.data.toList.length = ins.size := rfl
    rw [app, gain]
    simp only [Int.toNat_natCast]
    rw [show ((i : Int) + (d : Int)).toNat = i + d from by omega, List.length_append, List.length_append, List.length_drop, List.length_take, hi]
    omega

/-- EditUndone, plain. -/
theorem edit_undone (s : List UInt8) (l : List Ed) (h : checkE s.length l = 0) (hdel : ∀ x ∈ l, x.2.1 ≤ 40) :
    checkE (app s 0 l).length (undoE s 0 l) = 0 ∧ app (app s 0 l) 0 (undoE s 0 l) = s ∧ undoE (app s 0 l) 0 (undoE s 0 l) = l ∧ ∀ x ∈ undoE s 0 l, x.2.1 ≤ 40 := by
  obtain ⟨h0, h1, h2, h3, h4⟩ := checkE_ok h
  have hlen := app_length (s := s) (l := l) (f := true) (e := 0) h3 (fun _ => rfl) (Nat.zero_le _)
  have hall := undo_all (s := s) (t := app s 0 l) (l := l) (f := true) (e := 0) (m := 0) h3 hdel (fun _ => rfl) (by omega) (by omega) (Nat.zero_le _) (by simp)
  have hg := undo_gain (m := 0) h3
  simp only [Int.neg_zero] at hall
  obtain ⟨g1, g2, g3⟩ := hall
  refine ⟨?_, by simpa using g2, g3, ?_⟩
  · rw [checkE_full (by omega) (by omega) (by rw [undo_length]; exact h2) g1, if_neg (by rw [hg]; omega)]
  · intro x hx
    have hins := ok_all h1 h3
    have key : ∀ (l : List Ed) (m : Int), (∀ x ∈ l, x.2.2.size ≤ 40) → ∀ x ∈ undoE s m l, x.2.1 ≤ 40 := by
      intro l
      induction l with
      | nil => intro m _ x hx; cases hx
      | cons y l ih =>
        intro m hl x hx
        rw [undoE] at hx
        rcases List.mem_cons.1 hx with rfl | hx
        · have := hl y List.mem_cons_self
          show (y.2.2.size : Int) ≤ 40; omega
        · exact ih _ (fun z hz => hl z (List.mem_cons_of_mem _ hz)) x hx
    exact key l 0 (fun y hy => (hins y hy).2.2.2) x hx

end Go.Proofs.YtaogegpfapfchaaGreatDoor

