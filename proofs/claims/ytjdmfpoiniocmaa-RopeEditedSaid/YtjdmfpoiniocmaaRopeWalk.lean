/- The walks of rope.Text and rope.At. -/
import Derived.Test.YtjdmfpoiniocmaaRopeCheck
import Derived.Test.YtjdmfpoiniocmaaLaidJoin
namespace Go.Proofs.Ytjdmfpoiniocmaa
open Go.RowKit
set_option linter.unusedVariables false

/-- The cells of a row of strings, as strings.Join asks them. -/
theorem reads_cells {w : World} {B n b o : Nat} {l : List ByteArray} (r : Reads w B (some ⟨b, o, none⟩) n 1 (l.flatMap cStr)) (hl : l.length = n) (hn : 0 < n) : b < B ∧ ∀ (j : Nat) x, l[j]? = some x → w.cell? ⟨b, o + j, none⟩ = some (.string x) := by
  obtain ⟨b', o', he, hbB, hc⟩ := r.2 hn
  cases he
  refine ⟨hbB, fun j x hx => ?_⟩
  have hj : j < l.length := by
    rcases Nat.lt_or_ge j l.length with h | h
    · exact h
    · exact absurd (hx.symm.trans (List.getElem?_eq_none h)) (by simp)
  have hx' : l.getD j ByteArray.empty = x := by rw [List.getD_eq_getElem?_getD, hx]; rfl
  have c0 := hc (j * 1 + 0) (by rw [flat_length cStr 1 cStr_len]; omega)
  rw [flat_getD cStr 1 cStr_len ByteArray.empty l j _ hj (by omega), hx'] at c0
  simpa only [cStr, List.getD_cons_zero, Nat.mul_one, Nat.add_zero] using c0

theorem text_ok (A : Option Addr) (n c B : Nat) (l : List ByteArray) (hl : l.length = n) (hnc : n ≤ c) (hz : ∀ p ∈ l, p.size ≤ 140737488355328) (w : World) (r : Reads w B A n 1 (l.flatMap cStr)) (hB : B ≤ w.heap.size) (hok : checkR l = 0) :
    Calls Try.prog 17 #[ropeV A n c] w fun e w' => e = .returned (.tuple #[.string ⟨(txt l).toArray⟩, .int .i64 0]) ∧ Below w.heap.size w w' := by
  obtain ⟨k1, k2, k3⟩ := (checkR_iff l).1 hok
  have hb0 : Below w.heap.size w (w.alloc (Obj.cells #[.slice A n c] 25)) := (Below.refl _ _).alloc (Nat.le_refl _) _
  have hg0 := Blk.new w 25 #[.slice A n c]
  have h1 := rcheck_any A n c B l hl (by omega) hz (w.alloc (Obj.cells #[.slice A n c] 25)) (r.below (hb0.mono hB)) (Nat.le_trans hB hb0.size)
  rw [hok] at h1
  have H1 := Lib.hid h1
  have cg : (w.alloc (Obj.cells #[.slice A n c] 25)).cell? ⟨w.heap.size, 0, none⟩ = some (.slice A n c) := hg0.cell 0
  have hJ : ∀ w1, Below w.heap.size w w1 → Calls Try.prog 47 #[.slice A n c, .string ⟨#[]⟩] w1 fun e w' => e = .returned (.string ⟨(txt l).toArray⟩) ∧ Below w1.heap.size w1 w' := fun w1 hw1 => by
    rcases Nat.eq_zero_or_pos n with h0 | h0
    · subst h0
      obtain rfl : l = [] := List.eq_nil_of_length_eq_zero hl
      refine (join_none A c ⟨#[]⟩ w1).mono ?_
      rintro e w2 ⟨rfl, rfl⟩
      exact ⟨rfl, Below.refl _ _⟩
    · have r1 := r.below (hw1.mono hB)
      obtain ⟨b, o, rfl, hbB, _⟩ := r1.2 h0
      obtain ⟨_, hc⟩ := reads_cells r1 hl h0
      have hj := join_any b o c l ⟨#[]⟩ w1 hc (by have := hw1.size; omega) (by omega) (by omega)
      rw [show (⟨#[]⟩ : ByteArray).data.toList = [] from rfl, join_txt] at hj
      rw [hl] at hj
      exact hj (by omega)
  have HJ := Lib.hid hJ
  clear hJ h1 r hl hz k1 k2 k3
  go_enter Try.func17, Try.ntmps17
  go_wp2_with fail
  refine H1.out.mono ?_
  rintro e w1 ⟨rfl, hb1⟩
  have cg1 := (hg0.after hb1).cell 0
  have hbw1 := chain hb1 hb0
  go_wp2_with fail
  refine (HJ.out w1 hbw1).mono ?_
  rintro e w2 ⟨rfl, hb2⟩
  go_wp2
  go_ret2
  exact ⟨rfl, chain hb2 hbw1⟩

theorem text_no (A : Option Addr) (n c B : Nat) (l : List ByteArray) (hl : l.length = n) (hn : n ≤ 1000000000000000) (hz : ∀ p ∈ l, p.size ≤ 140737488355328) (w : World) (r : Reads w B A n 1 (l.flatMap cStr)) (hB : B ≤ w.heap.size) (hno : checkR l ≠ 0) :
    Calls Try.prog 17 #[ropeV A n c] w fun e w' => e = .returned (.tuple #[.string ⟨#[]⟩, .int .i64 (checkR l)]) ∧ Below w.heap.size w w' := by
  have hb0 : Below w.heap.size w (w.alloc (Obj.cells #[.slice A n c] 25)) := (Below.refl _ _).alloc (Nat.le_refl _) _
  have hg0 := Blk.new w 25 #[.slice A n c]
  have h1 := rcheck_any A n c B l hl hn hz (w.alloc (Obj.cells #[.slice A n c] 25)) (r.below (hb0.mono hB)) (Nat.le_trans hB hb0.size)
  have cg : (w.alloc (Obj.cells #[.slice A n c] 25)).cell? ⟨w.heap.size, 0, none⟩ = some (.slice A n c) := hg0.cell 0
  have q1 : (checkR l != 0) = true := by simpa using hno
  generalize checkR l = E at *
  have H1 := Lib.hid h1
  clear h1 r hl hz hno
  go_enter Try.func17, Try.ntmps17
  go_wp2_with fail
  refine H1.out.mono ?_
  rintro e w1 ⟨rfl, hb1⟩
  have hbw1 := chain hb1 hb0
  go_wp2
  go_ret2
  exact ⟨rfl, hbw1⟩

theorem getD_at (t : ByteArray) (j : Nat) (h : j < t.size) : t.data.toList.getD j 0 = t[j] := by
  rw [getD_some _ _ _ (by show j < t.size; exact h)]; rfl
/-- What 'At' answers. -/
def atF : Option UInt8 → UInt8 × Int
  | some b => (b, 0)
  | none => (0, 1)
def atV (i : Int) (l : List ByteArray) : UInt8 × Int := if checkR l ≠ 0 then (0, checkR l) else if i < 0 then (0, 1) else atF (atB i l)

set_option maxHeartbeats 2000000 in
theorem at_ok (A : Option Addr) (n c B : Nat) (l : List ByteArray) (i : Int) (hi : -9223372036854775808 ≤ i ∧ i ≤ 9223372036854775807) (hl : l.length = n) (w : World) (r : Reads w B A n 1 (l.flatMap cStr)) (hB : B ≤ w.heap.size) (hok : checkR l = 0) :
    Calls Try.prog 15 #[ropeV A n c, .int .i64 i] w fun e w' => e = .returned (.tuple #[.int .u8 ((atV i l).1.toNat : Int), .int .i64 (atV i l).2]) ∧ Below w.heap.size w w' := by
  obtain ⟨k1, k2, k3⟩ := (checkR_iff l).1 hok
  have hzz : ∀ p ∈ l, p.size ≤ 200 := fun p hp => by
    have : p.size ≤ (txt l).length := by
      obtain ⟨a, b, rfl⟩ := List.append_of_mem hp
      rw [txt_append, txt_cons, List.length_append, List.length_append, dlen]; omega
    omega
  have hb0 : Below w.heap.size w (w.alloc (Obj.cells #[.slice A n c] 25)) := (Below.refl _ _).alloc (Nat.le_refl _) _
  have hg0 := Blk.new w 25 #[.slice A n c]
  have h1 := rcheck_any A n c B l hl (by omega) (fun p hp => by have := hzz p hp; omega) (w.alloc (Obj.cells #[.slice A n c] 25)) (r.below (hb0.mono hB)) (Nat.le_trans hB hb0.size)
  rw [hok] at h1
  have H1 := Lib.hid h1
  have cg : (w.alloc (Obj.cells #[.slice A n c] 25)).cell? ⟨w.heap.size, 0, none⟩ = some (.slice A n c) := hg0.cell 0
  have hn60 : n ≤ 60 := by omega
  have Hl := Lib.hid hl
  have Hz := Lib.hid hzz
  have Hv : Hid (atV i l = if i < 0 then (0, 1) else atF (atB i l)) := Lib.hid (by unfold atV; rw [if_neg (fun h => h hok)])
  clear h1 hl hzz k2 k3 hok
  by_cases h0 : i < 0
  · have q1 : decide (i < 0) = true := decide_eq_true h0
    have Hv2 : Hid (atV i l = (0, 1)) := Lib.hid (by rw [Hv.out, if_pos h0])
    clear h0 r
    go_enter Try.func15, Try.ntmps15
    go_wp2_with fail
    refine H1.out.mono ?_
    rintro e w1 ⟨rfl, hb1⟩
    have hbw1 := chain hb1 hb0
    go_wp2
    go_ret2
    exact ⟨by rw [Hv2.out]; rfl, hbw1⟩
  have q1 : decide (i < 0) = false := decide_eq_false h0
  obtain ⟨m, rfl⟩ : ∃ m : Nat, i = m := ⟨i.toNat, by omega⟩
  have Hv2 : Hid (atV m l = atF (atB m l)) := Lib.hid (by rw [Hv.out, if_neg h0])
  clear h0 Hv
  go_enter Try.func15, Try.ntmps15
  go_wp2_with fail
  refine H1.out.mono ?_
  rintro e w1 ⟨rfl, hb1⟩
  have cg1 := (hg0.after hb1).cell 0
  have hbw1 := chain hb1 hb0
  go_wp2
  go_loopw [1, 19] (fun mv iv wr => ∃ (k j : Nat), k ≤ n ∧ j ≤ m ∧ iv = .int .i64 k ∧ mv = .int .i64 j ∧ Hid (atB m l = atB j (l.drop k)) ∧ Below w.heap.size w wr) (fun _ iv _ => n - (intOf iv).toNat)
  case atStart => exact ⟨0, m, Nat.zero_le _, Nat.le_refl _, rfl, rfl, Lib.hid rfl, hbw1⟩
  case round =>
    obtain ⟨k, j, hk, hj, rfl, rfl, Hf, hbr⟩ := hrel
    by_cases hlt : k < n
    · obtain ⟨b, o, rfl, hbB, hc⟩ := (r.below' hbr hB).2 (by omega)
      have c0 := hc (k * 1 + 0) (by rw [flat_length cStr 1 cStr_len, Hl.out]; omega)
      rw [flat_getD cStr 1 cStr_len ByteArray.empty l k _ (by rw [Hl.out]; omega) (by omega)] at c0
      simp only [cStr, List.getD_cons_zero, Nat.mul_one, Nat.add_zero] at c0
      have hd := drop_getD l k ByteArray.empty (by rw [Hl.out]; omega)
      have hmem : l.getD k ByteArray.empty ∈ l := by rw [getD_some _ _ _ (by rw [Hl.out]; omega)]; exact List.getElem_mem _
      have hts : (l.getD k ByteArray.empty).size ≤ 200 := Hz.out _ hmem
      have Hd := Lib.hid hd
      clear hc hd hmem
      generalize l.getD k ByteArray.empty = t at *
      by_cases hjt : j < t.size
      · have q2 : decide ((j : Int) < (t.size : Int)) = true := decide_eq_true (by omega)
        have q3 : decide (j < t.size) = true := decide_eq_true hjt
        have H2 : Hid (atV m l = (t[j], 0)) := Lib.hid (by rw [Hv2.out, Hf.out, Hd.out, atB, if_pos (by omega), Int.toNat_natCast, getD_at t j hjt]; rfl)
        go_wp2
        go_ret2
        exact ⟨by rw [H2.out]; rfl, hbr⟩
      · have q2 : decide ((j : Int) < (t.size : Int)) = false := decide_eq_false (by omega)
        have q3 : decide (j < t.size) = false := decide_eq_false hjt
        have H2 : Hid (atB m l = atB ((j - t.size : Nat) : Int) (l.drop (k + 1))) := Lib.hid (by rw [Hf.out, Hd.out, atB, if_neg (by omega)]; congr 1; omega)
        go_wp2
        go_roundw
        case rel => exact ⟨k + 1, j - t.size, by omega, by omega, by go_num, by go_num, H2, hbr⟩
        case measure => simp [intOf]; omega
    · obtain rfl : k = n := by omega
      have H2 : Hid (atV m l = (0, 1)) := Lib.hid (by rw [Hv2.out, Hf.out, List.drop_of_length_le (by rw [Hl.out]; omega)]; rfl)
      go_wp2
      go_ret2
      exact ⟨by rw [H2.out]; rfl, hbr⟩
end Go.Proofs.Ytjdmfpoiniocmaa
