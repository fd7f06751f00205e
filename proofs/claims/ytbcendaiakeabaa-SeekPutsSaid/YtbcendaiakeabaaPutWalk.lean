/- The walk of seek.Put. -/
import Derived.Test.YtbcendaiakeabaaPutP
import Derived.Test.YtbcendaiakeabaaSeekLaws
namespace Go.Proofs.Ytbcendaiakeabaa
open Go.RowKit
set_option linter.unusedVariables false

/-- A text and a number, and no error. -/
def ToldPut (T : List UInt8) (n : Nat) (w : World) (e : Ending) (w' : World) : Prop := ∃ b : ByteArray, b.data.toList = T ∧ e = .returned (.tuple #[.string b, .int .i64 (n : Int), .int .i64 0]) ∧ Below w.heap.size w w'
theorem PIn.bd {s by_ : List UInt8} {m : Nat} {t : PSt} (h : PIn s by_ m t) (hm : 0 < m) (hs : s.length ≤ 200) (hb : by_.length ≤ 200) : t.n ≤ t.pos ∧ t.pos ≤ s.length ∧ t.out.length ≤ 40200 := by
  have h1 := h.le
  have h2 := h.many
  have h3 := h.len
  have : t.n * 1 ≤ t.n * m := Nat.mul_le_mul_left _ hm
  have h4 : t.n ≤ 200 := by omega
  have : t.n * by_.length ≤ 200 * 200 := Nat.mul_le_mul h4 hb
  omega

set_option maxRecDepth 100000 in
set_option maxHeartbeats 4000000 in
theorem put_ok (s p q : ByteArray) (hE : seekE s.size p.size = 0) (hq : q.size ≤ 200) (w : World) :
    Calls Try.prog 38 #[.string s, .string p, .string q] w (ToldPut (putT s.data.toList p.data.toList q.data.toList) (putN s.data.toList p.data.toList q.data.toList) w) := by
  obtain ⟨hs, hp, hp0⟩ := seekE_ok.1 hE
  have H1 := Lib.hid (find_ok s p hE)
  have hmem := mem_find s.data.toList p.data.toList hp0
  have hlen := foundOf_length s.data.toList p.data.toList s.size
  have hT : putT s.data.toList p.data.toList q.data.toList = (pfold s.data.toList q.data.toList p.size (findOf s.data.toList p.data.toList)).out ++ s.data.toList.drop (pfold s.data.toList q.data.toList p.size (findOf s.data.toList p.data.toList)).pos := rfl
  have hN : putN s.data.toList p.data.toList q.data.toList = (pfold s.data.toList q.data.toList p.size (findOf s.data.toList p.data.toList)).n := rfl
  rw [show foundOf s.data.toList p.data.toList s.size = findOf s.data.toList p.data.toList from rfl] at hlen
  generalize findOf s.data.toList p.data.toList = L at *
  have hpin := fun k => pin_fold (by_ := q.data.toList) (L.take k) fun i hi => (hmem i).1 (List.mem_of_mem_take hi)
  rw [show p.data.toList.length = p.size from rfl] at hpin
  have Hpin := Lib.hid hpin
  have Hmem := Lib.hid hmem
  have HT := Lib.hid hT
  have HN := Lib.hid hN
  have Hnl := Lib.hid (nI_length L)
  clear hpin hmem hT hN hE
  go_enter Try.func38, Try.ntmps38
  go_wp2_with fail
  refine (H1.out _).mono ?_
  rintro e w2 ⟨A, c, rfl, hr2, hb2, _⟩
  rw [Hnl.out] at hr2 ⊢
  go_wp2_with fail
  refine (wordCheck_ok q hq _).mono ?_
  rintro e w3 ⟨rfl, rfl⟩
  go_wp2
  go_loop [12, 13, 14, 16, 33] (fun ov pv nv _ kv => ∃ (k : Nat) (o : ByteArray), k ≤ L.length ∧ kv = .int .i64 k ∧ ov = .string o ∧ Hid (o.data.toList = (pfold s.data.toList q.data.toList p.size (L.take k)).out) ∧
      pv = .int .i64 ((pfold s.data.toList q.data.toList p.size (L.take k)).pos : Nat) ∧ nv = .int .i64 ((pfold s.data.toList q.data.toList p.size (L.take k)).n : Nat)) (fun _ _ _ _ kv => L.length - (intOf kv).toNat)
  case atStart => exact ⟨0, ⟨#[]⟩, Nat.zero_le _, rfl, rfl, Lib.hid rfl, rfl, rfl⟩
  case round =>
    obtain ⟨k, o, hk, rfl, rfl, Ho, rfl, rfl⟩ := hrel
    by_cases hlt : k < L.length
    · obtain ⟨b, oo, rfl, hbB, _⟩ := hr2.2 (by omega)
      have ci := nI_cell hr2 rfl k hlt
      have hx := ((Hmem.out (L.getD k 0)).1 (by rw [getD_some _ _ _ hlt]; exact List.getElem_mem _)).1
      rw [show p.data.toList.length = p.size from rfl, show s.data.toList.length = s.size from rfl] at hx
      have hst := pfold_snoc s.data.toList q.data.toList p.size (L.take k) (L.getD k 0)
      rw [← take_succ_getD L k 0 hlt] at hst
      have hbd := (Hpin.out k).bd hp0 hs hq
      rw [show s.data.toList.length = s.size from rfl] at hbd
      generalize pfold s.data.toList q.data.toList p.size (L.take k) = t at *
      generalize L.getD k 0 = x at *
      obtain ⟨to, tp, tn⟩ := t
      simp only at hbd Ho ⊢
      have Hst := Lib.hid hst
      clear hst
      by_cases hge : tp ≤ x
      · have q1 : decide ((tp : Int) ≤ (x : Int)) = true := decide_eq_true (by omega)
        have q1' : decide (tp ≤ x) = true := decide_eq_true hge
        have hxs : (x : Int) ≤ s.size := by omega
        have hos : o.size ≤ 40200 := by rw [show o.size = o.data.toList.length from rfl, Ho.out]; exact hbd.2.2
        have hes : (s.extract tp x).size ≤ 200 := by simp; omega
        have hca : ∀ w, (Op.stringOp .add (s.extract tp x) q).run Try.prog w = .ok (.string (s.extract tp x ++ q)) w := fun w => run_string_add_sum w _ _ (by omega)
        have hcb : ∀ w, (Op.stringOp .add o (s.extract tp x ++ q)).run Try.prog w = .ok (.string (o ++ (s.extract tp x ++ q))) w := fun w => run_string_add_sum w _ _ (by rw [ByteArray.size_append]; omega)
        clear hos hes
        go_wp2
        go_round
        case rel => 
          refine ⟨k + 1, o ++ (s.extract tp x ++ q), by omega, by go_num, rfl, ?_, ?_, ?_⟩
          · rw [Hst.out, pstep, if_pos hge]
            refine Lib.hid ?_
            rw [ByteArray.data_append, Array.toList_append, ByteArray.data_append, Array.toList_append, Ho.out, Lib.extract_data]
          · rw [Hst.out, pstep, if_pos hge]; go_num
          · rw [Hst.out, pstep, if_pos hge]; go_num
        case measure => simp [intOf]; omega
      · have q1 : decide ((tp : Int) ≤ (x : Int)) = false := decide_eq_false (by omega)
        have q1' : decide (tp ≤ x) = false := decide_eq_false hge
        go_wp2
        go_round
        case rel => 
          refine ⟨k + 1, o, by omega, by go_num, rfl, ?_, ?_, ?_⟩
          · rw [Hst.out, pstep, if_neg hge]; exact Ho
          · rw [Hst.out, pstep, if_neg hge]
          · rw [Hst.out, pstep, if_neg hge]
        case measure => simp [intOf]; omega
    · obtain rfl : k = L.length := by omega
      have hbd := (Hpin.out L.length).bd hp0 hs hq
      rw [List.take_length] at hbd Ho ⊢
      rw [show s.data.toList.length = s.size from rfl] at hbd
      generalize pfold s.data.toList q.data.toList p.size L = t at *
      obtain ⟨to, tp, tn⟩ := t
      simp only at hbd Ho ⊢
      have htp : (tp : Int) ≤ s.size := by omega
      have hos : o.size ≤ 40200 := by rw [show o.size = o.data.toList.length from rfl, Ho.out]; exact hbd.2.2
      have hes : (s.extract tp s.size).size ≤ 200 := by simp; omega
      have hca : ∀ w, (Op.stringOp .add o (s.extract tp s.size)).run Try.prog w = .ok (.string (o ++ s.extract tp s.size)) w := fun w => run_string_add_sum w _ _ (by omega)
      clear hos hes
      go_wp2
      go_ret3
      refine ⟨o ++ s.extract tp s.size, ?_, by rw [HN.out]; rfl, hb2⟩
      rw [HT.out, ByteArray.data_append, Array.toList_append, Ho.out, Lib.extract_data, List.take_of_length_le]
      rw [List.length_drop]; exact Nat.le_refl _

set_option maxHeartbeats 400000 in
theorem put_no (s p q : ByteArray) (hE : seekE s.size p.size ≠ 0) (w : World) :
    Calls Try.prog 38 #[.string s, .string p, .string q] w fun e w' => e = .returned (.tuple #[.string ⟨#[]⟩, .int .i64 0, .int .i64 (seekE s.size p.size)]) ∧ w = w' := by
  have H1 := Lib.hid (find_no s p hE)
  generalize seekE s.size p.size = E at *
  have q1 : (E != 0) = true := by simpa using hE
  go_enter Try.func38, Try.ntmps38
  go_wp2_with fail
  refine (H1.out _).mono ?_
  rintro e w2 ⟨rfl, rfl⟩
  go_wp2
  go_ret3
  exact ⟨rfl, rfl⟩
end Go.Proofs.Ytbcendaiakeabaa
