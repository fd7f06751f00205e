/- The walk of dist.Near. -/
import Derived.Test.YtccbfhaoepomnaaDist
import Derived.Test.YtccbfhaoepomnaaStruct
import Derived.Deep.DeepMust
namespace Go.Proofs.Ytccbfhaoepomnaa
open Go.RowKit
set_option linter.unusedVariables false

/-- Which of the first k texts are near. -/
def nearI (s : ByteArray) (l : List ByteArray) (most : Int) : Nat → List Int
  | 0 => []
  | k + 1 => nearI s l most k ++ if dv s (l.getD k ByteArray.empty) ≤ most then [(k : Int)] else []
theorem nearI_length (s : ByteArray) (l : List ByteArray) (most : Int) : ∀ k, (nearI s l most k).length ≤ k
  | 0 => Nat.le_refl _
  | k + 1 => by
    have := nearI_length s l most k
    rw [nearI, List.length_append]
    split <;> simp <;> omega
theorem mem_nearI (s : ByteArray) (l : List ByteArray) (most x : Int) : ∀ k, x ∈ nearI s l most k ↔ ∃ j : Nat, j < k ∧ x = j ∧ dv s (l.getD j ByteArray.empty) ≤ most
  | 0 => ⟨fun h => by simp [nearI] at h, fun ⟨j, hj, _⟩ => by omega⟩
  | k + 1 => by
    rw [nearI, List.mem_append, mem_nearI s l most x k]
    constructor
    · rintro (⟨j, h1, h2, h3⟩ | h)
      · exact ⟨j, by omega, h2, h3⟩
      · by_cases e : dv s (l.getD k ByteArray.empty) ≤ most
        · rw [if_pos e, List.mem_singleton] at h
          exact ⟨k, by omega, h, e⟩
        · rw [if_neg e] at h; simp at h
    · rintro ⟨j, h1, h2, h3⟩
      by_cases e : j = k
      · subst e
        right
        rw [if_pos h3, List.mem_singleton]; exact h2
      · exact .inl ⟨j, by omega, h2, h3⟩
/-- What Near lets in. -/
def NearOk (s : ByteArray) (l : List ByteArray) : Prop := s.size ≤ 200 ∧ l.length ≤ 200 ∧ ∀ t ∈ l, t.size ≤ 200
theorem infoIntN : (Try.prog.info? 3).map (fun i => (i.zero, i.size, i.bytes)) = some (some (.int .i64 0), 1, 8) := by kernel_rfl

set_option maxHeartbeats 2000000 in
theorem near_any (s : ByteArray) (A : Option Addr) (n c B0 : Nat) (l : List ByteArray) (most : Int) (w : World) (hn : n ≤ 1125899906842624) (hl : l.length = n) (h : Reads w B0 A n 1 (l.flatMap cStr)) (hB0 : B0 ≤ w.heap.size) :
    Calls Try.prog 31 #[.string s, .slice A n c, .int .i64 most] w fun e w' => Below w.heap.size w w' ∧
      ((NearOk s l ∧ ∃ A' c', e = .returned (.tuple #[.slice A' (nearI s l most n).length c', .int .i64 0]) ∧ Reads w' w'.heap.size A' (nearI s l most n).length 1 ((nearI s l most n).flatMap cInt)) ∨
       (¬ NearOk s l ∧ ∃ E : Int, E ≠ 0 ∧ e = .returned (.tuple #[.slice none 0 0, .int .i64 E]))) := by
  have Hl := Lib.hid hl
  by_cases hs : s.size ≤ 200
  case neg =>
    have hno : Hid (¬ NearOk s l) := fun h => hs h.1
    go_enter Try.func31, Try.ntmps31
    go_wp2_with fail
    refine (wordCheck_no s (by omega) _).mono ?_
    rintro e w1 ⟨rfl, rfl⟩
    go_wp2
    go_ret2
    exact ⟨Below.refl _ _, .inr ⟨hno.out, 2, by decide, rfl⟩⟩
  by_cases hn2 : n ≤ 200
  case neg =>
    have q1 : decide ((200 : Int) < (n : Int)) = true := decide_eq_true (by omega)
    have hno : Hid (¬ NearOk s l) := fun h => hn2 (by have := h.2.1; omega)
    go_enter Try.func31, Try.ntmps31
    go_wp2_with fail
    refine (wordCheck_ok s hs _).mono ?_
    rintro e w1 ⟨rfl, rfl⟩
    go_wp2
    go_ret2
    exact ⟨Below.refl _ _, .inr ⟨hno.out, 2, by decide, rfl⟩⟩
  clear hl
  have q1 : decide ((200 : Int) < (n : Int)) = false := decide_eq_false (by omega)
  go_enter Try.func31, Try.ntmps31
  go_wp2_with fail
  refine (wordCheck_ok s hs _).mono ?_
  rintro e w1 ⟨rfl, rfl⟩
  go_wp2
  go_loopw [9, 24] (fun ov iv wr => ∃ (k m : Nat) (A' : Option Addr) (c' : Nat), k ≤ n ∧ m ≤ k ∧ iv = .int .i64 k ∧ ov = .slice A' m c' ∧ Hid ((nearI s l most k).length = m) ∧ Hid (∀ t ∈ l.take k, t.size ≤ 200) ∧
      wr.ownsRow w.heap.size 3 1 (.slice A' m c') m ((nearI s l most k).flatMap cInt) ∧ Below w.heap.size w wr) (fun _ iv _ => n - (intOf iv).toNat)
  case atStart => exact ⟨0, 0, none, 0, Nat.zero_le _, Nat.le_refl _, rfl, rfl, rfl, Lib.hid (by simp), World.ownsRow_nil _ _ _ _, Below.refl _ _⟩
  case round =>
    obtain ⟨k, m, A', c', hk, hmk, rfl, rfl, Hm, Hin, hown, hbr⟩ := hrel
    by_cases hlt : k < n
    · have h := h.below' hbr hB0
      obtain ⟨b, o, rfl, hbB, hc⟩ := h.2 (by omega)
      have c0 := hc (k * 1 + 0) (by rw [flat_length cStr 1 cStr_len, Hl.out]; omega)
      rw [flat_getD cStr 1 cStr_len ByteArray.empty l k _ (by rw [Hl.out]; omega) (by omega)] at c0
      simp only [cStr, List.getD_cons_zero, Nat.mul_one, Nat.add_zero] at c0
      have hts := take_succ_getD l k ByteArray.empty (by rw [Hl.out]; omega)
      have hmem : l.getD k ByteArray.empty ∈ l := by rw [getD_some _ _ _ (by rw [Hl.out]; omega)]; exact List.getElem_mem _
      have hst : nearI s l most (k + 1) = nearI s l most k ++ if dv s (l.getD k ByteArray.empty) ≤ most then [(k : Int)] else [] := rfl
      have Hts := Lib.hid hts
      have Hmem := Lib.hid hmem
      have Hst := Lib.hid hst
      clear hc hts hmem hst
      generalize hN' : nearI s l most (k + 1) = N' at *
      have HN' := Lib.hid hN'
      clear hN'
      generalize l.getD k ByteArray.empty = t at *
      by_cases ht : t.size ≤ 200
      · have hd := dist_any s t
        have hbd := dv_bd s t
        rw [de_ok hs ht] at hd
        have Hd := Lib.hid hd
        have Hin2 : Hid (∀ u ∈ l.take (k + 1), u.size ≤ 200) := fun u hu => by
          rw [Hts.out, List.mem_append, List.mem_singleton] at hu
          rcases hu with hu | rfl
          · exact Hin.out u hu
          · exact ht
        clear hd
        by_cases hle : dv s t ≤ most
        · have q2 : decide (dv s t ≤ most) = true := decide_eq_true hle
          have Hst2 : Hid (N' = nearI s l most k ++ [(k : Int)]) := by have := Hst.out; rwa [if_pos hle] at this
          clear hle
          generalize dv s t = D at *
          go_wp2_with fail
          refine (Hd.out _).mono ?_
          rintro e w2 ⟨rfl, hb2⟩
          have hown2 := hown.kept (row := none) ⟨hb2.os, hb2.tape, hb2.output, hb2.size, fun k hk _ => hb2.block k hk⟩ (by cases A' <;> simp [Value.ownBlock])
          have hbr2 := chain hb2 hbr
          clear hown hb2 hbr
          go_wp2_with (first | (at_builtin; go_must (refine wpList_append_new _ 23 (.tmp 41) (.tmp 43) rfl rfl w.heap.size 3 infoIntN Try.underlying23 rfl (by decide) _ _ _ _ rfl hown2 #[.int .i64 (k : Int)] 1 rfl rfl (by simp [Value.oneCell']) (by unfold maxLen; omega) (by omega) hbr2.size ?_); intro A3 c3 w3 hown3 hb3 hg3))
          go_roundw
          case rel =>
            refine ⟨k + 1, m + 1, A3, c3, by omega, by omega, by go_num, rfl, Lib.hid (by rw [HN'.out, Hst2.out, List.length_append, Hm.out]; rfl), Hin2, ?_, hbr2.trans hb3⟩
            rw [HN'.out, Hst2.out, flat_snoc]; exact hown3
          case measure => simp [intOf]; omega
        · have q2 : decide (dv s t ≤ most) = false := decide_eq_false hle
          have Hst2 : Hid (N' = nearI s l most k) := by have := Hst.out; rwa [if_neg hle, List.append_nil] at this
          clear hle
          generalize dv s t = D at *
          go_wp2_with fail
          refine (Hd.out _).mono ?_
          rintro e w2 ⟨rfl, hb2⟩
          have hown2 := hown.kept (row := none) ⟨hb2.os, hb2.tape, hb2.output, hb2.size, fun k hk _ => hb2.block k hk⟩ (by cases A' <;> simp [Value.ownBlock])
          have hbr2 := chain hb2 hbr
          clear hown hb2 hbr
          go_wp2
          go_roundw
          case rel =>
            refine ⟨k + 1, m, A', c', by omega, by omega, by go_num, rfl, Lib.hid (by rw [HN'.out, Hst2.out]; exact Hm.out), Hin2, ?_, hbr2⟩
            rw [HN'.out, Hst2.out]; exact hown2
          case measure => simp [intOf]; omega
      · have hno : Hid (¬ NearOk s l) := fun hh => ht (hh.2.2 t Hmem.out)
        go_wp2_with fail
        refine (dist_no s t (by omega) _).mono ?_
        rintro e w2 ⟨rfl, rfl⟩
        go_wp2
        go_ret2
        exact ⟨hbr, .inr ⟨hno.out, 2, by decide, rfl⟩⟩
    · obtain rfl : k = n := by omega
      have e : l.take k = l := List.take_of_length_le (by rw [Hl.out]; omega)
      rw [e] at Hin
      have hok : Hid (NearOk s l) := ⟨hs, by rw [Hl.out]; omega, Hin.out⟩
      go_wp2
      go_ret2
      refine ⟨hbr, .inl ⟨hok.out, A', c', ?_, ?_⟩⟩
      · rw [Hm.out]; rfl
      · rw [Hm.out]; exact Reads.of_own hown

end Go.Proofs.Ytccbfhaoepomnaa
