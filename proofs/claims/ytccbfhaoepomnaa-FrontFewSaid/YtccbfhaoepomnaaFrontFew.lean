/- FrontFew's walk: the index of a byte that occurred before is less than the number of distinct bytes so far, and otherwise at least its initial index. -/
import Derived.Test.YtccbfhaoepomnaaFrontLaws
import Derived.Test.YtccbfhaoepomnaaContains
namespace Go.Proofs.Ytccbfhaoepomnaa
open Go.RowKit
set_option linter.unusedVariables false

theorem nodup_le {α : Type} [DecidableEq α] : ∀ (l m : List α), l.Nodup → (∀ x ∈ l, x ∈ m) → l.length ≤ m.length
  | [], _, _, _ => Nat.zero_le _
  | x :: l, m, hn, hs => by
    obtain ⟨hx, hl⟩ := List.nodup_cons.1 hn
    have hm := hs x (by simp)
    have ih := nodup_le l (m.erase x) hl fun y hy => by
      rw [List.mem_erase_of_ne (by rintro rfl; exact hx hy)]
      exact hs y (by simp [hy])
    rw [List.length_erase_of_mem hm] at ih
    have := List.length_pos_of_mem hm
    rw [List.length_cons]; omega

/-- The shelf is those that came, in some order, and all others, rising. -/
def FewInv (came σ : List UInt8) : Prop := ∃ p r, σ = p ++ r ∧ (∀ x, x ∈ p ↔ x ∈ came) ∧ p.length = came.length ∧ r.Pairwise (· < ·)
theorem few_zero : FewInv [] shelf0 := by
  refine ⟨[], shelf0, rfl, fun x => Iff.rfl, rfl, ?_⟩
  unfold shelf0
  rw [List.pairwise_map]
  refine List.Pairwise.imp_of_mem ?_ List.pairwise_lt_range
  intro a b ha hb hab
  rw [List.mem_range] at ha hb
  rw [UInt8.lt_iff_toNat_lt, UInt8.toNat_ofNat', UInt8.toNat_ofNat']
  omega
theorem few_came {came σ : List UInt8} (h : FewInv came σ) {c : UInt8} (hc : c ∈ came) : σ.idxOf c < came.length ∧ FewInv came (takeF σ (σ.idxOf c)) := by
  obtain ⟨p, r, rfl, h1, h2, h3⟩ := h
  have hp := (h1 c).2 hc
  have hi : (p ++ r).idxOf c = p.idxOf c := by rw [List.idxOf_append, if_pos hp]
  have hlt := List.idxOf_lt_length_of_mem hp
  rw [hi]
  refine ⟨by omega, c :: (p.take (p.idxOf c) ++ p.drop (p.idxOf c + 1)), r, ?_, ?_, ?_, h3⟩
  · unfold takeF
    have e : (p ++ r).getD (p.idxOf c) 0 = c := by rw [getD_app_left _ _ _ _ hlt, getD_some _ _ _ hlt]; exact List.getElem_idxOf _
    rw [e, List.take_append_of_le_length (by omega), List.drop_append_of_le_length (by omega)]
    simp
  · intro x
    rw [← h1 x]
    have := takeF_perm p (p.idxOf c) hlt
    have e : takeF p (p.idxOf c) = c :: (p.take (p.idxOf c) ++ p.drop (p.idxOf c + 1)) := by
      unfold takeF; rw [getD_some _ _ _ hlt, List.getElem_idxOf]
    rw [e] at this
    exact this.mem_iff
  · rw [← h2, List.length_cons, List.length_append, List.length_take, List.length_drop]; omega
theorem few_new {came σ : List UInt8} (h : FewInv came σ) (hs : Shelf σ) {c : UInt8} (hc : c ∉ came) :
    came.length ≤ σ.idxOf c ∧ c.toNat ≤ σ.idxOf c ∧ FewInv (came ++ [c]) (takeF σ (σ.idxOf c)) := by
  have hbig := idxOf_lt' hs c
  have hget := getD_idxOf hs c
  obtain ⟨p, r, rfl, h1, h2, h3⟩ := h
  have hp : c ∉ p := fun hh => hc ((h1 c).1 hh)
  have hr : c ∈ r := by
    have := hs.2.2 c
    rw [List.mem_append] at this
    exact this.resolve_left hp
  have hi : (p ++ r).idxOf c = p.length + r.idxOf c := by rw [List.idxOf_append, if_neg hp, Nat.add_comm]
  have hlt := List.idxOf_lt_length_of_mem hr
  rw [hi]
  refine ⟨by omega, ?_, c :: p, r.take (r.idxOf c) ++ r.drop (r.idxOf c + 1), ?_, ?_, ?_, ?_⟩
  · have hsub : ∀ x ∈ (List.range c.toNat).map UInt8.ofNat, x ∈ p ++ r.take (r.idxOf c) := by
      intro x hx
      obtain ⟨m, hm, rfl⟩ := List.mem_map.1 hx
      rw [List.mem_range] at hm
      have hcm := c.toNat_lt
      have hxc : UInt8.ofNat m < c := by rw [UInt8.lt_iff_toNat_lt, UInt8.toNat_ofNat']; omega
      have hmem := hs.2.2 (UInt8.ofNat m)
      rw [List.mem_append] at hmem ⊢
      refine hmem.imp id fun hr' => ?_
      have er : r = r.take (r.idxOf c) ++ c :: r.drop (r.idxOf c + 1) := by
        conv => lhs; rw [split_at r (r.idxOf c) hlt, getD_some _ _ _ hlt, List.getElem_idxOf]
      rw [er] at hr' h3
      rw [List.mem_append, List.mem_cons] at hr'
      rcases hr' with h | h | h
      · exact h
      · rw [h] at hxc; exact absurd hxc (UInt8.lt_irrefl _)
      · have h4 := (List.pairwise_append.1 h3).2.1
        have h5 := (List.pairwise_cons.1 h4).1 _ h
        exact absurd (UInt8.lt_trans hxc h5) (UInt8.lt_irrefl _)
    have hnd : ((List.range c.toNat).map UInt8.ofNat).Nodup := by
      rw [List.nodup_iff_pairwise_ne, List.pairwise_map]
      refine List.Pairwise.imp_of_mem ?_ List.nodup_range
      intro a b ha hb hne e
      have h1 := congrArg UInt8.toNat e
      have hcm := c.toNat_lt
      rw [List.mem_range] at ha hb
      rw [UInt8.toNat_ofNat', UInt8.toNat_ofNat'] at h1
      omega
    have := nodup_le _ _ hnd hsub
    rw [List.length_map, List.length_range, List.length_append, List.length_take] at this
    omega
  · unfold takeF
    rw [hi] at hget
    rw [hget, List.take_append, List.drop_append, List.take_of_length_le (by omega), List.drop_of_length_le (by omega), List.nil_append,
      show p.length + r.idxOf c - p.length = r.idxOf c from by omega, show p.length + r.idxOf c + 1 - p.length = r.idxOf c + 1 from by omega]
    simp
  · intro x
    rw [List.mem_append, List.mem_singleton, List.mem_cons, h1 x, Or.comm]
  · rw [List.length_cons, List.length_append, List.length_singleton, h2]
  · have hsl : (r.take (r.idxOf c) ++ r.drop (r.idxOf c + 1)).Sublist r := by
      conv => rhs; rw [split_at r (r.idxOf c) hlt]
      exact List.Sublist.append (List.Sublist.refl _) (List.sublist_cons_self _ _)
    exact h3.sublist hsl

set_option maxHeartbeats 2000000 in
theorem frontFew_walk (s : ByteArray) (hs0 : s.size ≤ 140737488351232) (w : World) :
    Calls Try.prog 3 #[.string s] w fun e w' => e = .returned (.bool true) ∧ Below w.heap.size w w' := by
  by_cases hs : s.size ≤ 200
  · have H1 := Lib.hid (frontPut_ok s hs)
    have hat := encF_at shelf0 s.data.toList
    have hEl := encF_length shelf0 s.data.toList
    generalize encF shelf0 s.data.toList = E at *
    have Hat := Lib.hid hat
    have HEl := Lib.hid hEl
    clear hat hEl
    have q0 : ((s.size : Int) != (s.size : Int)) = false := by simp
    go_enter Try.func3, Try.ntmps3
    go_wp2_with fail
    refine (fronts_any _).mono ?_
    rintro e w1 ⟨rfl, hb1⟩
    go_wp2_with fail
    refine (H1.out _).mono ?_
    rintro e w2 ⟨A, c, rfl, hr2, hb2, hc2⟩
    have hbw := chain hb2 hb1
    clear hb1 hb2
    go_wp2
    have hsz2 := hbw.size
    go_loopw [5, 6, 32] (fun cv _ i wr => ∃ (k n : Nat) (came : List UInt8) (A' : Option Addr) (c' : Nat), k ≤ s.size ∧ n ≤ k ∧ i = .int .i64 k ∧ cv = .slice A' n c' ∧ Hid (came.length = n) ∧ Hid (FewInv came (shelfOf shelf0 (s.data.toList.take k))) ∧
        wr.ownsRow w2.heap.size 5 1 (.slice A' n c') n (came.flatMap cByte) ∧ Below w2.heap.size w2 wr) (fun _ _ i _ => s.size - (intOf i).toNat)
    case atStart => exact ⟨0, 0, [], none, 0, Nat.zero_le _, Nat.zero_le _, rfl, rfl, rfl, few_zero, World.ownsRow_nil _ _ _ _, Below.refl _ _⟩
    case round =>
      obtain ⟨k, n, came, A', c', hk, hnk, rfl, rfl, Hn, Hinv, hown, hbr⟩ := hrel
      by_cases hlt : k < s.size
      · have hr := hr2.below hbr
        obtain ⟨b, o, rfl, hbB, hc⟩ := hr.2 (by omega)
        have c0 := hc (k * 1 + 0) (by rw [flat_length cInt 1 cInt_len, HEl.out]; show k * 1 + 0 < s.size * 1; omega)
        rw [flat_getD cInt 1 cInt_len 0 E k _ (by rw [HEl.out]; exact hlt) (by omega)] at c0
        simp only [cInt, List.getD_cons_zero, Nat.mul_one, Nat.add_zero] at c0
        have hE := Hat.out k hlt
        rw [hE, getD_bytes s k hlt] at c0
        have hok := shelfOf_ok shelf0_ok (s.data.toList.take k)
        have hsf := shelfOf_snoc shelf0 s[k] (s.data.toList.take k)
        rw [← take_succ_bytes s k hlt] at hsf
        have Hsf := Lib.hid hsf
        have Hok := Lib.hid hok
        have hm255 := idxOf_lt' hok s[k]
        have hcn := containsByte_any s[k] A' n c' w2.heap.size came
        clear hE hc hsf hok
        have hrdw := Reads.of_own hown
        by_cases hin : s[k] ∈ came
        · obtain ⟨f1, f2⟩ := few_came Hinv.out hin
          rw [Hn.out] at f1
          have F2 := Lib.hid f2
          have hcn2 : ∀ w, Reads w wr.heap.size A' n 1 (came.flatMap cByte) → Calls Try.prog 17 #[.slice A' n c', .int .u8 (s[k].toNat : Int)] w fun e w' => e = .returned (.bool true) ∧ w = w' := fun w h => by
            have := containsByte_any s[k] A' n c' _ came w (by omega) Hn.out h
            rwa [hasB_iff.2 hin] at this
          have Hcn := Lib.hid (hcn2 _ hrdw)
          clear hcn hcn2 f2 hin hrdw
          generalize hmm : (shelfOf shelf0 (s.data.toList.take k)).idxOf s[k] = m at *
          have Hmm := Lib.hid hmm
          clear hmm
          have q1 : decide ((m : Int) < 0) = false := decide_eq_false (by omega)
          have q2 : decide (n ≤ m) = false := decide_eq_false (by omega)
          have q2' : decide ((n : Int) ≤ (m : Int)) = false := decide_eq_false (by omega)
          go_wp2_with fail
          refine Hcn.out.mono ?_
          rintro e w3 ⟨rfl, rfl⟩
          go_wp2
          go_roundw
          case rel =>
            refine ⟨k + 1, n, came, A', c', by omega, by omega, by go_num, rfl, Hn, ?_, hown, hbr⟩
            rw [Hsf.out]; exact F2
          case measure => simp [intOf]; omega
        · obtain ⟨f1, f2, f3⟩ := few_new Hinv.out Hok.out hin
          rw [Hn.out] at f1
          have F3 := Lib.hid f3
          have hcn2 : ∀ w, Reads w wr.heap.size A' n 1 (came.flatMap cByte) → Calls Try.prog 17 #[.slice A' n c', .int .u8 (s[k].toNat : Int)] w fun e w' => e = .returned (.bool false) ∧ w = w' := fun w h => by
            have := containsByte_any s[k] A' n c' _ came w (by omega) Hn.out h
            rwa [hasB_no.2 hin] at this
          have Hcn := Lib.hid (hcn2 _ hrdw)
          clear hcn hcn2 f3 hin hrdw
          generalize hmm : (shelfOf shelf0 (s.data.toList.take k)).idxOf s[k] = m at *
          have Hmm := Lib.hid hmm
          clear hmm
          have q1 : decide ((m : Int) < (s[k].toNat : Int)) = false := decide_eq_false (by omega)
          have q1' : decide (m < s[k].toNat) = false := decide_eq_false (by omega)
          have q2 : decide ((255 : Int) < (m : Int)) = false := decide_eq_false (by omega)
          have q3 : decide (m < n) = false := decide_eq_false (by omega)
          have q3' : decide ((m : Int) < (n : Int)) = false := decide_eq_false (by omega)
          go_wp2_with fail
          refine Hcn.out.mono ?_
          rintro e w3 ⟨rfl, rfl⟩
          go_wp2
          go_quiet (fail)
          go_wp2_with (first | (at_builtin; go_must (refine wpList_append_new _ 27 (.tmp 79) (.tmp 83) rfl rfl w2.heap.size 5 infoByteF Try.underlying27 rfl (by decide) _ _ _ _ rfl (ownsRow_drewN hown _) #[.int .u8 (s[k].toNat : Int)] 1 rfl rfl (by simp [Value.oneCell']) (by unfold maxLen; omega) (by omega) hbr.size ?_); intro A3 c3 w3 hown3 hb3 hg3))
          go_roundw
          case rel =>
            refine ⟨k + 1, n + 1, came ++ [s[k]], A3, c3, by omega, by omega, by go_num, rfl, Lib.hid (by rw [List.length_append, Hn.out]; rfl), ?_, ?_, ?_⟩
            · rw [Hsf.out]; exact F3
            · rw [flat_snoc]; exact hown3
            · exact (below_drewN hbr _).trans hb3
          case measure => simp [intOf]; omega
      · go_wp2
        go_ret
        exact ⟨rfl, chain hbr hbw⟩
  · go_enter Try.func3, Try.ntmps3
    go_wp2_with fail
    refine (fronts_any _).mono ?_
    rintro e w1 ⟨rfl, hb1⟩
    go_wp2_with fail
    refine (frontPut_no s (by omega) _).mono ?_
    rintro e w2 ⟨rfl, rfl⟩
    go_wp2
    go_ret
    exact ⟨rfl, hb1⟩

end Go.Proofs.Ytccbfhaoepomnaa
