/- SeekShift's walk: prepending bytes shifts all occurrences, and reversal mirrors them. -/
import Derived.Test.YtmojfmoinaadgaaSeekLaws
import Derived.Test.YtmojfmoinaadgaaGood
namespace Go.Proofs.Ytmojfmoinaadgaa
open Go.RowKit
set_option linter.unusedVariables false

theorem nodup_le_of {α : Type} [DecidableEq α] : ∀ (l m : List α), l.Nodup → (∀ x ∈ l, x ∈ m) → l.length ≤ m.length
  | [], _, _, _ => Nat.zero_le _
  | x :: l, m, hn, hs => by
    obtain ⟨hx, hl⟩ := List.nodup_cons.1 hn
    have hm := hs x (by simp)
    have ih := nodup_le_of l (m.erase x) hl fun y hy => by
      rw [List.mem_erase_of_ne (by rintro rfl; exact hx hy)]
      exact hs y (by simp [hy])
    rw [List.length_erase_of_mem hm] at ih
    have := List.length_pos_of_mem hm
    rw [List.length_cons]; omega
theorem rise_nodup {l : List Nat} (h : l.Pairwise (· < ·)) : l.Nodup := by
  rw [List.nodup_iff_pairwise_ne]; exact h.imp fun h => Nat.ne_of_lt h
theorem map_le {l m : List Nat} (f : Nat → Nat) (h : l.Nodup) (hi : ∀ x ∈ l, ∀ y ∈ l, f x = f y → x = y) (hs : ∀ x ∈ l, f x ∈ m) : l.length ≤ m.length := by
  have hn : (l.map f).Nodup := by
    rw [List.nodup_iff_pairwise_ne, List.pairwise_map]
    rw [List.nodup_iff_pairwise_ne] at h
    exact h.imp_of_mem fun ha hb hne e => hne (hi _ ha _ hb e)
  have := nodup_le_of (l.map f) m hn fun x hx => by
    obtain ⟨y, hy, rfl⟩ := List.mem_map.1 hx
    exact hs y hy
  rwa [List.length_map] at this

theorem occ_shift (a s p : List UInt8) (x : Nat) : Occ (a ++ s) p (x + a.length) ↔ Occ s p x := by
  unfold Occ
  rw [List.length_append]
  constructor
  · rintro ⟨h1, h2⟩
    refine ⟨by omega, fun j hj => ?_⟩
    rw [h2 j hj, getD_app_right _ _ _ _ (by omega)]; congr 1; omega
  · rintro ⟨h1, h2⟩
    refine ⟨by omega, fun j hj => ?_⟩
    rw [h2 j hj, getD_app_right _ _ _ _ (by omega)]; congr 1; omega
theorem occ_rev {s p : List UInt8} {x : Nat} (h : Occ s p x) : Occ s.reverse p.reverse (s.length - p.length - x) := by
  obtain ⟨h1, h2⟩ := h
  refine ⟨by rw [List.length_reverse, List.length_reverse]; omega, fun j hj => ?_⟩
  rw [List.length_reverse] at hj
  rw [getD_reverse _ _ _ hj, getD_reverse _ _ _ (by omega), h2 _ (by omega)]
  congr 1; omega
/-- How many are not less. -/
def cntGe (A : Nat) (M : List Nat) : Nat := (M.filter fun x => decide (A ≤ x)).length
theorem cntGe_le (A : Nat) (M : List Nat) : cntGe A M ≤ M.length := List.length_filter_le _ _
theorem cntGe_succ (A : Nat) (M : List Nat) (k : Nat) (h : k < M.length) : cntGe A (M.take (k + 1)) = cntGe A (M.take k) + if A ≤ M.getD k 0 then 1 else 0 := by
  unfold cntGe
  rw [take_succ_getD M k 0 h, List.filter_append, List.length_append]
  by_cases e : A ≤ M.getD k 0
  · rw [if_pos e, List.filter_cons, if_pos (by simpa using e)]; rfl
  · rw [if_neg e, List.filter_cons, if_neg (by simpa using e)]; rfl
theorem shift_count (a s p : List UInt8) (hp : 0 < p.length) : cntGe a.length (findOf (a ++ s) p) = (findOf s p).length := by
  have hL := rise_nodup (found_rise s p hp s.length (Nat.le_refl _))
  have hM := rise_nodup (found_rise (a ++ s) p hp (a ++ s).length (Nat.le_refl _))
  refine Nat.le_antisymm ?_ ?_
  · refine map_le (fun x => x - a.length) (hM.filter _) (fun x hx y hy e => ?_) fun x hx => ?_
    · have h1 := (List.mem_filter.1 hx).2
      have h2 := (List.mem_filter.1 hy).2
      have h1 := of_decide_eq_true h1
      have h2 := of_decide_eq_true h2
      have e : x - a.length = y - a.length := e
      omega
    · obtain ⟨h1, h2⟩ := List.mem_filter.1 hx
      have h2 := of_decide_eq_true h2
      refine (mem_find s p hp _).2 ((occ_shift a s p _).1 ?_)
      rw [Nat.sub_add_cancel h2]
      exact (mem_find _ _ hp _).1 h1
  · refine map_le (fun x => x + a.length) hL (fun x _ y _ e => by have e : x + a.length = y + a.length := e; omega) fun x hx => ?_
    refine List.mem_filter.2 ⟨(mem_find _ _ hp _).2 ((occ_shift a s p x).2 ((mem_find s p hp x).1 hx)), by simp⟩
theorem rev_count (s p : List UInt8) (hp : 0 < p.length) : (findOf s.reverse p.reverse).length = (findOf s p).length := by
  have key : ∀ s p : List UInt8, 0 < p.length → (findOf s p).length ≤ (findOf s.reverse p.reverse).length := fun s p hp => by
    refine map_le (fun x => s.length - p.length - x) (rise_nodup (found_rise s p hp s.length (Nat.le_refl _))) (fun x hx y hy e => ?_) fun x hx => ?_
    · have h1 := ((mem_find s p hp x).1 hx).1
      have h2 := ((mem_find s p hp y).1 hy).1
      have e : s.length - p.length - x = s.length - p.length - y := e
      omega
    · exact (mem_find _ _ (by rw [List.length_reverse]; exact hp) _).2 (occ_rev ((mem_find s p hp x).1 hx))
  refine Nat.le_antisymm ?_ (key s p hp)
  have := key s.reverse p.reverse (by rw [List.length_reverse]; exact hp)
  rwa [List.reverse_reverse, List.reverse_reverse] at this

theorem cut60_size (s : ByteArray) (n : Nat) : (s.extract 0 n).size ≤ n := by simp; omega

set_option maxRecDepth 100000 in
set_option maxHeartbeats 2000000 in
theorem seekShift_core (a s a0 s0 p : ByteArray) (ha : a.size ≤ 60) (hs : s.size ≤ 120) (hp0 : p.size ≤ 140737488351232)
    (ca : ∀ w, Calls Try.prog 16 #[.string a0, .int .i64 60] w fun e w' => e = .returned (.string a) ∧ w = w')
    (cs : ∀ w, Calls Try.prog 16 #[.string s0, .int .i64 120] w fun e w' => e = .returned (.string s) ∧ w = w') (w : World) :
    Calls Try.prog 12 #[.string a0, .string s0, .string p] w fun e w' => e = .returned (.bool true) ∧ Below w.heap.size w w' := by
  have hsa : (a ++ s).size = a.size + s.size := ByteArray.size_append ..
  have hrs : (ByteArray.mk s.data.toList.reverse.toArray).size = s.size := by show s.data.toList.reverse.length = _; rw [List.length_reverse]; rfl
  have hrp : (ByteArray.mk p.data.toList.reverse.toArray).size = p.size := by show p.data.toList.reverse.length = _; rw [List.length_reverse]; rfl
  have e1 : seekE (a ++ s).size p.size = seekE s.size p.size := by
    rw [hsa]; unfold seekE
    by_cases h : 200 < p.size
    · rw [if_pos (.inr h), if_pos (.inr h)]
    · have g1 : ¬ (200 < a.size + s.size ∨ 200 < p.size) := by omega
      have g2 : ¬ (200 < s.size ∨ 200 < p.size) := by omega
      rw [if_neg g1, if_neg g2]
  have e2 : seekE (ByteArray.mk s.data.toList.reverse.toArray).size (ByteArray.mk p.data.toList.reverse.toArray).size = seekE s.size p.size := by rw [hrs, hrp]
  have hz : a.size + s.size ≤ 9223372036854775807 := by omega
  have CA := Lib.hid ca
  have CS := Lib.hid cs
  have B1 := Lib.hid (back_any s (by omega))
  have B2 := Lib.hid (back_any p (by omega))
  clear ca cs
  by_cases hE : seekE s.size p.size = 0
  case neg =>
    have h1 := find_no s p hE
    have h2 := find_no (a ++ s) p (by rw [e1]; exact hE)
    have h3 := find_no ⟨s.data.toList.reverse.toArray⟩ ⟨p.data.toList.reverse.toArray⟩ (by rw [e2]; exact hE)
    rw [e1] at h2
    rw [e2] at h3
    generalize seekE s.size p.size = E at *
    have H1 := Lib.hid h1
    have H2 := Lib.hid h2
    have H3 := Lib.hid h3
    have q1 : (E != 0) = true := by simpa using hE
    have q2 : (E == E) = true := by simp
    clear h1 h2 h3 e1 e2 hsa hrs hrp
    generalize ByteArray.mk s.data.toList.reverse.toArray = rs at *
    generalize ByteArray.mk p.data.toList.reverse.toArray = rp at *
    go_enter Try.func12, Try.ntmps12
    go_wp2_with fail
    refine (seeks_any _).mono ?_
    rintro e w1 ⟨rfl, hb1⟩
    go_wp2_with fail
    refine (CA.out _).mono ?_
    rintro e w2 ⟨rfl, rfl⟩
    go_wp2_with fail
    refine (CS.out _).mono ?_
    rintro e w2 ⟨rfl, rfl⟩
    go_wp2_with fail
    refine (H1.out _).mono ?_
    rintro e w2 ⟨rfl, rfl⟩
    go_wp2_with fail
    refine (H2.out _).mono ?_
    rintro e w2 ⟨rfl, rfl⟩
    go_wp2_with fail
    refine (B1.out _).mono ?_
    rintro e w2 ⟨rfl, hb2⟩
    go_wp2_with fail
    refine (B2.out _).mono ?_
    rintro e w3 ⟨rfl, hb3⟩
    go_wp2_with fail
    refine (H3.out _).mono ?_
    rintro e w4 ⟨rfl, rfl⟩
    go_wp2
    go_ret
    exact ⟨by simp, chain hb3 (chain hb2 hb1)⟩
  obtain ⟨_, hp, hp1⟩ := seekE_ok.1 hE
  have el : (a ++ s).data.toList = a.data.toList ++ s.data.toList := by simp [ByteArray.data_append]
  have h1 := find_ok s p hE
  have h2 := find_ok (a ++ s) p (by rw [e1]; exact hE)
  have h3 := find_ok ⟨s.data.toList.reverse.toArray⟩ ⟨p.data.toList.reverse.toArray⟩ (by rw [e2]; exact hE)
  rw [el] at h2
  rw [show (ByteArray.mk s.data.toList.reverse.toArray).data.toList = s.data.toList.reverse from rfl, show (ByteArray.mk p.data.toList.reverse.toArray).data.toList = p.data.toList.reverse from rfl] at h3
  have c1 := shift_count a.data.toList s.data.toList p.data.toList hp1
  have c2 := rev_count s.data.toList p.data.toList hp1
  rw [show a.data.toList.length = a.size from rfl] at c1
  have m1 : ∀ x ∈ findOf s.data.toList p.data.toList, x + p.size ≤ s.size ∧ x + a.size ∈ findOf (a.data.toList ++ s.data.toList) p.data.toList ∧ s.size - p.size - x ∈ findOf s.data.toList.reverse p.data.toList.reverse := fun x hx => by
    have ho := (mem_find _ _ hp1 x).1 hx
    refine ⟨ho.1, (mem_find _ _ hp1 _).2 ((occ_shift a.data.toList s.data.toList p.data.toList x).2 ho), (mem_find _ _ (by rw [List.length_reverse]; exact hp1) _).2 (occ_rev ho)⟩
  have n1 := foundOf_length s.data.toList p.data.toList s.size
  have n2 := foundOf_length (a.data.toList ++ s.data.toList) p.data.toList (a.data.toList ++ s.data.toList).length
  have n3 := foundOf_length s.data.toList.reverse p.data.toList.reverse s.data.toList.reverse.length
  rw [show foundOf s.data.toList p.data.toList s.size = findOf s.data.toList p.data.toList from rfl] at n1
  rw [show foundOf (a.data.toList ++ s.data.toList) p.data.toList (a.data.toList ++ s.data.toList).length = findOf (a.data.toList ++ s.data.toList) p.data.toList from rfl, List.length_append] at n2
  rw [show foundOf s.data.toList.reverse p.data.toList.reverse s.data.toList.reverse.length = findOf s.data.toList.reverse p.data.toList.reverse from rfl, List.length_reverse] at n3
  rw [show a.data.toList.length = a.size from rfl, show s.data.toList.length = s.size from rfl] at n2
  rw [show s.data.toList.length = s.size from rfl] at n3
  generalize findOf s.data.toList p.data.toList = L at *
  generalize findOf (a.data.toList ++ s.data.toList) p.data.toList = M at *
  generalize findOf s.data.toList.reverse p.data.toList.reverse = R at *
  have hbs := fun j => cntGe_le a.size (M.take j)
  have H1 := Lib.hid h1
  have H2 := Lib.hid h2
  have H3 := Lib.hid h3
  have K1 := Lib.hid c1
  have K2 := Lib.hid c2
  have M1 := Lib.hid m1
  have Hbs := Lib.hid hbs
  have l1 := Lib.hid (nI_length L)
  have l2 := Lib.hid (nI_length M)
  have l3 := Lib.hid (nI_length R)
  clear h1 h2 h3 e1 e2 hsa hrs hrp c1 c2 m1 el hE hbs
  generalize ByteArray.mk s.data.toList.reverse.toArray = rs at *
  generalize ByteArray.mk p.data.toList.reverse.toArray = rp at *
  go_enter Try.func12, Try.ntmps12
  go_wp2_with fail
  refine (seeks_any _).mono ?_
  rintro e w1 ⟨rfl, hb1⟩
  go_wp2_with fail
  refine (CA.out _).mono ?_
  rintro e w2 ⟨rfl, rfl⟩
  go_wp2_with fail
  refine (CS.out _).mono ?_
  rintro e w2 ⟨rfl, rfl⟩
  go_wp2_with fail
  refine (H1.out _).mono ?_
  rintro e w2 ⟨A2, c2, rfl, hr2, hb2, _⟩
  go_wp2_with fail
  refine (H2.out _).mono ?_
  rintro e w3 ⟨A3, c3, rfl, hr3, hb3, _⟩
  go_wp2_with fail
  refine (B1.out _).mono ?_
  rintro e w4 ⟨rfl, hb4⟩
  go_wp2_with fail
  refine (B2.out _).mono ?_
  rintro e w5 ⟨rfl, hb5⟩
  go_wp2_with fail
  refine (H3.out _).mono ?_
  rintro e w6 ⟨A6, c6, rfl, hr6, hb6, _⟩
  have hr2' := (((hr2.after hb3).after hb4).after hb5).after hb6
  have hr3' := ((hr3.after hb4).after hb5).after hb6
  have hbw := chain hb6 (chain hb5 (chain hb4 (chain hb3 (chain hb2 hb1))))
  clear hr2 hr3 hb1 hb2 hb3 hb4 hb5 hb6
  rw [l1.out] at hr2' ⊢
  rw [l2.out] at hr3' ⊢
  rw [l3.out] at hr6 ⊢
  go_wp2
  go_loop [14, 58] (fun _ iv => ∃ i : Nat, i ≤ L.length ∧ iv = .int .i64 i) (fun _ iv => L.length - (intOf iv).toNat)
  case atStart => exact ⟨0, Nat.zero_le _, rfl⟩
  case round =>
    obtain ⟨i, hi, rfl⟩ := hrel
    by_cases hlt : i < L.length
    · obtain ⟨b, o, rfl, hbB, _⟩ := hr2'.2 (by omega)
      have ci := nI_cell hr2' rfl i hlt
      obtain ⟨x1, x2, x3⟩ := M1.out (L.getD i 0) (by rw [getD_some _ _ _ hlt]; exact List.getElem_mem _)
      generalize L.getD i 0 = x at *
      have k1 := containsInt_any ((x : Int) + (a.size : Int)) A3 M.length c3 _ (nI M) w6 (by omega) l2.out hr3'
      have k2 := containsInt_any ((s.size : Int) - (p.size : Int) - (x : Int)) A6 R.length c6 _ (nI R) w6 (by omega) l3.out hr6
      rw [hasB_iff.2 (by rw [show (x : Int) + (a.size : Int) = ((x + a.size : Nat) : Int) from by omega, mem_nI]; exact x2)] at k1
      rw [hasB_iff.2 (by rw [show (s.size : Int) - (p.size : Int) - (x : Int) = ((s.size - p.size - x : Nat) : Int) from by omega, mem_nI]; exact x3)] at k2
      have K3 := Lib.hid k1
      have K4 := Lib.hid k2
      clear k1 k2 x2 x3
      go_wp2_with fail
      refine K3.out.mono ?_
      rintro e w7 ⟨rfl, rfl⟩
      go_wp2_with fail
      refine K4.out.mono ?_
      rintro e w7 ⟨rfl, rfl⟩
      go_wp2
      go_round
      case rel => exact ⟨i + 1, by omega, by go_num⟩
      case measure => simp [intOf]; omega
    · go_wp2
      go_loop [15, 17, 84] (fun nv _ jv => ∃ j : Nat, j ≤ M.length ∧ jv = .int .i64 j ∧ nv = .int .i64 (cntGe a.size (M.take j) : Nat)) (fun _ _ jv => M.length - (intOf jv).toNat)
      case atStart => exact ⟨0, Nat.zero_le _, rfl, rfl⟩
      case round =>
        obtain ⟨j, hj, rfl, rfl⟩ := hrel
        by_cases hjt : j < M.length
        · obtain ⟨b, o, rfl, hbB, _⟩ := hr3'.2 (by omega)
          have cj := nI_cell hr3' rfl j hjt
          have hst := cntGe_succ a.size M j hjt
          have hcb := Hbs.out j
          rw [List.length_take] at hcb
          have Hst := Lib.hid hst
          clear hst
          generalize M.getD j 0 = y at *
          generalize hC : cntGe a.size (M.take j) = C at *
          have HC := Lib.hid hC
          clear hC
          by_cases hge : a.size ≤ y
          · have q1 : decide (a.size ≤ y) = true := decide_eq_true hge
            have q1' : decide ((a.size : Int) ≤ (y : Int)) = true := decide_eq_true (by omega)
            go_wp2
            go_round
            case rel => exact ⟨j + 1, by omega, by go_num, by rw [Hst.out, if_pos hge]; go_num⟩
            case measure => simp [intOf]; omega
          · have q1 : decide (a.size ≤ y) = false := decide_eq_false hge
            have q1' : decide ((a.size : Int) ≤ (y : Int)) = false := decide_eq_false (by omega)
            go_wp2
            go_round
            case rel => exact ⟨j + 1, by omega, by go_num, by rw [Hst.out, if_neg hge]; go_num⟩
            case measure => simp [intOf]; omega
        · obtain rfl : j = M.length := by omega
          have hcnt : cntGe a.size (M.take M.length) = L.length := by rw [List.take_length]; exact K1.out
          rw [hcnt]
          have q2 : ((L.length : Int) == (L.length : Int)) = true := by simp
          have q3 : ((R.length : Int) == (L.length : Int)) = true := by rw [K2.out]; simp
          clear hcnt
          go_wp2_with fail
          refine (good_fresh [0, 0] 2 2 rfl (by decide) _ _).mono ?_
          rintro e w9 ⟨rfl, hb9⟩
          have q0 : ([0, 0] : List Int).all (· == 0) = true := by decide
          go_wp2
          go_ret
          exact ⟨by simp, chain hb9 hbw⟩

theorem seekShift_walk (a s p : ByteArray) (ha : a.size ≤ 140737488351232) (hs : s.size ≤ 140737488351232) (hp : p.size ≤ 140737488351232) (w : World) :
    Calls Try.prog 12 #[.string a, .string s, .string p] w fun e w' => e = .returned (.bool true) ∧ Below w.heap.size w w' :=
  seekShift_core _ _ a s p (cut60_size a 60) (cut60_size s 120) hp (cut_any a 60 (by decide) ha) (cut_any s 120 (by decide) hs) w

end Go.Proofs.Ytmojfmoinaadgaa
