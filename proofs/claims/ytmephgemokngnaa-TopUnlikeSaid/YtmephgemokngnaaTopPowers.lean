/- TopPowers' walk: a power's least turn falls into one Lyndon word so often; its transform has each byte of the root's so often. -/
import Derived.Test.YtmephgemokngnaaTopPowersP
import Derived.Test.YtmephgemokngnaaTopWorks
import Derived.Test.YtmephgemokngnaaTurnOf
import Derived.Test.YtmephgemokngnaaLyndonLaws
import Derived.Test.YtmephgemokngnaaLeastWalk
import Derived.Test.YtmephgemokngnaaWordWalk
import Derived.Test.YtmephgemokngnaaLaidRepeat
import Derived.Test.YtmephgemokngnaaKeep
import Derived.IntWalk
namespace Go.Proofs.Ytmephgemokngnaa
open Go.RowKit
set_option linter.unusedVariables false

theorem cutT_any (s : ByteArray) (n : Nat) (hn : n ≤ 4096) (hs : s.size ≤ 140737488351232) (w : World) :
    Calls Try.prog 13 #[.string s, .int .i64 n] w fun e w' => e = .returned (.string (s.extract 0 n)) ∧ w = w' := by
  obtain ⟨m, hm, hm1, hm2⟩ : ∃ m : Nat, (∀ (ats : Array TypeId) (t : TypeId) (w : World), (Builtin.min_ ats t #[.int .i64 (s.size : Int), .int .i64 (n : Int)]).run Try.prog w = .ok (.int .i64 (m : Int)) w) ∧ m ≤ s.size ∧ m = min n s.size :=
    ⟨min n s.size, fun ats t w => by rw [run_min_int2]; congr 2; omega, by omega, rfl⟩
  have hm3 : (m : Int) ≤ s.size := by omega
  have hx : s.extract 0 n = s.extract 0 m := ba_ext (by rw [Lib.extract_data, Lib.extract_data, hm2]; simp only [Nat.sub_zero, List.drop_zero]; rw [← List.take_take]; congr 1; exact (List.take_of_length_le (Nat.le_refl _)).symm)
  rw [hx]
  clear hx hm2
  go_enter Try.func13, Try.ntmps13
  go_wp2
  go_ret
  exact ⟨rfl, rfl⟩
/-- What Least tells of a power, as Split takes it. -/
theorem least_split (s : ByteArray) (hs : s.size ≤ 200) (w : World) :
    Calls Try.prog 17 #[.string s] w fun e w' => ∃ (LS : ByteArray) (b : Int) (v : List UInt8), LS.size ≤ 200 ∧ Cfl LS.data.toList (List.replicate (expOf s.data.toList) v) ∧ e = .returned (.tuple #[.string LS, .int .i64 b, .int .i64 0]) ∧ Below w.heap.size w w' := by
  by_cases h0 : s.size = 0
  · have he : s.data.toList = [] := List.eq_nil_of_length_eq_zero h0
    refine (least_empty s h0 w).mono fun e w' ⟨hb, hx⟩ => ⟨⟨#[]⟩, 0, [], by decide, ?_, hx, hb⟩
    rw [he]
    exact Cfl.nil
  · refine (least_ok s hs (by omega) w).mono fun e w' ⟨hb, b, hl, hx⟩ => ?_
    have hsl : s.data.toList.length = s.size := rfl
    have hbs := hl.lt
    have hlen := rot_length s.data.toList b (by omega)
    have hpos : 0 < (rot b s.data.toList).length := by rw [hlen]; omega
    refine ⟨tx (rot b s.data.toList), b, rootOf (rot b s.data.toList), ?_, ?_, hx, hb⟩
    · show (rot b s.data.toList).toArray.size ≤ 200
      rw [List.size_toArray, hlen]; exact hs
    · rw [tx_list]
      have hexp : expOf (rot b s.data.toList) = expOf s.data.toList := (root_turn s.data.toList b (by omega)).2
      rw [← hexp]
      refine least_falls hpos fun k hk => ?_
      rw [hlen] at hk
      rw [rot_rot s.data.toList b k (by omega) hk]
      split
      · exact hl.le_all _ (by omega)
      · exact hl.le_all _ (by omega)
/-- The transform of a power. -/
theorem top_put {s r : List UInt8} {k : Nat} (hs : s = powL r k) (hk : s ≠ [] → 0 < k ∧ expOf r = 1) : tOf s = (tOf r).flatMap fun b => List.replicate k b := by
  by_cases h0 : s = []
  · have h1 : k * r.length = 0 := by rw [← powL_len, ← hs, h0]; rfl
    have e1 : tOf s = [] := List.eq_nil_of_length_eq_zero (by rw [tOf_len, h0]; rfl)
    rw [e1]
    rcases Nat.mul_eq_zero.1 h1 with h | h
    · subst h
      have : ∀ l : List UInt8, l.flatMap (fun b => List.replicate 0 b) = [] := fun l => by induction l <;> simp_all
      exact (this _).symm
    · have e2 : tOf r = [] := List.eq_nil_of_length_eq_zero (by rw [tOf_len, h])
      rw [e2]; rfl
  · obtain ⟨k1, k2⟩ := hk h0
    unfold tOf
    subst hs
    exact pow_last k1 (prim_of k2) (ordOf_is r) (ordOf_is (powL r k))

set_option maxRecDepth 100000 in
set_option maxHeartbeats 8000000 in
theorem topPowers_walk (s0 : ByteArray) (n0 : Int) (hs0 : s0.size ≤ 140737488351232) (hn0 : (Lit.int .i64 n0).wf = true) (w : World) :
    Calls Try.prog 4 #[.string s0, .int .i64 n0] w fun e w' => e = .returned (.bool true) ∧ Below w.heap.size w w' := by
  have HC := Lib.hid (cutT_any s0 40 (by decide) hs0)
  have hsz : (s0.extract 0 40).size ≤ 40 := by simp; omega
  generalize s0.extract 0 40 = s at *
  obtain ⟨n, hn1, hn5, hwin⟩ : ∃ n : Nat, 1 ≤ n ∧ n ≤ 5 ∧ ∀ w, Calls Try.prog 14 #[.int .i64 n0, .int .i64 5] w fun e w' => e = .returned (.int .i64 ((n : Int) - 1)) ∧ w = w' := by
    have e1 := Int.emod_nonneg n0 (show (5 : Int) ≠ 0 by omega)
    have e2 := Int.emod_lt_of_pos n0 (show (0 : Int) < 5 by omega)
    refine ⟨(n0 % 5).toNat + 1, by omega, by omega, fun w => ?_⟩
    have := within_any n0 5 (by omega) (by omega) w
    rwa [show n0 % 5 = (((n0 % 5).toNat + 1 : Nat) : Int) - 1 by omega] at this
  have hle : s.size * n ≤ 40 * 5 := Nat.mul_le_mul hsz hn5
  have hR := fun w => repeat_any s n w (by omega) (by omega)
  rw [flat_rep] at hR
  obtain ⟨S, hS⟩ : ∃ S : ByteArray, S = ⟨((List.replicate n s.data.toList).flatten).toArray⟩ := ⟨_, rfl⟩
  rw [← hS] at hR
  have hSl : S.data.toList = powL s.data.toList n := by rw [hS]; rfl
  have hSs : S.size ≤ 200 := by
    have h1 : S.data.toList.length = S.size := rfl
    rw [hSl, powL_len] at h1
    have h2 : s.data.toList.length = s.size := rfl
    rw [h2, Nat.mul_comm] at h1
    omega
  have hroot : S.data.toList = powL (rootOf S.data.toList) (expOf S.data.toList) ∧ (S.data.toList ≠ [] → 0 < expOf S.data.toList ∧ expOf (rootOf S.data.toList) = 1) := by
    by_cases h0 : S.data.toList = []
    · refine ⟨?_, fun h => absurd h0 h⟩
      rw [h0]; rfl
    · have hp := List.length_pos_iff.2 h0
      obtain ⟨r1, r2, _⟩ := root_rep hp
      exact ⟨r1, fun _ => ⟨r2, (root_root hp).2.1⟩⟩
  have hT := top_put hroot.1 hroot.2
  have hKb : expOf S.data.toList ≤ 200 := Nat.le_trans (Nat.div_le_self _ _) hSs
  have hrs : (rootOf S.data.toList).length ≤ 200 := by
    unfold rootOf
    rw [List.length_take]
    have : S.data.toList.length = S.size := rfl
    omega
  have H1 := Lib.hid (root_walk S hSs)
  have H2 := Lib.hid (least_split S hSs)
  have H4 := Lib.hid (turnPut_any S)
  have H5 := Lib.hid (turnPut_any ⟨(rootOf S.data.toList).toArray⟩)
  have ep1 : putE S = 0 := by unfold putE; rw [if_pos hSs]
  have ep2 : putE ⟨(rootOf S.data.toList).toArray⟩ = 0 := by
    unfold putE
    rw [if_pos]
    show (rootOf S.data.toList).toArray.size ≤ 200
    rw [List.size_toArray]; exact hrs
  have ep3 : (putT S).data.toList = tOf S.data.toList := by unfold putT; rw [if_pos hSs]
  have ep4 : (putT ⟨(rootOf S.data.toList).toArray⟩).data.toList = tOf (rootOf S.data.toList) := by
    unfold putT
    rw [if_pos]
    show (rootOf S.data.toList).toArray.size ≤ 200
    rw [List.size_toArray]; exact hrs
  rw [ep1] at H4
  rw [ep2] at H5
  rw [← ep3, ← ep4] at hT
  have hTs : (putT S).size ≤ 200 := by
    have e : (putT S).data.toList.length = (putT S).size := rfl
    rw [ep3, tOf_len] at e
    have e2 : S.data.toList.length = S.size := rfl
    omega
  have HT := Lib.hid hT
  have hUs : (putT ⟨(rootOf S.data.toList).toArray⟩).size ≤ 200 := by
    have e : (putT ⟨(rootOf S.data.toList).toArray⟩).data.toList.length = (putT ⟨(rootOf S.data.toList).toArray⟩).size := rfl
    rw [ep4, tOf_len] at e
    omega
  have HR := Lib.hid hR
  have HWi := Lib.hid hwin
  have G := Lib.hid (fun w => goodT_fresh [0, 0, 0, 0, 0] 5 5 rfl (by decide) w 24)
  clear ep1 ep2 ep3 ep4 hT hR hwin hS hSl hroot hrs hn0 hle
  generalize expOf S.data.toList = K at *
  generalize putA ⟨(rootOf S.data.toList).toArray⟩ = a5 at *
  generalize putT ⟨(rootOf S.data.toList).toArray⟩ = U at *
  generalize (⟨(rootOf S.data.toList).toArray⟩ : ByteArray) = R at *
  generalize putA S = a4 at *
  generalize putT S = T at *
  have en : IntKind.i64.wrap (1 + ((n : Int) - 1)) = (n : Int) := by rw [IntKind.wrap_i64]; omega
  have en' : (1 + ((n : Int) - 1)) = (n : Int) := by omega
  go_enter Try.func4, Try.ntmps4
  go_wp2_with fail
  refine (HC.out _).mono ?_
  rintro e w1 ⟨rfl, rfl⟩
  go_wp2_with fail
  refine (HWi.out _).mono ?_
  rintro e w1 ⟨rfl, rfl⟩
  go_wp2_with fail
  refine (HR.out _).mono ?_
  rintro e w1 ⟨rfl, hb1⟩
  go_wp2_with fail
  refine (H1.out _).mono ?_
  rintro e w2 ⟨rfl, hb2⟩
  have hb2 := chain hb2 hb1
  go_wp2_with fail
  refine (H2.out _).mono ?_
  rintro e w3 ⟨LS, b, v, hLs, hcf, rfl, hb3⟩
  have hb3 := chain hb3 hb2
  have H3 := Lib.hid (split_ok LS hLs)
  have Hcf := Lib.hid hcf
  clear hcf hLs en en'
  go_wp2_with fail
  refine (H3.out _).mono ?_
  rintro e w4 ⟨F, A, c, hF, rfl, hr4, hb4, _⟩
  have hb4 := chain hb4 hb3
  obtain rfl := cfl_eq hF Hcf.out
  clear hF H3
  have hlK : (List.replicate K v).length = K := List.length_replicate ..
  rw [hlK] at hr4 ⊢
  have hrv : ((List.replicate K v).map tx) = List.replicate K (tx v) := List.map_replicate
  rw [hrv] at hr4
  clear hlK hrv Hcf
  generalize tx v = V at *
  go_wp2_with fail
  refine (H4.out _).mono ?_
  rintro e w5 ⟨rfl, hb5⟩
  have hr5 := hr4.after hb5
  have hb5 := chain hb5 hb4
  go_wp2_with fail
  refine (H5.out _).mono ?_
  rintro e w6 ⟨rfl, hb6⟩
  have hr6 := hr5.after hb6
  have hb6 := chain hb6 hb5
  go_wp2_with fail
  refine (works_any _).mono ?_
  rintro e w7 ⟨rfl, hb7⟩
  have hr7 := hr6.after hb7
  have hb7 := chain hb7 hb6
  go_wp2_with fail
  refine (G.out _).mono ?_
  rintro e w8 ⟨rfl, hb8⟩
  have hr8 := hr7.after hb8
  have hb8 := chain hb8 hb7
  have q1 : ((K : Int) != (K : Int)) = false := by simp
  clear hr4 hr5 hr6 hr7 hb1 hb2 hb3 hb4 hb5 hb6 hb7 HC HWi HR H1 H2 H4 H5 G
  go_wp2
  go_loopw [20, 80] (fun _ iv wr => ∃ i : Nat, i ≤ K ∧ iv = .int .i64 i ∧ ∃ nq, wr = w8.drewN nq) (fun _ iv _ => K - (intOf iv).toNat)
  case atStart => exact ⟨0, Nat.zero_le _, rfl, 0, rfl⟩
  case round =>
    obtain ⟨i, hi, rfl, nq0, rfl⟩ := hrel
    have hr9 := hr8.drewN nq0
    have hb9 := below_drewN hb8 nq0
    have hdr : ∀ m, ∃ mm, (w8.drewN nq0).drewN m = w8.drewN mm := fun m => ⟨nq0 + m, by rw [World.drewN_drewN]⟩
    by_cases hlt : i < K
    · obtain ⟨b1, o1, rfl, hbB, hcl⟩ := hr9.2 (by omega)
      have hcell : ∀ j, j < K → (w8.drewN nq0).cell? ⟨b1, o1 + j, none⟩ = some (.string V) := fun j hj => by
        have c0 := hcl (j * 1 + 0) (by rw [flat_length cStr 1 cStr_len, List.length_replicate]; omega)
        rw [flat_getD cStr 1 cStr_len ByteArray.empty _ j _ (by rw [List.length_replicate]; omega) (by omega)] at c0
        simp only [cStr, List.getD_cons_zero, Nat.mul_one, Nat.add_zero] at c0
        rw [c0]
        congr 2
        rw [List.getD_eq_getElem?_getD, List.getElem?_replicate, if_pos hj]; rfl
      have c1 := hcell i hlt
      have c0 := hcell 0 (by omega)
      rw [Nat.add_zero] at c0
      have q2 : (V.toList != V.toList) = false := by simp
      have hK0 : 0 < K := by omega
      have hK0' : (0 : Int) < (K : Int) := by omega
      clear hcl hcell
      generalize w8.drewN nq0 = V8 at *
      go_wp2
      go_quiet (fail)
      go_wp2
      go_roundw
      case rel => exact ⟨i + 1, by omega, by go_num, hdr nq⟩
      case measure => simp [intOf]; omega
    · obtain rfl : i = K := by omega
      clear hr8 hr9 hb8 hdr hlt
      generalize w8.drewN nq0 = V8 at *
      go_wp2
      go_loopw [21, 22, 94] (fun av _ iv wr => ∃ j : Nat, j ≤ U.size ∧ iv = .int .i64 j ∧ av = .string ⟨((U.data.toList.take j).flatMap fun b => List.replicate i b).toArray⟩ ∧ Below w.heap.size w wr) (fun _ _ iv _ => U.size - (intOf iv).toNat)
      case atStart => exact ⟨0, Nat.zero_le _, rfl, rfl, hb9⟩
      case round =>
        clear hb9
        obtain ⟨j, hj, rfl, rfl, hbr⟩ := hrel
        by_cases hjt : j < U.size
        · have hts := take_succ_bytes U j hjt
          have hsize : (((U.data.toList.take (j + 1)).flatMap fun b => List.replicate i b)).length ≤ 200 := by
            have h1 : ((U.data.toList.take (j + 1)).flatMap fun b => List.replicate i b).length ≤ (U.data.toList.flatMap fun b => List.replicate i b).length := by
              conv => rhs; rw [← List.take_append_drop (j + 1) U.data.toList, List.flatMap_append, List.length_append]
              exact Nat.le_add_right _ _
            rw [← HT.out] at h1
            exact Nat.le_trans h1 hTs
          rw [hts, List.flatMap_append, List.length_append] at hsize
          have hx : (U.extract j (j + 1)).data.toList = [U[j]] := by
            rw [Lib.extract_data, Nat.add_sub_cancel_left, drop_getD U.data.toList j 0 hjt, getD_bytes U j hjt]
            rfl
          have hxs : (U.extract j (j + 1)).size = 1 := by
            have := congrArg List.length hx
            exact this
          have hRp := fun w => repeat_any (U.extract j (j + 1)) i w (by omega) (by rw [hxs]; omega)
          rw [hx, show ([U[j]] : List UInt8) = List.replicate 1 U[j] from rfl, Lib.repeatL_replicate, Nat.mul_one] at hRp
          obtain ⟨P, hP⟩ : ∃ P : ByteArray, P = ⟨((U.data.toList.take j).flatMap fun b => List.replicate i b).toArray⟩ := ⟨_, rfl⟩
          obtain ⟨Q, hQ⟩ : ∃ Q : ByteArray, Q = ⟨(List.replicate i U[j]).toArray⟩ := ⟨_, rfl⟩
          rw [← hQ] at hRp
          rw [← hP]
          have hPs : P.size = ((U.data.toList.take j).flatMap fun b => List.replicate i b).length := by rw [hP]; show _ = _; exact List.size_toArray
          have hQs : Q.size = i := by rw [hQ]; show (List.replicate i U[j]).toArray.size = i; simp
          have hfin : P ++ Q = ⟨((U.data.toList.take (j + 1)).flatMap fun b => List.replicate i b).toArray⟩ := str_ext (by
            rw [ByteArray.data_append, Array.toList_append, hts, List.flatMap_append, hP, hQ]
            simp)
          have hca : ∀ w, (Op.stringOp .add P Q).run Try.prog w = .ok (.string (P ++ Q)) w := fun w => run_string_add_sum w _ _ (by
            rw [hPs, hQs]
            simp at hsize
            simp
            omega)
          have i1 : (j : Int) + 1 ≤ (U.size : Int) := by omega
          have e1 : IntKind.i64.wrap ((j : Int) + 1) = ((j + 1 : Nat) : Int) := by rw [IntKind.wrap_i64]; omega
          have HRp := Lib.hid hRp
          have Hfin := Lib.hid hfin
          clear hts hsize hx hxs hRp hP hQ hPs hQs hfin
          go_wp2_with fail
          refine (HRp.out _).mono ?_
          rintro e wA ⟨rfl, hbA⟩
          have hbA := chain_to hbA hbr (Nat.le_refl _)
          go_wp2
          go_roundw
          case rel => exact ⟨j + 1, by omega, by go_num, by rw [Hfin.out], hbA⟩
          case measure => simp [intOf]; omega
        · obtain rfl : j = U.size := by omega
          have e1 : U.data.toList.take U.size = U.data.toList := List.take_of_length_le (Nat.le_refl _)
          rw [e1]
          have e2 : (⟨(U.data.toList.flatMap fun b => List.replicate i b).toArray⟩ : ByteArray) = T := str_ext (by rw [HT.out])
          rw [e2]
          have q3 : (T.toList == T.toList) = true := by simp
          go_wp2
          go_ret
          exact ⟨by simp, hbr⟩
end Go.Proofs.Ytmephgemokngnaa
