/- TreeShannon's walk: the cost lies within one bit a symbol above the entropy bound. -/
import Derived.Test.YtpaodbkdmiedfaaTreeLaws
import Derived.Test.YtpaodbkdmiedfaaArgs
import Derived.IntWalk
namespace Go.Proofs.Ytpaodbkdmiedfaa
open Go.RowKit
set_option linter.unusedVariables false

/-- The least number of doublings by which w comes to all. -/
def Dbl (all w n : Nat) : Prop := all ≤ w * 2 ^ n ∧ ∀ j, j < n → w * 2 ^ j < all
theorem sum_take (ws : List Nat) (k : Nat) (hk : k < ws.length) : sumL (fun k => ws.getD k 0) (List.range (k + 1)) = sumL (fun k => ws.getD k 0) (List.range k) + ws.getD k 0 := by
  rw [List.range_succ, sumL_app]; simp [sumL]
theorem sumK_le {ws : List Nat} (h : ∀ k, ws.getD k 0 ≤ 10000) : ∀ k, sumL (fun k => ws.getD k 0) (List.range k) ≤ k * 10000
  | 0 => by simp [sumL]
  | k + 1 => by
    have := sumK_le h k
    have := h k
    rw [List.range_succ, sumL_app]
    show _ + (ws.getD k 0 + 0) ≤ _
    omega
theorem sumK_mono (ws : List Nat) {k : Nat} (hk : k < ws.length) : ws.getD k 0 ≤ allW ws := sumL_ge (f := fun k => ws.getD k 0) (l := List.range ws.length) (List.mem_range.2 hk)
theorem dbl_small {all w n : Nat} (hall : all ≤ 120000) (hw : 1 ≤ w) (h : ∀ j, j < n → w * 2 ^ j < all) : n ≤ 17 := by
  refine Nat.le_of_not_lt fun hn => ?_
  have h1 := h 17 hn
  have h2 : 1 * 2 ^ 17 ≤ w * 2 ^ 17 := Nat.mul_le_mul_right _ hw
  have h3 : (2 : Nat) ^ 17 = 131072 := by decide
  omega
/-- The plain law. -/
theorem shannon_law {ws o q : List Nat} (h : LensOk ws o) (h2 : 2 ≤ ws.length) (hpos : ∀ k, k < ws.length → 1 ≤ ws.getD k 0) (hq : q.length = ws.length) (hd : ∀ k, k < ws.length → Dbl (allW ws) (ws.getD k 0) (q.getD k 0)) (hL : ∀ k, k < ws.length → q.getD k 0 ≤ 17) :
    costO ws o ≤ costO ws q ∧ costO ws q ≤ costO ws o + allW ws ∧ allW ws ≤ costO ws o := by
  have hlt : ∀ k, k < ws.length → ws.getD k 0 < allW ws := fun k hk => by
    obtain ⟨j, hj, hjk⟩ : ∃ j, j < ws.length ∧ j ≠ k := by
      rcases Nat.eq_zero_or_pos k with h0 | h0
      · exact ⟨1, by omega, by omega⟩
      · exact ⟨0, by omega, by omega⟩
    obtain ⟨r, e, _⟩ := sumL_two (f := fun k => ws.getD k 0) List.nodup_range (List.mem_range.2 hk) (List.mem_range.2 hj) (Ne.symm hjk)
    have := hpos j hj
    unfold allW
    rw [e]
    show ws.getD k 0 < ws.getD k 0 + (ws.getD j 0 + r)
    omega
  have h1 : ∀ k, k < ws.length → 1 ≤ q.getD k 0 := fun k hk => by
    have a := (hd k hk).1
    have b := hlt k hk
    refine Nat.pos_of_ne_zero fun e => ?_
    rw [e] at a
    simp at a
    rw [List.getD_eq_getElem?_getD] at b
    omega
  refine ⟨h.shannon_up hq h1 (fun k hk => (hd k hk).1) 17 hL, ?_, h.all_le⟩
  have hm := h.shannon_low (m := q.map (· - 1)) fun k hk => by
    have e : (q.map (· - 1)).getD k 0 = q.getD k 0 - 1 := by
      rw [List.getD_eq_getElem?_getD, List.getElem?_map, List.getD_eq_getElem?_getD, List.getElem?_eq_getElem (by omega)]; rfl
    rw [e]
    have := h1 k hk
    exact Nat.le_of_lt ((hd k hk).2 _ (by omega))
  have e2 : costO ws q = costO ws (q.map (· - 1)) + allW ws := by
    unfold costO allW
    rw [← sumL_add]
    refine sumL_congr fun k hk => ?_
    have hk := List.mem_range.1 hk
    have e : (q.map (· - 1)).getD k 0 = q.getD k 0 - 1 := by
      rw [List.getD_eq_getElem?_getD, List.getElem?_map, List.getD_eq_getElem?_getD, List.getElem?_eq_getElem (by omega)]; rfl
    rw [e]
    have := h1 k hk
    obtain ⟨x, hx⟩ : ∃ x, q.getD k 0 = x + 1 := ⟨q.getD k 0 - 1, by omega⟩
    rw [hx, Nat.add_sub_cancel, Nat.mul_add, Nat.mul_one]
  omega

theorem costK_le' {ws q : List Nat} {m : Nat} (h1 : ∀ k, ws.getD k 0 ≤ 10000) {k : Nat} (h2 : ∀ i, i < k → q.getD i 0 ≤ 17) : ∀ {j : Nat}, j ≤ k → costK ws q j ≤ j * 170000
  | 0, _ => by simp [costK, sumL]
  | j + 1, hj => by
    rw [costK_succ]
    have := costK_le' (m := m) h1 h2 (show j ≤ k by omega)
    have h3 : ws.getD j 0 * q.getD j 0 ≤ 10000 * 17 := Nat.mul_le_mul (h1 j) (h2 j (by omega))
    omega
set_option maxRecDepth 100000 in
set_option maxHeartbeats 4000000 in
theorem treeShannon_walk (A : Option Addr) (n cap : Nat) (ws : List Int) {w : World} (ha : IntsIn w A n cap ws) :
    Calls Try.prog 3 #[.slice A n cap] w fun e w' => e = .returned (.bool true) ∧ Below w.heap.size w w' := by
  obtain ⟨hla, hra, hlena, _, hcapa, hma, _⟩ := ha
  have HL := Lib.hid (fun w (r : Reads w w.heap.size A n 1 (ws.flatMap cInt)) => treeLens_any A n cap w.heap.size ws w (by omega) hla r (Nat.le_refl _))
  have HC := Lib.hid (fun w A' m c' (o : List Int) (hm : m ≤ 1125899906842624) (ho : o.length = m) (r : Reads w w.heap.size A n 1 (ws.flatMap cInt)) (r' : Reads w w.heap.size A' m 1 (o.flatMap cInt)) => treeCost_any A n cap w.heap.size ws A' m c' w.heap.size o w (by omega) hm hla ho r r')
  have Hla := Lib.hid hla
  have hn0 : n ≤ 1125899906842624 := by omega
  clear hla hma
  go_enter Try.func3, Try.ntmps3
  go_wp2_with fail
  refine (trees_any _).mono ?_
  rintro e w1 ⟨rfl, hb1⟩
  have ra1 := (hra.below hb1).more hb1.size
  clear hra
  go_wp2_with fail
  refine (HL.out _ ra1).mono ?_
  rintro e w2 ⟨hb2, hx⟩
  have ra2 := ra1.after hb2
  have hb2 := chain hb2 hb1
  clear ra1 hb1
  rcases hx with ⟨hno, rfl⟩ | ⟨hc, g, o, rfl, hok, hro⟩
  · have q1 : (checkT ws != 0) = true := by simpa using hno
    have q1' : (checkT ws == 0) = false := by simpa using hno
    clear hno HC HL
    generalize checkT ws = E at *
    go_wp2
    all_goals (go_ret; exact ⟨by simp, hb2⟩)
  by_cases hn2 : n < 2
  · have q1 : decide (n < 2) = true := decide_eq_true hn2
    have q1' : decide ((n : Int) < 2) = true := decide_eq_true (by omega)
    clear HC HL
    go_wp2
    all_goals (go_ret; exact ⟨by simp, hb2⟩)
  have q1 : decide (n < 2) = false := decide_eq_false hn2
  have q1' : decide ((n : Int) < 2) = false := decide_eq_false (by omega)
  obtain ⟨e1, e2⟩ := lens_cost hc hok
  have hol : (ikN o).length = n := by rw [ikN_len, hok.len, nats_len, Hla.out]
  have HC3 := Lib.hid (HC.out _ (some ⟨g, 0, none⟩) n n (ikN o) hn0 hol ra2 hro)
  rw [e1, e2] at HC3
  have H1w := (checkT_zero ws).1 hc
  have hn12 : n ≤ 12 := by rw [← Hla.out]; exact H1w.1
  have bd1 : ∀ k, (nats ws).getD k 0 ≤ 10000 := fun k => by rw [nats_getD]; exact getD_bd H1w.2 (by decide) k
  have hpos : ∀ k, k < n → 1 ≤ (nats ws).getD k 0 := fun k hk => by
    rw [nats_getD]
    have := (H1w.2 (ws.getD k 0) (by rw [getD_some _ _ _ (by rw [Hla.out]; exact hk)]; exact List.getElem_mem _)).1
    omega
  have hsum := sumK_le bd1
  have hlaw := fun q => shannon_law (q := q) hok (by rw [nats_len, Hla.out]; omega) (fun k hk => hpos k (by rw [nats_len, Hla.out] at hk; exact hk))
  rw [nats_len, Hla.out] at hlaw
  have hallW : allW (nats ws) = sumL (fun k => (nats ws).getD k 0) (List.range n) := by unfold allW; rw [nats_len, Hla.out]
  have hcostO : ∀ q, costO (nats ws) q = costK (nats ws) q n := fun q => by unfold costO costK; rw [nats_len, Hla.out]
  have K1 := Lib.hid H1w
  have Hpos := Lib.hid hpos
  have Hsum := Lib.hid hsum
  have Hbd := Lib.hid bd1
  have Hlaw := Lib.hid hlaw
  have HallW := Lib.hid hallW
  have HcostO := Lib.hid hcostO
  have hcb : costO (nats ws) o ≤ 1440000 := by
    have h1 := fun k => costK_le (ws := nats ws) (o := o) bd1 (fun k => by
      rcases Nat.lt_or_ge k o.length with hk | hk
      · have := (hok.bd k (by rw [← hok.len]; exact hk)).2
        rw [nats_len, Hla.out] at this
        omega
      · rw [List.getD_eq_getElem?_getD, List.getElem?_eq_none hk]; simp) k
    have := h1 n
    rw [hcostO]; omega
  clear HC HL hol e1 e2 hok hc hro H1w hpos hsum hlaw bd1 hallW hcostO
  generalize costO (nats ws) o = D at *
  go_wp2_with fail
  refine HC3.out.mono ?_
  rintro e w3 ⟨rfl, rfl⟩
  go_wp2
  go_loopw [7, 10, 43] (fun sv _ iv wr => ∃ k : Nat, k ≤ n ∧ iv = .int .i64 k ∧ sv = .int .i64 ((sumL (fun k => (nats ws).getD k 0) (List.range k) : Nat) : Int) ∧ wr = w2) (fun _ _ iv _ => n - (intOf iv).toNat)
  case atStart => exact ⟨0, Nat.zero_le _, rfl, rfl, rfl⟩
  case round =>
    obtain ⟨k, hk, rfl, rfl, rfl⟩ := hrel
    by_cases hlt : k < n
    · obtain ⟨b, p, rfl, hbB, hcl⟩ := ra2.2 (by omega)
      have c0 := hcl (k * 1 + 0) (by rw [flat_length cInt 1 cInt_len, Hla.out]; omega)
      rw [flat_getD cInt 1 cInt_len 0 ws k _ (by rw [Hla.out]; omega) (by omega)] at c0
      simp only [cInt, List.getD_cons_zero, Nat.mul_one, Nat.add_zero] at c0
      have hs := sum_take (nats ws) k (by rw [nats_len, Hla.out]; exact hlt)
      have hb := Hsum.out k
      have hx := Hbd.out k
      have hp := Hpos.out k hlt
      rw [nats_getD] at hs hx hp
      have Hs := Lib.hid hs
      clear hs hcl
      generalize ws.getD k 0 = x at *
      obtain ⟨x, rfl⟩ : ∃ z : Nat, x = z := ⟨x.toNat, by omega⟩
      rw [Int.toNat_natCast] at Hs hx hp
      generalize hS : sumL (fun k => (nats ws).getD k 0) (List.range k) = S at *
      clear hS
      go_wp2
      go_roundw
      case rel => exact ⟨k + 1, by omega, by go_num, by rw [Hs.out]; go_num, trivial⟩
      case measure => simp [intOf]; omega
    · obtain rfl : k = n := by omega
      have hall := Hsum.out k
      rw [← HallW.out] at hall ⊢
      clear hlt
      have Hall := Lib.hid (rfl : allW (nats ws) = allW (nats ws))
      generalize hAll : allW (nats ws) = all at *
      clear hAll Hall HallW
      go_wp2
      go_loopw [8, 12, 13, 53] (fun mv _ _ iv wq => ∃ (j : Nat) (q : List Nat), j ≤ k ∧ iv = .int .i64 j ∧ mv = .int .i64 ((costK (nats ws) q j : Nat) : Int) ∧ Hid (q.length = j ∧ ∀ i, i < j → Dbl all ((nats ws).getD i 0) (q.getD i 0) ∧ q.getD i 0 ≤ 17) ∧ wq = wr) (fun _ _ _ iv _ => k - (intOf iv).toNat)
      case atStart => exact ⟨0, [], Nat.zero_le _, rfl, rfl, Lib.hid ⟨rfl, fun i hi => by omega⟩, rfl⟩
      case round =>
        obtain ⟨j, q, hj, rfl, rfl, Hq, rfl⟩ := hrel
        by_cases hlt : j < k
        · obtain ⟨b, p, rfl, hbB, hcl⟩ := ra2.2 (by omega)
          have c0 := hcl (j * 1 + 0) (by rw [flat_length cInt 1 cInt_len, Hla.out]; omega)
          rw [flat_getD cInt 1 cInt_len 0 ws j _ (by rw [Hla.out]; omega) (by omega)] at c0
          simp only [cInt, List.getD_cons_zero, Nat.mul_one, Nat.add_zero] at c0
          have hx := Hbd.out j
          have hp := Hpos.out j hlt
          have hck := fun y => costK_succ (nats ws) (q ++ [y]) j
          have hce : ∀ y, costK (nats ws) (q ++ [y]) j = costK (nats ws) q j := fun y => sumL_congr fun i hi => by
            rw [getD_app_left _ _ _ _ (by rw [Hq.out.1]; exact List.mem_range.1 hi)]
          have hbk := fun m => costK_le' (ws := nats ws) (q := q) (m := m) (fun i => Hbd.out i) (fun i hi => (Hq.out.2 i hi).2) (Nat.le_refl j)
          have hbk := hbk 0
          have hxe := nats_getD ws j
          have Hxe := Lib.hid hxe
          have Hck := Lib.hid hck
          have Hce := Lib.hid hce
          rw [hxe] at hx hp
          clear hcl hck hce hxe
          generalize ws.getD j 0 = x at *
          obtain ⟨x, rfl⟩ : ∃ z : Nat, x = z := ⟨x.toNat, by omega⟩
          rw [Int.toNat_natCast] at Hxe hx hp
          generalize hC : costK (nats ws) q j = C at *
          clear hC
          go_wp2
          go_loopw [13] (fun nv wz => ∃ m : Nat, nv = .int .i64 m ∧ m ≤ 17 ∧ Hid (∀ i, i < m → x * 2 ^ i < all) ∧ wz = wr) (fun nv _ => 20 - (intOf nv).toNat)
          case atStart => exact ⟨0, rfl, by omega, Lib.hid fun i hi => by omega, rfl⟩
          case round =>
            obtain ⟨m, rfl, hm, Hm, rfl⟩ := hrel
            have e2 : 2 ^ m ≤ 131072 := (show (2 : Nat) ^ 17 = 131072 from by decide) ▸ Nat.pow_le_pow_right (n := 2) (by decide) hm
            have e3 : x * 2 ^ m ≤ 10000 * 131072 := Nat.mul_le_mul hx e2
            have hw : wrap64 ((x : Int) * 2 ^ m) = ((x * 2 ^ m : Nat) : Int) := by
              have e4 : ((x : Int) * 2 ^ m) = ((x * 2 ^ m : Nat) : Int) := by simp
              rw [e4]
              generalize x * 2 ^ m = y at *
              exact IntWalk.wrap64_in _ (by omega)
            have Hw := Lib.hid hw
            have He := Lib.hid e3
            clear hw e2 e3
            go_wp2
            · have h : wrap64 ((x : Int) * 2 ^ m) < (all : Int) := by assumption
              rw [Hw.out] at h
              have hm2 : ∀ i, i < m + 1 → x * 2 ^ i < all := fun i hi => by
                rcases Nat.lt_or_ge i m with h1 | h1
                · exact Hm.out i h1
                · obtain rfl : i = m := by omega
                  exact Int.ofNat_lt.1 h
              have hm17 := dbl_small (by omega) hp hm2
              exact ⟨⟨m + 1, by go_num, hm17, Lib.hid hm2, trivial⟩, by simp only [intOf]; omega⟩
            · have h : (all : Int) ≤ wrap64 ((x : Int) * 2 ^ m) := by assumption
              rw [Hw.out] at h
              have hd : Dbl all x m := ⟨Int.ofNat_le.1 h, Hm.out⟩
              have hxm : x * m ≤ 10000 * 17 := Nat.mul_le_mul hx hm
              have hn1 : costK (nats ws) (q ++ [m]) (j + 1) = C + x * m := by
                rw [Hck.out, Hce.out, Hxe.out, getD_app_right _ _ _ _ (by rw [Hq.out.1]; exact Nat.le_refl _), Hq.out.1, Nat.sub_self]; rfl
              refine ⟨⟨j + 1, q ++ [m], by omega, by go_num, ?_, Lib.hid ⟨by rw [List.length_append, Hq.out.1]; rfl, fun i hi => ?_⟩, trivial⟩, by simp only [intOf]; omega⟩
              · rw [hn1]
                have e5 : ((x : Int) * (m : Int)) = ((x * m : Nat) : Int) := by simp
                rw [e5]
                generalize x * m = y at *
                rw [IntWalk.wrap64_in (y : Int) (by omega), IntWalk.wrap64_in _ (by omega)]
                congr 1
              · rcases Nat.lt_or_ge i j with h1 | h1
                · rw [getD_app_left _ _ _ _ (by rw [Hq.out.1]; exact h1)]
                  exact Hq.out.2 i h1
                · obtain rfl : i = j := by omega
                  rw [getD_app_right _ _ _ _ (by rw [Hq.out.1]; exact Nat.le_refl _), Hq.out.1, Nat.sub_self, Hxe.out]
                  exact ⟨hd, hm⟩
        · obtain rfl : j = k := by omega
          have hfin := Hlaw.out q Hq.out.1 (fun i hi => (Hq.out.2 i hi).1) (fun i hi => (Hq.out.2 i hi).2)
          rw [HcostO.out] at hfin
          have hbk := costK_le' (ws := nats ws) (q := q) (m := 0) (fun i => Hbd.out i) (fun i hi => (Hq.out.2 i hi).2) (Nat.le_refl j)
          obtain ⟨f1, f2, f3⟩ := hfin
          generalize costK (nats ws) q j = C at *
          have f1' : (D : Int) ≤ C := by omega
          have f2' : (C : Int) - all ≤ D := by omega
          have f3' : (all : Int) ≤ D := by omega
          have g1 : decide ((D : Int) ≤ C) = true := decide_eq_true f1'
          have g2 : decide ((C : Int) - all ≤ D) = true := decide_eq_true f2'
          have g3 : decide ((all : Int) ≤ D) = true := decide_eq_true f3'
          have g1' : decide (D ≤ C) = true := decide_eq_true f1
          have g3' : decide (all ≤ D) = true := decide_eq_true f3
          clear Hlaw HcostO f1 f2 f3 f1' f2' f3'
          go_wp2
          all_goals (go_ret; exact ⟨by simp, hb2⟩)
end Go.Proofs.Ytpaodbkdmiedfaa
