/- PackWays' walk: uniquely decodable codes have at most one decoding; concatenations have at least the product. -/
import Derived.Test.YtgoofbbbnphncaaDoorCodes
import Derived.Test.YtgoofbbbnphncaaDoorWays
import Derived.Test.YtgoofbbbnphncaaDoorArgs
namespace Go.Proofs.YtgoofbbbnphncaaDoor
open Go.RowKit
set_option linter.unusedVariables false

theorem fresh_ways (l : List ByteArray) (s : ByteArray) (n : Nat) (hs : s.size ≤ 40) (hl : l.length = n) (hn : n ≤ 1000) (hz : ∀ p ∈ l, p.size ≤ 100) (w : World) :
    Calls Tryd.prog 49 #[.slice (some ⟨w.heap.size, 0, none⟩) n n, .string s] (w.alloc (Obj.cells (l.map Value.string).toArray 9)) fun e w' => e = .returned (.tuple #[.int .i64 (waysV (wds l) (wd s)), .int .i64 (checkC (wds l))]) ∧ Below w.heap.size w w' := by
  subst hl
  refine (packWays_any _ l.length l.length (w.heap.size + 1) l s _ hs (by omega) (Nat.le_refl _) rfl (fun p hp => by have := hz p hp; omega) (fresh_strs l w) (by simp)).mono fun e w' ⟨he, hb⟩ => ⟨he, ?_⟩
  exact ((Below.refl _ _).alloc (Nat.le_refl _) _).trans (hb.mono (by simp))
theorem ways1 : waysV (wds [⟨#[48]⟩, ⟨#[48, 48]⟩]) (wd ⟨#[48, 48, 48]⟩) = 3 ∧ checkC (wds [⟨#[48]⟩, ⟨#[48, 48]⟩]) = 0 := by
  constructor <;> decide +kernel
theorem cutW_size (s : ByteArray) (n : Nat) : (s.extract 0 n).size ≤ n := by simp; omega

set_option maxRecDepth 100000 in
set_option maxHeartbeats 4000000 in
theorem packWays_walk (A : Option Addr) (n cap : Nat) (l : List ByteArray) (s0 t0 : ByteArray) {w : World} (hl : StrsIn w A n cap l) (hs0 : s0.size ≤ 140737488351232) (ht0 : t0.size ≤ 140737488351232) :
    Calls Tryd.prog 11 #[.slice A n cap, .string s0, .string t0] w fun e w' => e = .returned (.bool true) ∧ Below w.heap.size w w' := by
  obtain ⟨hll, hrd, hlen, hsz, hcap, _⟩ := hl
  have hzz : ∀ p ∈ l, p.size ≤ 140737488351232 := fun p hp => hsz p hp
  have F1 := Lib.hid (fun w => fresh_ways [⟨#[48]⟩, ⟨#[48, 48]⟩] ⟨#[48, 48, 48]⟩ 2 (by decide) rfl (by decide) (by decide) w)
  rw [ways1.1, ways1.2] at F1
  have C1 := Lib.hid (cut_any s0 20 (by decide) hs0)
  have C2 := Lib.hid (cut_any t0 20 (by decide) ht0)
  have hs := cutW_size s0 20
  have ht := cutW_size t0 20
  generalize s0.extract 0 20 = s at *
  generalize t0.extract 0 20 = t at *
  have HS := Lib.hid (fun w r hB => sole_any A n cap w.heap.size l w (by omega) hcap hll hzz r hB)
  have HW := Lib.hid (fun (u : ByteArray) (hu : u.size ≤ 40) w r hB => packWays_any A n cap w.heap.size l u w hu (by omega) hcap hll hzz r hB)
  have hca : ∀ w, (Op.stringOp .add s t).run Tryd.prog w = .ok (.string (s ++ t)) w := fun w => run_string_add_sum w _ _ (by omega)
  have hst : (s ++ t).size ≤ 40 := by rw [ByteArray.size_append]; omega
  have hwd : wd (s ++ t) = wd s ++ wd t := by unfold wd; simp [ByteArray.data_append]
  have W1 := Lib.hid (HW.out s (by omega))
  have W2 := Lib.hid (HW.out t (by omega))
  have W3 := Lib.hid (HW.out (s ++ t) hst)
  rw [hwd] at W3
  generalize s ++ t = st at *
  have hss : (wd s).length = s.size := rfl
  have htt : (wd t).length = t.size := rfl
  clear HW hwd hst
  by_cases hc : checkC (wds l) = 0
  case neg =>
    have e2 : soleB (wds l) = false := soleB_no fun h => hc h.1
    rw [e2] at HS
    rw [waysV_no hc] at W1 W2 W3
    have q1 : (checkC (wds l) != 0) = true := by simpa using hc
    have q1' : (checkC (wds l) == 0) = false := by simpa using hc
    have q2 : (checkC (wds l) == checkC (wds l)) = true := by simp
    generalize checkC (wds l) = E at *
    clear hll hzz hsz hc e2
    go_enter Tryd.func11, Tryd.ntmps11
    go_wp2_with fail
    refine (F1.out _).mono ?_
    rintro e w1 ⟨rfl, hb1⟩
    go_wp2_with fail
    refine (codes_any _).mono ?_
    rintro e w2 ⟨rfl, hb2⟩
    have hb2 := chain hb2 hb1
    have r2 := (hrd.below hb2).more hb2.size
    go_wp2_with fail
    refine (C1.out _).mono ?_
    rintro e w3 ⟨rfl, rfl⟩
    go_wp2_with fail
    refine (C2.out _).mono ?_
    rintro e w3 ⟨rfl, rfl⟩
    go_wp2_with fail
    refine (HS.out _ r2 (Nat.le_refl _)).mono ?_
    rintro e w4 ⟨rfl, hb4⟩
    have r4 := r2.after hb4
    have hb4 := chain hb4 hb2
    go_wp2_with fail
    refine (W1.out _ r4 (Nat.le_refl _)).mono ?_
    rintro e w5 ⟨rfl, hb5⟩
    have r5 := r4.after hb5
    have hb5 := chain hb5 hb4
    go_wp2_with fail
    refine (W2.out _ r5 (Nat.le_refl _)).mono ?_
    rintro e w6 ⟨rfl, hb6⟩
    have r6 := r5.after hb6
    have hb6 := chain hb6 hb5
    go_wp2_with fail
    refine (W3.out _ r6 (Nat.le_refl _)).mono ?_
    rintro e w7 ⟨rfl, hb7⟩
    have hb7 := chain hb7 hb6
    go_wp2
    all_goals (go_ret; exact ⟨by simp, hb7⟩)
  have hok := (checkC_zero _).1 hc
  rw [waysV_ok hc] at W1 W2 W3
  have h1 : soleB (wds l) = true → ∀ u, cnt (wds l) u ≤ 1 := fun h u => cnt_one hok.nodup ((soleB_iff _).1 h).2 u
  have h2 := cnt_mul (wds l) (wd s) _ (wd t) (Nat.le_refl _)
  have p1 := cnt_pow hok.nodup _ (wd s) (Nat.le_refl _)
  have p2 := cnt_pow hok.nodup _ (wd t) (Nat.le_refl _)
  have p3 : cnt (wds l) (wd s) ≤ 1048576 := Nat.le_trans p1 (Nat.le_trans (Nat.pow_le_pow_right (by omega) (show (wd s).length ≤ 20 by omega)) (by decide))
  have p4 : cnt (wds l) (wd t) ≤ 1048576 := Nat.le_trans p2 (Nat.le_trans (Nat.pow_le_pow_right (by omega) (show (wd t).length ≤ 20 by omega)) (by decide))
  have h1a : soleB (wds l) = true → cnt (wds l) (wd s) ≤ 1 ∧ cnt (wds l) (wd t) ≤ 1 ∧ cnt (wds l) (wd s ++ wd t) ≤ 1 := fun h => ⟨h1 h _, h1 h _, h1 h _⟩
  have H1 := Lib.hid h1a
  rw [hc] at HS W1 W2 W3
  generalize cnt (wds l) (wd s ++ wd t) = c at *
  generalize cnt (wds l) (wd s) = a at *
  generalize cnt (wds l) (wd t) = b at *
  generalize soleB (wds l) = is at *
  obtain ⟨ab, hab⟩ : ∃ ab : Nat, ab = a * b := ⟨_, rfl⟩
  have hmul : (a : Int) * (b : Int) = (ab : Int) := by rw [hab]; simp
  have habl : ab ≤ 1099511627776 := by rw [hab]; exact Nat.le_trans (Nat.mul_le_mul p3 p4) (by decide)
  have hwr : IntKind.i64.wrap ((a : Int) * (b : Int)) = (ab : Int) := by rw [hmul, IntKind.wrap_i64]; omega
  have hwr2 : IntKind.i64.wrap (ab : Int) = (ab : Int) := by rw [IntKind.wrap_i64]; omega
  rw [← hab] at h2
  have q3 : decide ((ab : Int) ≤ (c : Int)) = true := decide_eq_true (by omega)
  have q3' : decide (ab ≤ c) = true := decide_eq_true h2
  have G := Lib.hid (fun w => good_fresh [0, 0, 0] 3 3 rfl (by decide) w 26)
  clear hll hzz hsz hc hok h1 h1a p1 p2 hab habl hss htt h2
  go_enter Tryd.func11, Tryd.ntmps11
  go_wp2_with fail
  refine (F1.out _).mono ?_
  rintro e w1 ⟨rfl, hb1⟩
  go_wp2_with fail
  refine (codes_any _).mono ?_
  rintro e w2 ⟨rfl, hb2⟩
  have hb2 := chain hb2 hb1
  have r2 := (hrd.below hb2).more hb2.size
  go_wp2_with fail
  refine (C1.out _).mono ?_
  rintro e w3 ⟨rfl, rfl⟩
  go_wp2_with fail
  refine (C2.out _).mono ?_
  rintro e w3 ⟨rfl, rfl⟩
  go_wp2_with fail
  refine (HS.out _ r2 (Nat.le_refl _)).mono ?_
  rintro e w4 ⟨rfl, hb4⟩
  have r4 := r2.after hb4
  have hb4 := chain hb4 hb2
  go_wp2_with fail
  refine (W1.out _ r4 (Nat.le_refl _)).mono ?_
  rintro e w5 ⟨rfl, hb5⟩
  have r5 := r4.after hb5
  have hb5 := chain hb5 hb4
  go_wp2_with fail
  refine (W2.out _ r5 (Nat.le_refl _)).mono ?_
  rintro e w6 ⟨rfl, hb6⟩
  have r6 := r5.after hb6
  have hb6 := chain hb6 hb5
  go_wp2_with fail
  refine (W3.out _ r6 (Nat.le_refl _)).mono ?_
  rintro e w7 ⟨rfl, hb7⟩
  have hb7 := chain hb7 hb6
  go_wp2_with fail
  refine (G.out _).mono ?_
  rintro e w8 ⟨rfl, hb8⟩
  have hb8 := chain hb8 hb7
  cases hi : is
  · clear H1
    go_wp2
    all_goals (go_ret; exact ⟨by simp, hb8⟩)
  · obtain ⟨k1, k2, k3⟩ := H1.out hi
    have d1 : decide ((a : Int) ≤ 1) = true := decide_eq_true (by omega)
    have d1' : decide (a ≤ 1) = true := decide_eq_true k1
    have d2 : decide ((b : Int) ≤ 1) = true := decide_eq_true (by omega)
    have d2' : decide (b ≤ 1) = true := decide_eq_true k2
    have d3 : decide ((c : Int) ≤ 1) = true := decide_eq_true (by omega)
    have d3' : decide (c ≤ 1) = true := decide_eq_true k3
    clear H1
    go_wp2
    all_goals (go_ret; exact ⟨by simp, hb8⟩)
end Go.Proofs.YtgoofbbbnphncaaDoor
