/- DiffLeast's walk: no script has a smaller cost. -/
import Derived.Test.YtookbaaicpapnaaDiffLaws
import Derived.Test.YtookbaaicpapnaaApply
import Derived.Test.YtookbaaicpapnaaArgs
namespace Go.Proofs.Ytookbaaicpapnaa
open Go.RowKit
set_option linter.unusedVariables false

theorem costE_take (l : List Ed) (k : Nat) (h : k < l.length) (d : Ed) : costE (l.take (k + 1)) = costE (l.take k) + ((l.getD k d).2.1 + ((l.getD k d).2.2.size : Int)) := by
  rw [take_succ_getD l k d h, costE_append, costE, costE]; omega
theorem costE_bd {n : Int} (hn : n ≤ 200) {l : List Ed} {f : Bool} {e : Int} (h : OkE n f e l) : ∀ k, 0 ≤ costE (l.take k) ∧ costE (l.take k) ≤ 240 * (l.take k).length := by
  have hall := ok_all hn h
  have : ∀ m : List Ed, (∀ x ∈ m, 0 ≤ x.1 ∧ 0 ≤ x.2.1 ∧ x.1 + x.2.1 ≤ n ∧ x.2.2.size ≤ 40) → 0 ≤ costE m ∧ costE m ≤ 240 * m.length := by
    intro m
    induction m with
    | nil => exact fun _ => ⟨by simp [costE], by simp [costE]⟩
    | cons x m ih =>
      intro hx
      obtain ⟨a, b, c, d⟩ := hx x (by simp)
      have := ih (fun y hy => hx y (by simp [hy]))
      rw [costE, List.length_cons]
      omega
  exact fun k => this _ (fun x hx => hall x (List.mem_of_mem_take hx))
theorem least_law (s : ByteArray) (l : List Ed) (h : checkE s.size l = 0) : ce s ⟨(app s.data.toList 0 l).toArray⟩ = 0 ∧ cv s ⟨(app s.data.toList 0 l).toArray⟩ ≤ costE l := by
  obtain ⟨h0, h1, h2, h3, h4⟩ := checkE_ok h
  have hs : s.data.toList.length = s.size := rfl
  have h3' : OkE s.data.toList.length true (0 : Nat) l := h3
  have hlen := app_length (e := 0) h3' (fun _ => rfl) (Nat.zero_le _)
  have hl := app_lcs (e := 0) h3' (fun _ => rfl) (Nat.zero_le _)
  have hsz : (ByteArray.mk (app s.data.toList 0 l).toArray).size = (app s.data.toList 0 l).length := rfl
  have hb : s.size ≤ 200 ∧ (ByteArray.mk (app s.data.toList 0 l).toArray).size ≤ 200 := by omega
  refine ⟨ce_ok hb, ?_⟩
  rw [cv_ok hb, hsz]
  rw [List.drop_zero] at hl
  have : (ByteArray.mk (app s.data.toList 0 l).toArray).data.toList = app s.data.toList 0 l := rfl
  rw [this]
  omega

set_option maxRecDepth 100000 in
set_option maxHeartbeats 2000000 in
theorem diffLeast_walk (s : ByteArray) (A : Option Addr) (len cap : Nat) (l : List Ed) (hs : s.size ≤ 140737488351232) (w : World) (hl : EditsIn w A len cap l) :
    Calls Try.prog 11 #[.string s, .slice A len cap] w fun e w' => e = .returned (.bool true) ∧ Below w.heap.size w w' := by
  obtain ⟨hll, hrd, hlen, hok, hcap, hcapm, hnil⟩ := hl
  by_cases hE : checkE s.size l = 0
  · obtain ⟨h0, h1, h2, h3, h4⟩ := checkE_ok hE
    obtain ⟨hce, hcv⟩ := least_law s l hE
    have Hap := Lib.hid (apply_ok s A len cap w.heap.size l hll hE)
    have Hbd := Lib.hid (costE_bd (by omega) h3)
    generalize (⟨(app s.data.toList 0 l).toArray⟩ : ByteArray) = t at *
    have hco := cost_any s t
    rw [hce] at hco
    have Hco := Lib.hid hco
    generalize cv s t = x at *
    have Hll := Lib.hid hll
    have hl20 : len ≤ 20 := by omega
    have Hcv := Lib.hid hcv
    clear hE h3 h4 h2 hce hco hll hok hcv hnil hcap hcapm
    go_enter Try.func11, Try.ntmps11
    go_wp2_with fail
    refine (diffs_any _).mono ?_
    rintro e w1 ⟨rfl, hb1⟩
    go_wp2_with fail
    refine (Hap.out w1 (hrd.below hb1) hb1.size).mono ?_
    rintro e w2 ⟨rfl, hb2⟩
    have hbw2 := chain hb2 hb1
    go_wp2_with fail
    refine (Hco.out w2).mono ?_
    rintro e w3 ⟨rfl, hb3⟩
    have hbw3 := chain hb3 hbw2
    clear hb1 hb2 hb3 hbw2 Hap Hco
    go_wp2
    go_loopw [9, 11, 32] (fun av _ iv wr => ∃ k : Nat, k ≤ len ∧ iv = .int .i64 (k : Int) ∧ av = .int .i64 (costE (l.take k)) ∧ Below w.heap.size w wr) (fun _ _ iv _ => len - (intOf iv).toNat)
    case atStart => exact ⟨0, Nat.zero_le _, rfl, rfl, hbw3⟩
    case round =>
      obtain ⟨k, hk, rfl, rfl, hbr⟩ := hrel
      obtain ⟨b1, b2⟩ := Hbd.out k
      rw [List.length_take, Hll.out] at b2
      by_cases hlt : k < len
      · have h := hrd.below hbr
        obtain ⟨b, o, rfl, hbB, hc⟩ := h.2 (by omega)
        have c0 := hc (k * 3 + 0) (by rw [flat_length cEdit 3 cEdit_len, Hll.out]; omega)
        have c1 := hc (k * 3 + 1) (by rw [flat_length cEdit 3 cEdit_len, Hll.out]; omega)
        have c2 := hc (k * 3 + 2) (by rw [flat_length cEdit 3 cEdit_len, Hll.out]; omega)
        have dE : Ed := (0, 0, ByteArray.empty)
        rw [flat_getD cEdit 3 cEdit_len dE l k _ (by rw [Hll.out]; omega) (by omega)] at c0 c1 c2
        simp only [cEdit, List.getD_cons_zero, List.getD_cons_succ, Nat.add_zero, ← Nat.add_assoc] at c0 c1 c2
        have hct := costE_take l k (by rw [Hll.out]; omega) dE
        obtain ⟨b3, b4⟩ := Hbd.out (k + 1)
        rw [List.length_take, Hll.out] at b4
        generalize l.getD k dE = x at *
        obtain ⟨at_, del, ins⟩ := x
        simp only at c0 c1 c2 hct
        rw [hct] at b3 b4
        have Hct := Lib.hid hct
        generalize costE (l.take k) = C at *
        have hb' : b < wr.heap.size := by have := hbr.size; omega
        clear hct hc
        rcases Nat.eq_zero_or_pos k with k0 | k0
        · subst k0
          simp only [Nat.zero_mul, Nat.add_zero] at c0 c1 c2
          go_wp2
          go_roundw
          case rel => exact ⟨0 + 1, by omega, by go_num, by rw [Hct.out], hbr.alloc hbr.size _⟩
          case measure => simp only [intOf]; omega
        · go_wp2
          go_roundw
          case rel => exact ⟨k + 1, by omega, by go_num, by rw [Hct.out], hbr.alloc hbr.size _⟩
          case measure => simp only [intOf]; omega
      · obtain rfl : k = len := by omega
        have e : l.take k = l := List.take_of_length_le (by rw [Hll.out]; exact Nat.le_refl _)
        rw [e] at *
        have q1 : decide (x ≤ costE l) = true := decide_eq_true Hcv.out
        go_wp2
        go_ret
        exact ⟨by simp, hbr⟩
  · have Hap := Lib.hid (apply_no s (by omega) A len cap w.heap.size l (by omega) hll hok _ rfl hE)
    have q1 : (checkE s.size l != 0) = true := by simpa using hE
    generalize checkE s.size l = E at *
    clear hll hok hnil hcap hcapm hE
    go_enter Try.func11, Try.ntmps11
    go_wp2_with fail
    refine (diffs_any _).mono ?_
    rintro e w1 ⟨rfl, hb1⟩
    go_wp2_with fail
    refine (Hap.out w1 (hrd.below hb1) hb1.size).mono ?_
    rintro e w2 ⟨rfl, hb2⟩
    go_wp2
    go_ret
    exact ⟨rfl, chain hb2 hb1⟩
end Go.Proofs.Ytookbaaicpapnaa
