/- The walks of tree.Check, code.Sum and tree.Cost. -/
import Derived.Test.YtlnobikecmgocaaDoorTreeP
import Derived.Test.YtlnobikecmgocaaDoorCodeSum
import Derived.Test.YtlnobikecmgocaaDoorStruct
namespace Go.Proofs.YtlnobikecmgocaaDoor
open Go.RowKit
set_option linter.unusedVariables false

/-- What tree.Check tells. -/
def checkT (l : List Int) : Int := if 12 < l.length then 2 else if l.all (fun x => decide (1 ≤ x) && decide (x ≤ 10000)) then 0 else 1
theorem checkT_zero (l : List Int) : checkT l = 0 ↔ l.length ≤ 12 ∧ ∀ x ∈ l, 1 ≤ x ∧ x ≤ 10000 := by
  unfold checkT
  by_cases h : 12 < l.length
  · rw [if_pos h]; constructor
    · intro h; cases h
    · intro h; omega
  · rw [if_neg h]
    by_cases h2 : l.all (fun x => decide (1 ≤ x) && decide (x ≤ 10000)) = true
    · rw [if_pos h2]
      rw [List.all_eq_true] at h2
      exact ⟨fun _ => ⟨by omega, fun x hx => by simpa using h2 x hx⟩, fun _ => rfl⟩
    · rw [if_neg h2]; constructor
      · intro h; cases h
      · rintro ⟨_, h3⟩
        exact absurd (List.all_eq_true.2 fun x hx => by simpa using h3 x hx) h2
theorem checkT_one {l : List Int} (h : l.length ≤ 12) {x : Int} (hx : x ∈ l) (h2 : x < 1 ∨ 10000 < x) : checkT l = 1 := by
  unfold checkT
  rw [if_neg (by omega), if_neg]
  intro h3
  have := List.all_eq_true.1 h3 x hx
  simp at this
  omega

set_option maxHeartbeats 1000000 in
theorem treeCheck_any (A : Option Addr) (n c B : Nat) (l : List Int) (w : World) (hn : n ≤ 1125899906842624) (hl : l.length = n) (h : Reads w B A n 1 (l.flatMap cInt)) :
    Calls Tryd.prog 16 #[.slice A n c] w fun e w' => e = .returned (.int .i64 (checkT l)) ∧ w = w' := by
  have Hl := Lib.hid hl
  by_cases hn2 : n ≤ 12
  case neg =>
    have e0 : checkT l = 2 := by unfold checkT; rw [if_pos (by omega)]
    rw [e0]
    have q1 : decide ((12 : Int) < (n : Int)) = true := decide_eq_true (by omega)
    have q1' : decide (12 < n) = true := decide_eq_true (by omega)
    go_enter Tryd.func16, Tryd.ntmps16
    go_wp2
    go_ret
    exact ⟨rfl, rfl⟩
  clear hl
  have q1 : decide ((12 : Int) < (n : Int)) = false := decide_eq_false (by omega)
  have q1' : decide (12 < n) = false := decide_eq_false (by omega)
  obtain ⟨E, hE⟩ : ∃ E, E = checkT l := ⟨_, rfl⟩
  rw [← hE]
  have HE := Lib.hid hE
  clear hE
  go_enter Tryd.func16, Tryd.ntmps16
  go_wp2
  go_loopw [4, 10] (fun _ i wr => ∃ k : Nat, k ≤ n ∧ i = .int .i64 k ∧ wr = w ∧ Hid (∀ x ∈ l.take k, 1 ≤ x ∧ x ≤ 10000)) (fun _ i _ => n - (intOf i).toNat)
  case atStart => exact ⟨0, Nat.zero_le _, rfl, rfl, Lib.hid (by simp)⟩
  case round =>
    obtain ⟨k, hk, rfl, rfl, Hin⟩ := hrel
    by_cases hlt : k < n
    · obtain ⟨b, o, rfl, hbB, hc⟩ := h.2 (by omega)
      have c0 := hc (k * 1 + 0) (by rw [flat_length cInt 1 cInt_len, Hl.out]; omega)
      rw [flat_getD cInt 1 cInt_len 0 l k _ (by rw [Hl.out]; omega) (by omega)] at c0
      simp only [cInt, List.getD_cons_zero, Nat.mul_one, Nat.add_zero] at c0
      have hts := take_succ_getD l k 0 (by rw [Hl.out]; omega)
      have hmem : l.getD k 0 ∈ l := by rw [getD_some _ _ _ (by rw [Hl.out]; omega)]; exact List.getElem_mem _
      have Hts := Lib.hid hts
      have Hmem := Lib.hid hmem
      clear hc hts hmem h
      generalize l.getD k 0 = x at *
      by_cases hx : x < 1
      · have q2 : decide (x < 1) = true := decide_eq_true hx
        obtain rfl : E = 1 := by rw [HE.out]; exact checkT_one (by rw [Hl.out]; exact hn2) Hmem.out (.inl hx)
        go_wp2
        go_ret
        exact ⟨rfl, rfl⟩
      · have q2 : decide (x < 1) = false := decide_eq_false hx
        by_cases hx2 : 10000 < x
        · have q3 : decide (10000 < x) = true := decide_eq_true hx2
          obtain rfl : E = 1 := by rw [HE.out]; exact checkT_one (by rw [Hl.out]; exact hn2) Hmem.out (.inr hx2)
          go_wp2
          go_ret
          exact ⟨rfl, rfl⟩
        · have q3 : decide (10000 < x) = false := decide_eq_false hx2
          go_wp2
          go_roundw
          case rel =>
            refine ⟨k + 1, by omega, by go_num, trivial, Lib.hid fun y hy => ?_⟩
            rw [Hts.out, List.mem_append, List.mem_singleton] at hy
            rcases hy with hy | rfl
            · exact Hin.out y hy
            · omega
          case measure => simp [intOf]; omega
    · obtain rfl : k = n := by omega
      have e : l.take k = l := List.take_of_length_le (by rw [Hl.out]; omega)
      rw [e] at Hin
      obtain rfl : E = 0 := by rw [HE.out]; exact (checkT_zero l).2 ⟨by rw [Hl.out]; exact hn2, Hin.out⟩
      go_wp2
      go_ret
      exact ⟨rfl, rfl⟩

/-- What tree.Cost tells. -/
def costE (ws o : List Int) : Int := if checkT ws ≠ 0 then checkT ws else if sumE o ≠ 0 then sumE o else if o.length ≠ ws.length then 3 else 0
def costV (ws o : List Int) : Int := if costE ws o = 0 then ((costO (nats ws) (nats o) : Nat) : Int) else 0
theorem costE_zero {ws o : List Int} (h : costE ws o = 0) : checkT ws = 0 ∧ sumE o = 0 ∧ o.length = ws.length := by
  unfold costE at h
  by_cases h1 : checkT ws ≠ 0
  · rw [if_pos h1] at h; exact absurd h h1
  · rw [if_neg h1] at h
    by_cases h2 : sumE o ≠ 0
    · rw [if_pos h2] at h; exact absurd h h2
    · rw [if_neg h2] at h
      by_cases h3 : o.length ≠ ws.length
      · rw [if_pos h3] at h; cases h
      · exact ⟨by omega, by omega, by omega⟩
/-- The cost of the first k of them. -/
def costK (ws o : List Nat) (k : Nat) : Nat := sumL (fun k => ws.getD k 0 * o.getD k 0) (List.range k)
theorem costK_succ (ws o : List Nat) (k : Nat) : costK ws o (k + 1) = costK ws o k + ws.getD k 0 * o.getD k 0 := by
  unfold costK
  rw [List.range_succ, sumL_app]
  simp [sumL]
theorem nats_getD (l : List Int) (k : Nat) : (nats l).getD k 0 = (l.getD k 0).toNat := by
  unfold nats
  rw [List.getD_eq_getElem?_getD, List.getElem?_map, List.getD_eq_getElem?_getD]
  cases l[k]? <;> rfl
theorem costK_le {ws o : List Nat} (h1 : ∀ k, ws.getD k 0 ≤ 10000) (h2 : ∀ k, o.getD k 0 ≤ 12) : ∀ k, costK ws o k ≤ k * 120000
  | 0 => by simp [costK, sumL]
  | k + 1 => by
    rw [costK_succ]
    have := costK_le h1 h2 k
    have h3 : ws.getD k 0 * o.getD k 0 ≤ 10000 * 12 := Nat.mul_le_mul (h1 k) (h2 k)
    omega
theorem getD_bd {l : List Int} {a b : Int} (h : ∀ x ∈ l, a ≤ x ∧ x ≤ b) (hb : 0 ≤ b) (k : Nat) : (l.getD k 0).toNat ≤ b.toNat := by
  rw [List.getD_eq_getElem?_getD]
  rcases Nat.lt_or_ge k l.length with hk | hk
  · rw [List.getElem?_eq_getElem hk]
    have := (h _ (List.getElem_mem hk)).2
    show (l[k]).toNat ≤ _
    omega
  · rw [List.getElem?_eq_none hk]; simp

set_option maxHeartbeats 1000000 in
theorem treeCost_any (A : Option Addr) (n c B : Nat) (ws : List Int) (A' : Option Addr) (m c' B' : Nat) (o : List Int) (w : World) (hn : n ≤ 1125899906842624) (hm : m ≤ 1125899906842624) (hl : ws.length = n) (ho : o.length = m) (h : Reads w B A n 1 (ws.flatMap cInt)) (h' : Reads w B' A' m 1 (o.flatMap cInt)) :
    Calls Tryd.prog 10 #[.slice A n c, .slice A' m c'] w fun e w' => e = .returned (.tuple #[.int .i64 (costV ws o), .int .i64 (costE ws o)]) ∧ w = w' := by
  have H1 := Lib.hid (treeCheck_any A n c B ws w hn hl h)
  have H2 := Lib.hid (codeSum_any A' m c' B' o w hm ho h')
  obtain ⟨E, hE⟩ : ∃ E, E = costE ws o := ⟨_, rfl⟩
  obtain ⟨V, hV⟩ : ∃ V, V = costV ws o := ⟨_, rfl⟩
  rw [← hE, ← hV]
  have HE := Lib.hid hE
  have HV := Lib.hid hV
  have Hl := Lib.hid hl
  have Ho := Lib.hid ho
  by_cases h1 : checkT ws = 0
  case neg =>
    have e1 : E = checkT ws := by rw [hE]; unfold costE; rw [if_pos h1]
    have e2 : V = 0 := by rw [hV]; unfold costV; rw [if_neg (by rw [← hE, e1]; exact h1)]
    clear hE hV hl ho HE HV
    subst e1 e2
    have q1 : (checkT ws != 0) = true := by simpa using h1
    generalize checkT ws = E at *
    go_enter Tryd.func10, Tryd.ntmps10
    go_wp2_with fail
    refine H1.out.mono ?_
    rintro e w1 ⟨rfl, rfl⟩
    go_wp2
    go_ret2
    exact ⟨rfl, rfl⟩
  by_cases h2 : sumE o = 0
  case neg =>
    have e1 : E = sumE o := by rw [hE]; unfold costE; rw [if_neg (fun h => h h1), if_pos h2]
    have e2 : V = 0 := by rw [hV]; unfold costV; rw [if_neg (by rw [← hE, e1]; exact h2)]
    clear hE hV hl ho HE HV
    subst e1 e2
    have q1 : (sumE o != 0) = true := by simpa using h2
    rw [h1] at H1
    generalize sumE o = E at *
    go_enter Tryd.func10, Tryd.ntmps10
    go_wp2_with fail
    refine H1.out.mono ?_
    rintro e w1 ⟨rfl, rfl⟩
    go_wp2_with fail
    refine H2.out.mono ?_
    rintro e w1 ⟨rfl, rfl⟩
    go_wp2
    go_ret2
    exact ⟨rfl, rfl⟩
  rw [h1] at H1
  rw [h2] at H2
  by_cases h3 : m = n
  case neg =>
    have e1 : E = 3 := by rw [hE]; unfold costE; rw [if_neg (fun h => h h1), if_neg (fun h => h h2), if_pos (by omega)]
    have e2 : V = 0 := by rw [hV]; unfold costV; rw [if_neg (by rw [← hE, e1]; decide)]
    clear hE hV hl ho HE HV
    subst e1 e2
    have q1 : ((m : Int) != (n : Int)) = true := by simpa using (show (m : Int) ≠ n by omega)
    generalize sumV o = S at *
    go_enter Tryd.func10, Tryd.ntmps10
    go_wp2_with fail
    refine H1.out.mono ?_
    rintro e w1 ⟨rfl, rfl⟩
    go_wp2_with fail
    refine H2.out.mono ?_
    rintro e w1 ⟨rfl, rfl⟩
    go_wp2
    go_ret2
    exact ⟨rfl, rfl⟩
  subst h3
  obtain rfl : E = 0 := by rw [hE]; unfold costE; rw [if_neg (fun h => h h1), if_neg (fun h => h h2), if_neg (by omega)]
  have e2 : V = ((costO (nats ws) (nats o) : Nat) : Int) := by rw [hV]; unfold costV; rw [if_pos hE.symm]
  have e3 : costO (nats ws) (nats o) = costK (nats ws) (nats o) m := by unfold costO costK; rw [show (nats ws).length = m from by simp [nats, hl]]
  rw [e3] at e2
  have H1w := (checkT_zero ws).1 h1
  have H2o := (sumE_zero o).1 h2
  have bd := fun k => costK_le (ws := nats ws) (o := nats o) (fun k => by rw [nats_getD]; exact getD_bd H1w.2 (by decide) k) (fun k => by rw [nats_getD]; exact getD_bd H2o.2 (by decide) k) k
  have hm12 : m ≤ 12 := by rw [← hl]; exact H1w.1
  have K1 := Lib.hid H1w
  have K2 := Lib.hid H2o
  have HV2 := Lib.hid e2
  have Hbd := Lib.hid bd
  clear hE hV hl ho HE HV h1 h2 e2 e3 H1w H2o bd
  generalize sumV o = S at *
  go_enter Tryd.func10, Tryd.ntmps10
  go_wp2_with fail
  refine H1.out.mono ?_
  rintro e w1 ⟨rfl, rfl⟩
  go_wp2_with fail
  refine H2.out.mono ?_
  rintro e w1 ⟨rfl, rfl⟩
  go_wp2
  go_loopw [9, 10, 11, 32] (fun sv _ _ i wr => ∃ k : Nat, k ≤ m ∧ i = .int .i64 k ∧ sv = .int .i64 ((costK (nats ws) (nats o) k : Nat) : Int) ∧ wr = w) (fun _ _ _ i _ => m - (intOf i).toNat)
  case atStart => exact ⟨0, Nat.zero_le _, rfl, rfl, rfl⟩
  case round =>
    obtain ⟨k, hk, rfl, rfl, rfl⟩ := hrel
    by_cases hlt : k < m
    · obtain ⟨b, p, rfl, hbB, hc⟩ := h.2 (by omega)
      obtain ⟨b', p', rfl, hbB', hc'⟩ := h'.2 (by omega)
      have c0 := hc (k * 1 + 0) (by rw [flat_length cInt 1 cInt_len, Hl.out]; omega)
      rw [flat_getD cInt 1 cInt_len 0 ws k _ (by rw [Hl.out]; omega) (by omega)] at c0
      simp only [cInt, List.getD_cons_zero, Nat.mul_one, Nat.add_zero] at c0
      have c1 := hc' (k * 1 + 0) (by rw [flat_length cInt 1 cInt_len, Ho.out]; omega)
      rw [flat_getD cInt 1 cInt_len 0 o k _ (by rw [Ho.out]; omega) (by omega)] at c1
      simp only [cInt, List.getD_cons_zero, Nat.mul_one, Nat.add_zero] at c1
      have hs := costK_succ (nats ws) (nats o) k
      rw [nats_getD, nats_getD] at hs
      have m1 : ws.getD k 0 ∈ ws := by rw [getD_some _ _ _ (by rw [Hl.out]; omega)]; exact List.getElem_mem _
      have m2 : o.getD k 0 ∈ o := by rw [getD_some _ _ _ (by rw [Ho.out]; omega)]; exact List.getElem_mem _
      have b1 := K1.out.2 _ m1
      have b2 := K2.out.2 _ m2
      have b3 := Hbd.out k
      generalize ws.getD k 0 = x at *
      generalize o.getD k 0 = y at *
      obtain ⟨x, rfl⟩ : ∃ z : Nat, x = z := ⟨x.toNat, by omega⟩
      obtain ⟨y, rfl⟩ : ∃ z : Nat, y = z := ⟨y.toNat, by omega⟩
      simp only [Int.toNat_natCast] at hs
      have b4 : x * y ≤ 10000 * 12 := Nat.mul_le_mul (by omega) (by omega)
      have Hs := Lib.hid hs
      generalize hS : costK (nats ws) (nats o) k = S0 at *
      clear hs m1 m2 hS hc hc' h h'
      go_wp2
      go_roundw
      case rel =>
        refine ⟨k + 1, by omega, by go_num, ?_, trivial⟩
        rw [Hs.out]
        simp
      case measure => simp [intOf]; omega
    · obtain rfl : k = m := by omega
      rw [← HV2.out]
      go_wp2
      go_ret2
      exact ⟨rfl, rfl⟩
end Go.Proofs.YtlnobikecmgocaaDoor
