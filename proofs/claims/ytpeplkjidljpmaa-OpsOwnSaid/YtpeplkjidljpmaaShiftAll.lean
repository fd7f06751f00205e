/- The walk of shift.All. -/
import Derived.Test.YtpeplkjidljpmaaShiftP
import Derived.Test.YtpeplkjidljpmaaShiftPast
import Derived.Test.YtpeplkjidljpmaaClone
import Derived.Test.YtpeplkjidljpmaaApart
import Derived.Laws.OwnMore
namespace Go.Proofs.Ytpeplkjidljpmaa
open Go.RowKit
set_option linter.unusedVariables false

theorem size_any (x : Op3) (w : World) :
    Calls Try.prog 54 #[.agg (cOp x).toArray] w fun e w' => e = .returned (.int .i64 (sizeO x)) ∧ Below w.heap.size w w' := by
  obtain ⟨k, a, b⟩ := x
  have hE : sizeO (k, a, b) = if k = 1 then 1 else if k = 2 then -1 else 0 := rfl
  generalize sizeO (k, a, b) = R at *
  show Calls Try.prog 54 #[.agg #[.int .i64 k, .int .i64 a, .int .u8 (b.toNat : Int)]] w _
  by_cases k1 : k = 1
  · subst k1
    rw [if_pos rfl] at hE
    subst hE
    go_enter Try.func54, Try.ntmps54
    go_wp2
    go_ret
    exact ⟨rfl, (Below.refl _ _).alloc (Nat.le_refl _) _⟩
  by_cases k2 : k = 2
  · subst k2
    rw [if_neg (by omega), if_pos rfl] at hE
    subst hE
    go_enter Try.func54, Try.ntmps54
    go_wp2
    go_ret
    exact ⟨rfl, (Below.refl _ _).alloc (Nat.le_refl _) _⟩
  · rw [if_neg k1, if_neg k2] at hE
    subst hE
    have e1 : (k == 1) = false := by rw [beq_eq_false_iff_ne]; exact k1
    have e2 : (k == 2) = false := by rw [beq_eq_false_iff_ne]; exact k2
    go_enter Try.func54, Try.ntmps54
    go_wp2
    go_ret
    exact ⟨rfl, (Below.refl _ _).alloc (Nat.le_refl _) _⟩

theorem flat_set3 (l : List Op3) (j : Nat) (d : Op3) (hj : j < l.length) (k a : Int) (b : UInt8) :
    (l.set j (k, a, b)).flatMap cOp = (((l.flatMap cOp).set (j * 3) (.int .i64 k)).set (j * 3 + 1) (.int .i64 a)).set (j * 3 + 2) (.int .u8 (b.toNat : Int)) := by
  obtain ⟨k0, a0, b0, hd⟩ : ∃ k0 a0 b0, l.getD j d = (k0, a0, b0) := ⟨_, _, _, rfl⟩
  have e0 : l[j]? = some (k0, a0, b0) := by rw [getElem?_of_getD l d j hj, hd]
  have s1 := flat_set cOp 3 cOp_len l j 0 (k0, a0, b0) (k, a0, b0) (.int .i64 k) e0 (by omega) rfl
  have e1 : (l.set j (k, a0, b0))[j]? = some (k, a0, b0) := by rw [List.getElem?_set_self hj]
  have s2 := flat_set cOp 3 cOp_len (l.set j (k, a0, b0)) j 1 (k, a0, b0) (k, a, b0) (.int .i64 a) e1 (by omega) rfl
  have e2 : ((l.set j (k, a0, b0)).set j (k, a, b0))[j]? = some (k, a, b0) := by rw [List.getElem?_set_self (by rw [List.length_set]; exact hj)]
  have s3 := flat_set cOp 3 cOp_len ((l.set j (k, a0, b0)).set j (k, a, b0)) j 2 (k, a, b0) (k, a, b) (.int .u8 (b.toNat : Int)) e2 (by omega) rfl
  rw [List.set_set, List.set_set] at s3
  rw [List.set_set] at s2
  rw [s3, List.set_set, s2, s1, Nat.add_zero]
theorem inn_set (x : Op3) (L : List Op3) (j : Nat) (d : Op3) (hj : j < L.length) :
    ((inn x (L.take j)).2 ++ L.drop j).set j (pst (L.getD j d) (inn x (L.take j)).1 false) = (inn x (L.take (j + 1))).2 ++ L.drop (j + 1) ∧ (inn x (L.take (j + 1))).1 = pst (inn x (L.take j)).1 (L.getD j d) true := by
  have hl : (inn x (L.take j)).2.length = j := by rw [inn_len, List.length_take]; omega
  rw [take_succ_getD L j d hj, inn_snoc, drop_getD L j d hj]
  refine ⟨?_, rfl⟩
  rw [List.set_append_right _ _ (by omega), hl, Nat.sub_self, List.set_cons_zero, List.append_assoc]
  rfl
theorem infoOpA : (Try.prog.info? 23).map (fun i => (i.zero, i.size, i.bytes)) = some (some (.agg #[.int .i64 0, .int .i64 0, .int .u8 0]), 3, 24) := by kernel_rfl
theorem ownFormA {w : World} {base size n c : Nat} {e : TypeId} {A : Option Addr} {xs : List Value} (h : w.ownsRow base e size (.slice A n c) n xs) (hn : 0 < n) : ∃ g, A = some ⟨g, 0, none⟩ ∧ base ≤ g ∧ g < w.heap.size := by
  rcases h.2 with ⟨h1, h0⟩ | ⟨g, cap, cur, h1, h2, h3, _⟩
  · omega
  · injection h1 with h1 _ _
    exact ⟨g, h1, h2, (Array.getElem?_eq_some_iff.1 h3).1⟩
theorem ownBelowA {w w' : World} {base size n : Nat} {e : TypeId} {v : Value} {xs : List Value} (h : w.ownsRow base e size v n xs) (hb : Below w.heap.size w w') : w'.ownsRow base e size v n xs := by
  refine ⟨h.1, ?_⟩
  rcases h.2 with h0 | ⟨g, cap, cur, hv, hg, hh, rest⟩
  · exact .inl h0
  · exact .inr ⟨g, cap, cur, hv, hg, by rw [hb.block g (Array.getElem?_eq_some_iff.1 hh).1]; exact hh, rest⟩
theorem ownFarA {w : World} {base size n : Nat} {e : TypeId} {v : Value} {xs : List Value} (h : w.ownsRow base e size v n xs) {p : Addr} (hp : v.ownBlock ≠ some p.block) (u : Value) : (w.setCell p u).ownsRow base e size v n xs := by
  refine ⟨h.1, ?_⟩
  rcases h.2 with h0 | ⟨g, cap, cur, hv, hg, hh, rest⟩
  · exact .inl h0
  · exact .inr ⟨g, cap, cur, hv, hg, (Below.heap_setCell w p u g (fun e => hp (by rw [hv, ← e]; rfl))).trans hh, rest⟩
/-- append(row, x...), x any row, nil too. -/
theorem wpList_append_row {P : Program} {w : World} {ops : Array Oper} {rest : List Oper} {o : Oper} {a : Act} {Q : Exit → Act → World → Prop} (hgd : o.guard = none) (s x : Operand) (t : TypeId)
    (ho : o.op = .call { callee := .builtin .append, args := #[s, x], argTypes := #[t, t] })
    (base : Nat) (e : TypeId) {z : Value} {size bytes : Nat} (hinfo : (P.info? e).map (fun i => (i.zero, i.size, i.bytes)) = some (some z, size, bytes)) (ht : P.underlying t = some (.slice e)) (hzs : z.cells.size = size) (hsz : 0 < size)
    (A : Option Addr) (n c : Nat) (xs : List Value) (hs : a.eval s = .slice A n c) (hown : w.ownsRow base e size (.slice A n c) n xs)
    (X : Option Addr) (m c2 B : Nat) (news : List Value) (hx : a.eval x = .slice X m c2) (hr : Reads w B X m size news) (h1 : ∀ u ∈ news, u.oneCell' = true)
    (h63 : n + m ≤ maxLen) (hbytes : (n + m) * bytes ≤ 140737488355328) (hbase : base ≤ w.heap.size) (hA : A ≠ none)
    (h : ∀ A' c' w1, w1.ownsRow base e size (.slice A' (n + m) c') (n + m) (xs ++ news) → w.grownBy w1 (Value.slice A n c).ownBlock → wpList P ops Q rest (a.put o.dst (.slice A' (n + m) c')) w1) : wpList P ops Q (o :: rest) a w := by
  obtain ⟨i0, hi, hz0, hz1, hz2⟩ := info_parts hinfo
  cases X with
  | some ad =>
    refine wpList_append_own w hgd s x t ho base e i0 z size bytes ht hi hz0 hz1 hz2 hzs hsz (.slice A n c) n xs hs hown ad m c2 news hx hr.1 (fun j u hj => ?_) h1 h63 hbytes hbase fun v' w1 h2 h3 _ => ?_
    · have hj' := (List.getElem?_eq_some_iff.1 hj).1
      have hm0 : 0 < m := by rcases Nat.eq_zero_or_pos m with h0 | h0; rw [hr.1, h0] at hj'; omega; exact h0
      obtain ⟨b, o, e, hb, hc⟩ := hr.2 hm0
      injection e with e
      subst e
      rw [add_at, hc j hj', List.getD_eq_getElem?_getD, hj]; rfl
    · obtain ⟨A', c', rfl, _⟩ := own_shape h2
      exact h A' c' w1 h2 h3
  | none =>
    have hm : m = 0 := by
      rcases Nat.eq_zero_or_pos m with h0 | h0
      · exact h0
      · obtain ⟨b, o, e, _⟩ := hr.2 h0; cases e
    subst hm
    have hn : news = [] := List.eq_nil_of_length_eq_zero (by rw [hr.1]; omega)
    subst hn
    obtain ⟨a0, rfl⟩ : ∃ a0, A = some a0 := by cases A with
      | none => exact absurd rfl hA
      | some a0 => exact ⟨a0, rfl⟩
    have hcap : n ≤ c := by
      rcases hown.2 with ⟨h1, h0⟩ | ⟨g, cap, cur, h1, _, _, h2, _⟩
      · omega
      · injection h1 with _ _ h3
        omega
    have hrun : (Builtin.append_ #[t, t] o.type #[.slice (some a0) n c, .slice none 0 c2]).run P w = .ok (.slice (some a0) n c) w := by
      simp [Builtin.append_, run_underlying ht, sizeOf, typeInfo, hi, Builtin.lenOf, Builtin.firstCells, loadCells, storeCells, hcap]
    refine wpList_plain hgd fun K hK => ?_
    unfold Oper.wp execOp
    simp only [ho, resolve, invoke, builtin, Sem.run_bind, Sem.run_pure, Result.andThen_ok, List.map_toArray, List.map_cons, List.map_nil, hs, hx, hrun]
    refine hK _ _ (h (some a0) c w ?_ ?_)
    · rw [List.append_nil]; exact hown
    · exact ⟨rfl, rfl, rfl, Nat.le_refl _, fun _ _ _ => rfl⟩

/-- All's answer. -/
def ToldAll (n : Int) (a b : List Op3) (w : World) (e : Ending) (w' : World) : Prop :=
  Below w.heap.size w w' ∧ ((allE n a b ≠ 0 ∧ e = .returned (.tuple #[.slice none 0 0, .slice none 0 0, .int .i64 (allE n a b)])) ∨
    (allE n a b = 0 ∧ ∃ A c A' c', e = .returned (.tuple #[.slice A a.length c, .slice A' b.length c', .int .i64 0]) ∧
      w'.ownsRow w.heap.size 23 3 (.slice A a.length c) a.length ((allO a b).1.flatMap cOp) ∧
      w'.ownsRow w.heap.size 23 3 (.slice A' b.length c') b.length ((allO a b).2.flatMap cOp) ∧
      ∀ g, (Value.slice A a.length c).ownBlock = some g → (Value.slice A' b.length c').ownBlock ≠ some g))

theorem rowE_step {n : Int} {l : List Op3} {j : Nat} {d : Op3} (hj : j < l.length) (h : rowE n l = rowE (n + sumO (l.take j)) (l.drop j)) :
    (chO (n + sumO (l.take j)) (l.getD j d) ≠ 0 → rowE n l = chO (n + sumO (l.take j)) (l.getD j d)) ∧
    (chO (n + sumO (l.take j)) (l.getD j d) = 0 → rowE n l = rowE (n + sumO (l.take (j + 1))) (l.drop (j + 1))) := by
  rw [drop_getD l j d hj] at h
  simp only [rowE] at h
  refine ⟨fun h1 => by rw [h, if_pos h1], fun h1 => ?_⟩
  rw [h, if_neg (by simpa using h1), take_succ_getD l j d hj, sumO_append]
  simp only [sumO]
  congr 1; omega

/-- The answer that is left before row k (0: a, 1: b) is checked. -/
def ansO (n t : Int) (a b : List Op3) (k : Nat) : Int := if k = 0 then (if stepE n t a ≠ 0 then stepE n t a else stepE n t b) else if k = 1 then stepE n t b else 0
theorem ansO_step {n t : Int} {a b : List Op3} {k : Nat} (hk : k < 2) : ansO n t a b k = if stepE n t (if k = 0 then a else b) ≠ 0 then stepE n t (if k = 0 then a else b) else ansO n t a b (k + 1) := by
  have : k = 0 ∨ k = 1 := by omega
  rcases this with rfl | rfl
  · rfl
  · unfold ansO
    simp only [Nat.one_ne_zero, ↓reduceIte]
    by_cases h : stepE n t b ≠ 0
    · rw [if_pos h]
    · rw [if_neg h]; simpa using h
theorem stepE_bad {n t : Int} {l : List Op3} {E : Int} (h : rowE n l = E) (hE : E ≠ 0) : stepE n t l = E := by unfold stepE; rw [h, if_pos hE]
theorem row_at {w : World} {A A' : Option Addr} {la ca lb cb g : Nat} {a b : List Op3} {T : TypeId} (h : Reads w w.heap.size A la 3 (a.flatMap cOp)) (h' : Reads w w.heap.size A' lb 3 (b.flatMap cOp))
    (ha : a.length = la) (hb : b.length = lb) (l1 : la ≤ 30) (l2 : lb ≤ 30) {wr : World} (hb' : Below w.heap.size w wr) (hX : Blk wr g T #[.slice A la ca, .slice A' lb cb]) (k : Nat) (hk : k < 2) :
    ∃ X lx cx, wr.cell? ⟨g, k, none⟩ = some (.slice X lx cx) ∧ Reads wr w.heap.size X lx 3 ((if k = 0 then a else b).flatMap cOp) ∧ (if k = 0 then a else b).length = lx ∧ lx ≤ 30 := by
  have : k = 0 ∨ k = 1 := by omega
  rcases this with rfl | rfl
  · exact ⟨A, la, ca, hX.cell 0, h.below hb', ha, l1⟩
  · exact ⟨A', lb, cb, hX.cell 1, h'.below hb', hb, l2⟩

set_option maxRecDepth 100000 in
set_option maxHeartbeats 4000000 in
theorem all_any (n : Int) (hn : -9223372036854775808 ≤ n ∧ n ≤ 9223372036854775807) (A A' : Option Addr) (la ca lb cb B0 : Nat) (a b : List Op3) (ha : a.length = la) (hb : b.length = lb)
    (hla : la ≤ 140737488355328) (hlb : lb ≤ 140737488355328)
    (w : World) (h : Reads w B0 A la 3 (a.flatMap cOp)) (h' : Reads w B0 A' lb 3 (b.flatMap cOp)) (hB0 : B0 ≤ w.heap.size) :
    Calls Try.prog 20 #[.int .i64 n, .slice A la ca, .slice A' lb cb] w (ToldAll n a b w) := by
  have hE : allE n a b = if 30 < la ∨ 30 < lb then 2 else if stepE n ((la : Int) + lb) a ≠ 0 then stepE n ((la : Int) + lb) a else stepE n ((la : Int) + lb) b := by unfold allE; rw [ha, hb]
  unfold ToldAll
  by_cases l1 : 30 < la
  · have q1 : decide (30 < (la : Int)) = true := decide_eq_true (by omega)
    have q1' : decide (30 < la) = true := decide_eq_true l1
    rw [if_pos (.inl l1)] at hE
    rw [hE]
    go_enter Try.func20, Try.ntmps20
    go_wp2
    go_ret3
    exact ⟨Below.refl _ _, .inl ⟨by simp, rfl⟩⟩
  by_cases l2 : 30 < lb
  · have q1 : decide (30 < (la : Int)) = false := decide_eq_false (by omega)
    have q1' : decide (30 < la) = false := decide_eq_false l1
    have q2 : decide (30 < (lb : Int)) = true := decide_eq_true (by omega)
    have q2' : decide (30 < lb) = true := decide_eq_true l2
    rw [if_pos (.inr l2)] at hE
    rw [hE]
    go_enter Try.func20, Try.ntmps20
    go_wp2
    go_ret3
    exact ⟨Below.refl _ _, .inl ⟨by simp, rfl⟩⟩
  rw [if_neg (by omega)] at hE
  have q1 : decide (30 < (la : Int)) = false := decide_eq_false (by omega)
  have q1' : decide (30 < la) = false := decide_eq_false l1
  have q2 : decide (30 < (lb : Int)) = false := decide_eq_false (by omega)
  have q2' : decide (30 < lb) = false := decide_eq_false l2
  have Ha := Lib.hid ha
  have Hb := Lib.hid hb
  have HE := Lib.hid hE
  have h : Reads w w.heap.size A la 3 (a.flatMap cOp) := h.more hB0
  have h' : Reads w w.heap.size A' lb 3 (b.flatMap cOp) := h'.more hB0
  clear ha hb hE hB0
  go_enter Try.func20, Try.ntmps20
  go_wp2
  have hX := Blk.new w 34 #[.slice A la ca, .slice A' lb cb]
  have hbW := (Below.refl w.heap.size w).alloc (Nat.le_refl _) (Obj.cells #[.slice A la ca, .slice A' lb cb] 34)
  have hWs : (w.alloc (Obj.cells #[.slice A la ca, .slice A' lb cb] 34)).heap.size = w.heap.size + 1 := by simp
  generalize w.alloc (Obj.cells #[.slice A la ca, .slice A' lb cb] 34) = W at *
  go_loopw [10, 11, 36, 41, 42, 43, 14] (fun _ _ kv _ _ _ _ wr => ∃ k : Nat, k ≤ 2 ∧ kv = .int .i64 k ∧ Below W.heap.size W wr ∧ Hid (allE n a b = ansO n ((la : Int) + lb) a b k))
    (fun _ _ kv _ _ _ _ _ => 2 - (intOf kv).toNat)
  case atStart => exact ⟨0, by omega, rfl, Below.refl _ _, HE⟩
  case round =>
    obtain ⟨k, hk, rfl, hbr, HR⟩ := hrel
    by_cases hlt : k < 2
    · obtain ⟨X, lx, cx, hcellW, hrd, hlx, hlx30⟩ := row_at h h' Ha.out Hb.out (by omega) (by omega) hbW hX k hlt
      have hcell := (hbr.cell (by show w.heap.size < _; omega)).trans hcellW
      have HS := Lib.hid (HR.out.trans (ansO_step hlt))
      clear HR hcellW
      generalize (if k = 0 then a else b) = l at *
      have Hlx := Lib.hid hlx
      clear hlx
      have k2 : (k : Int) < 2 := by omega
      have k2' : decide (k < 2) = true := decide_eq_true hlt
      go_wp2
      go_loopw [11, 14, 43] (fun mv _ jv wv => ∃ (j : Nat) (m : Int), j ≤ lx ∧ jv = .int .i64 j ∧ mv = .int .i64 m ∧ Hid (m = n + sumO (l.take j)) ∧ Hid (rowE n l = rowE m (l.drop j)) ∧ (-9223372036854775808 ≤ m ∧ m ≤ 9223372036854775807) ∧ Below W.heap.size W wv)
        (fun _ _ jv _ => lx - (intOf jv).toNat)
      case atStart => exact ⟨0, n, by omega, rfl, rfl, Lib.hid (by simp [sumO]), Lib.hid rfl, hn, hbr⟩
      case round =>
        obtain ⟨j, m, hj, rfl, rfl, Hm, Hr, hmb, hbv⟩ := hrel
        have hrv := hrd.below' hbv (by omega)
        by_cases hjl : j < lx
        · obtain ⟨b1, o1, rfl, hbB, hc⟩ := hrv.2 (by omega)
          have c0 := hc (j * 3 + 0) (by rw [flat_length cOp 3 cOp_len, Hlx.out]; omega)
          have c1 := hc (j * 3 + 1) (by rw [flat_length cOp 3 cOp_len, Hlx.out]; omega)
          have c2 := hc (j * 3 + 2) (by rw [flat_length cOp 3 cOp_len, Hlx.out]; omega)
          have dO : Op3 := (0, 0, 0)
          rw [flat_getD cOp 3 cOp_len dO l j _ (by rw [Hlx.out]; omega) (by omega)] at c0 c1 c2
          simp only [cOp, List.getD_cons_zero, List.getD_cons_succ, Nat.add_zero, ← Nat.add_assoc] at c0 c1 c2
          have hst := rowE_step (d := dO) (by rw [Hlx.out]; exact hjl) (Hm.out ▸ Hr.out)
          have htk : sumO (l.take (j + 1)) = sumO (l.take j) + sizeO (l.getD j dO) := by rw [take_succ_getD l j dO (by rw [Hlx.out]; exact hjl), sumO_append]; simp [sumO]
          rw [← Hm.out] at hst
          have Hst := Lib.hid hst
          have Htk := Lib.hid htk
          clear hc hst htk
          generalize l.getD j dO = x at *
          obtain ⟨xk, xa, xb⟩ := x
          simp only at c0 c1 c2
          have H1 := Lib.hid (fun w => checkO_any m xk xa xb w)
          have H2 := Lib.hid (fun w => size_any (xk, xa, xb) w)
          have jl2 : (j : Int) < lx := by omega
          have hbB' : b1 < wr.heap.size := by have := hbv.size; have := hbW.size; omega
          have hV := Blk.new wr 23 #[.int .i64 xk, .int .i64 xa, .int .u8 (xb.toNat : Int)]
          have hbV := hbv.alloc hbv.size (Obj.cells #[.int .i64 xk, .int .i64 xa, .int .u8 (xb.toNat : Int)] 23)
          by_cases hch : chO m (xk, xa, xb) = 0
          · rw [hch] at H1
            have hr2 := Hst.out.2 hch
            obtain ⟨m0, m1, _⟩ := chO_ok hch
            have hsz := sizeO_le (xk, xa, xb)
            have hws : IntKind.i64.wrap (m + sizeO (xk, xa, xb)) = m + sizeO (xk, xa, xb) := wrap_small (by omega) (by omega)
            have hm2 : m + sizeO (xk, xa, xb) = n + sumO (l.take (j + 1)) := by rw [Htk.out, Hm.out]; omega
            rw [← hm2] at hr2
            have Hr2 := Lib.hid hr2
            have Hm2 := Lib.hid hm2
            clear hr2 hm2 Hst Htk hch
            generalize sizeO (xk, xa, xb) = sz at *
            have x0 := hV.cell 0
            have x1 := hV.cell 1
            have x2 := hV.cell 2
            rcases Nat.eq_zero_or_pos j with j0 | j0
            · subst j0
              simp only [Nat.zero_mul, Nat.add_zero] at c0 c1 c2
              go_wp2_with fail
              refine (H1.out _).mono ?_
              rintro e w2 ⟨rfl, hb2⟩
              have hV2 := hV.after hb2
              have x0 : w2.cell? ⟨wr.heap.size, 0, none⟩ = some (.int .i64 xk) := hV2.cell 0
              have x1 : w2.cell? ⟨wr.heap.size, 1, none⟩ = some (.int .i64 xa) := hV2.cell 1
              have x2 : w2.cell? ⟨wr.heap.size, 2, none⟩ = some (.int .u8 (xb.toNat : Int)) := hV2.cell 2
              go_wp2_with fail
              refine (H2.out _).mono ?_
              rintro e w3 ⟨rfl, hb3⟩
              have hb3' := chain hb3 (chain hb2 hbV)
              clear hV2 hV hbV hb2 hb3 hbv
              go_wp2
              go_roundw
              case rel => exact ⟨0 + 1, m + sz, by omega, rfl, rfl, Hm2, Hr2, by omega, hb3'⟩
              case measure => simp only [intOf]; omega
            · go_wp2_with fail
              refine (H1.out _).mono ?_
              rintro e w2 ⟨rfl, hb2⟩
              have hV2 := hV.after hb2
              have x0 : w2.cell? ⟨wr.heap.size, 0, none⟩ = some (.int .i64 xk) := hV2.cell 0
              have x1 : w2.cell? ⟨wr.heap.size, 1, none⟩ = some (.int .i64 xa) := hV2.cell 1
              have x2 : w2.cell? ⟨wr.heap.size, 2, none⟩ = some (.int .u8 (xb.toNat : Int)) := hV2.cell 2
              go_wp2_with fail
              refine (H2.out _).mono ?_
              rintro e w3 ⟨rfl, hb3⟩
              have hb3' := chain hb3 (chain hb2 hbV)
              clear hV2 hV hbV hb2 hb3 hbv
              go_wp2
              go_roundw
              case rel => exact ⟨j + 1, m + sz, by omega, by go_num, rfl, Hm2, Hr2, by omega, hb3'⟩
              case measure => simp only [intOf]; omega
          · have hne : (chO m (xk, xa, xb) != 0) = true := by rw [bne_iff_ne]; exact hch
            have hfin : allE n a b = chO m (xk, xa, xb) := by rw [HS.out, stepE_bad (Hst.out.1 hch) hch, if_pos hch]
            have Hfin := Lib.hid hfin
            have Hch := Lib.hid hch
            clear hfin Hst Htk
            generalize chO m (xk, xa, xb) = E at *
            clear hch
            have hend : ∀ w2, Below wr.heap.size wr w2 → ToldAll n a b w (.returned (.tuple #[.slice none 0 0, .slice none 0 0, .int .i64 E])) w2 := fun w2 hb2 =>
              ⟨chain hb2 (chain hbv hbW), .inl ⟨by rw [Hfin.out]; exact Hch.out, by rw [Hfin.out]⟩⟩
            have Hend := Lib.hid hend
            clear hend
            rcases Nat.eq_zero_or_pos j with j0 | j0
            · subst j0
              simp only [Nat.zero_mul, Nat.add_zero] at c0 c1 c2
              go_wp2_with fail
              refine (H1.out _).mono ?_
              rintro e w2 ⟨rfl, hb2⟩
              go_wp2
              go_ret3
              exact Hend.out _ (chain hb2 ((Below.refl wr.heap.size wr).alloc (Nat.le_refl _) _))
            · go_wp2_with fail
              refine (H1.out _).mono ?_
              rintro e w2 ⟨rfl, hb2⟩
              go_wp2
              go_ret3
              exact Hend.out _ (chain hb2 ((Below.refl wr.heap.size wr).alloc (Nat.le_refl _) _))
        · obtain rfl : j = lx := by omega
          have hr0 : rowE n l = 0 := by rw [Hr.out, List.drop_of_length_le (by rw [Hlx.out]; exact Nat.le_refl _)]; rfl
          have hm0 : m = n + sumO l := by rw [Hm.out, List.take_of_length_le (by rw [Hlx.out]; exact Nat.le_refl _)]
          have hw : IntKind.i64.wrap (IntKind.i64.wrap (m + (la : Int)) + (lb : Int)) = IntKind.i64.wrap (n + sumO l + ((la : Int) + lb)) := by
            rw [← hm0, IntKind.wrap_i64, IntKind.wrap_i64, IntKind.wrap_i64]; omega
          obtain ⟨T1, hT1⟩ : ∃ T, IntKind.i64.wrap (m + (la : Int)) = T := ⟨_, rfl⟩
          obtain ⟨T2, hT2⟩ : ∃ T, IntKind.i64.wrap (T1 + (lb : Int)) = T := ⟨_, rfl⟩
          rw [hT1, hT2] at hw
          have hv := chain hbv hbW
          by_cases hT : 200 < T2
          · have q3 : decide (200 < T2) = true := decide_eq_true hT
            have hfin : allE n a b = 11 := by
              have : stepE n ((la : Int) + lb) l = 11 := by unfold stepE; rw [if_neg (by simpa using hr0), ← hw, if_pos hT]
              rw [HS.out, this, if_pos (by simp)]
            have Hfin := Lib.hid hfin
            clear hfin hw hr0 hm0
            go_wp2
            go_ret3
            exact ⟨hv, .inl ⟨by rw [Hfin.out]; simp, by rw [Hfin.out]; rfl⟩⟩
          · have q3 : decide (200 < T2) = false := decide_eq_false hT
            have hfin : allE n a b = ansO n ((la : Int) + lb) a b (k + 1) := by
              have : stepE n ((la : Int) + lb) l = 0 := by unfold stepE; rw [if_neg (by simpa using hr0), ← hw, if_neg hT]
              rw [HS.out, this, if_neg (by simp)]
            have Hfin := Lib.hid hfin
            clear hfin hw hr0 hm0
            go_wp2
            go_roundw
            case rel => exact ⟨k + 1, by omega, by go_num, hbv, Hfin⟩
            case measure => simp only [intOf]; omega
    · obtain rfl : k = 2 := by omega
      have h0 : allE n a b = 0 := HR.out
      have Hok := Lib.hid (allE_ok h0)
      have H0 := Lib.hid h0
      have hw := chain hbr hbW
      have h3 := h.below hw
      have h3' := h'.below hw
      have hB3 : w.heap.size ≤ wr.heap.size := by have := hbr.size; omega
      have hE3 := own_empty wr w.heap.size 23 3 hB3
      have hone : ∀ u ∈ b.flatMap cOp, u.oneCell' = true := fun u hu => by
        obtain ⟨x, _, hx⟩ := List.mem_flatMap.1 hu
        simp only [cOp, List.mem_cons, List.not_mem_nil, or_false] at hx
        rcases hx with rfl | rfl | rfl <;> rfl
      have Hone := Lib.hid hone
      clear hbr hbW h0 HR hone
      go_wp2_with (first | (at_builtin; go_must (refine wpList_append_row rfl (.tmp 67) (.tmp 68) 34 rfl w.heap.size 23 infoOpA Try.underlying34 rfl (by decide) (some ⟨wr.heap.size, 0, none⟩) 0 0 [] rfl hE3 A' lb cb w.heap.size (b.flatMap cOp) rfl (h3'.alloc hB3 _) Hone.out (by unfold maxLen; omega) (by omega) (by simp; omega) (by simp) ?_); intro A3 c3 w3 hown3 hg3))
      simp only [Nat.zero_add, List.nil_append] at hown3
      have hw3 : Below w.heap.size w w3 := (hw.alloc hB3 (.cells #[] 23)).grown hg3 (by simp; omega) (fun k hk => (hE3.lt k hk).1)
      clear hE3 hg3 h3 h3' hw hB3 hX
      go_loopw [0, 16, 18, 19, 20, 21, 22, 23, 72, 77, 78, 79] (fun nv ov _ _ _ _ _ _ iv _ _ _ wr => ∃ (i : Nat) (m : Int) (Ao : Option Addr) (co : Nat), i ≤ la ∧ iv = .int .i64 i ∧ nv = .int .i64 m ∧ Hid (m = n + sumO (a.take i)) ∧ ov = .slice Ao i co ∧
          wr.ownsRow w.heap.size 23 3 (.slice Ao i co) i ((allO (a.take i) b).1.flatMap cOp) ∧
          wr.ownsRow w.heap.size 23 3 (.slice A3 lb c3) lb ((allO (a.take i) b).2.flatMap cOp) ∧
          (∀ g, (Value.slice Ao i co).ownBlock = some g → (Value.slice A3 lb c3).ownBlock ≠ some g) ∧ Below w.heap.size w wr)
        (fun _ _ _ _ _ _ _ _ iv _ _ _ _ => la - (intOf iv).toNat)
      case atStart => exact ⟨0, n, none, 0, by omega, rfl, rfl, Lib.hid (by simp [sumO]), rfl, World.ownsRow_nil _ _ _ _, hown3, (fun g hg => by cases hg), hw3⟩
      case round =>
        obtain ⟨i, m, Ao, co, hi, rfl, rfl, Hm, rfl, hout, hleft, hdis, hbr⟩ := hrel
        by_cases hil : i < la
        · have h4 := h.below hbr
          obtain ⟨b1, o1, rfl, hbB, hc⟩ := h4.2 (by omega)
          have c0 := hc (i * 3 + 0) (by rw [flat_length cOp 3 cOp_len, Ha.out]; omega)
          have c1 := hc (i * 3 + 1) (by rw [flat_length cOp 3 cOp_len, Ha.out]; omega)
          have c2 := hc (i * 3 + 2) (by rw [flat_length cOp 3 cOp_len, Ha.out]; omega)
          have dO : Op3 := (0, 0, 0)
          rw [flat_getD cOp 3 cOp_len dO a i _ (by rw [Ha.out]; omega) (by omega)] at c0 c1 c2
          simp only [cOp, List.getD_cons_zero, List.getD_cons_succ, Nat.add_zero, ← Nat.add_assoc] at c0 c1 c2
          have Hstep := Lib.hid (fun j hj => all_step Hok.out i j dO (by rw [Ha.out]; exact hil) (by rw [Hb.out]; exact hj))
          have htk := take_succ_getD a i dO (by rw [Ha.out]; exact hil)
          have Htk := Lib.hid htk
          have hlen2 : (allO (a.take i) b).2.length = lb := by rw [(allO_len _ _).2, Hb.out]
          have Hn0 := Lib.hid (Hok.out.range (.inl (by rw [Ha.out]; omega)))
          have hmb : -30 ≤ m ∧ m ≤ 230 := by
            have h1 := sumO_le (a.take i)
            have h2 : (a.take i).length ≤ 30 := by rw [List.length_take]; omega
            have h3 := Hn0.out
            rw [Hm.out]; omega
          rw [← Hm.out] at Hstep
          have Hlen := Lib.hid hlen2
          clear hc htk hlen2
          generalize hLx : (allO (a.take i) b).2 = L at *
          have HL := Lib.hid hLx
          generalize hxx : a.getD i dO = x at *
          have Hx := Lib.hid hxx
          clear hLx hxx
          obtain ⟨xk, xa, xb⟩ := x
          simp only at c0 c1 c2
          have ilt : (i : Int) < la := by omega
          have hbB' : b1 < wr.heap.size := by have := hbr.size; omega
          have hV := Blk.new wr 23 #[.int .i64 xk, .int .i64 xa, .int .u8 (xb.toNat : Int)]
          have hbV := hbr.alloc hbr.size (Obj.cells #[.int .i64 xk, .int .i64 xa, .int .u8 (xb.toNat : Int)] 23)
          have houtV := hout.alloc (Obj.cells #[.int .i64 xk, .int .i64 xa, .int .u8 (xb.toNat : Int)] 23)
          have hleftV := hleft.alloc (Obj.cells #[.int .i64 xk, .int .i64 xa, .int .u8 (xb.toNat : Int)] 23)
          have hgx : w.heap.size ≤ wr.heap.size := hbr.size
          have hn1 : ∀ g, (Value.slice Ao i co).ownBlock = some g → g ≠ wr.heap.size := fun g hg => by have := (hout.lt g hg).2; omega
          have hn2 : ∀ g, (Value.slice A3 lb c3).ownBlock = some g → g ≠ wr.heap.size := fun g hg => by have := (hleft.lt g hg).2; omega
          go_wp2
          obtain ⟨wo, hwo⟩ : ∃ wo, wo = wr := ⟨_, rfl⟩
          subst hwo
          go_loopw [19, 20, 21, 22, 23, 79] (fun mv _ _ _ _ jv wv => ∃ (j : Nat) (mj : Int) (xj : Op3), j ≤ lb ∧ jv = .int .i64 j ∧ mv = .int .i64 mj ∧ Hid (mj = m + sumO (L.take j)) ∧ Hid (xj = (inn (xk, xa, xb) (L.take j)).1) ∧
              Blk wv wo.heap.size 23 #[.int .i64 xj.1, .int .i64 xj.2.1, .int .u8 (xj.2.2.toNat : Int)] ∧
              wv.ownsRow w.heap.size 23 3 (.slice Ao i co) i ((allO (a.take i) b).1.flatMap cOp) ∧
              wv.ownsRow w.heap.size 23 3 (.slice A3 lb c3) lb (((inn (xk, xa, xb) (L.take j)).2 ++ L.drop j).flatMap cOp) ∧ Below w.heap.size w wv)
            (fun _ _ _ _ _ jv _ => lb - (intOf jv).toNat)
          case atStart => exact ⟨0, m, (xk, xa, xb), by omega, rfl, rfl, Lib.hid (by simp [sumO]), Lib.hid rfl, hV, houtV, hleftV, hbV⟩
          case round =>
            obtain ⟨j, mj, xj, hj, rfl, rfl, Hmj, Hxj, hX, ho, hl, hbv⟩ := hrel
            by_cases hjl : j < lb
            · obtain ⟨gl, rfl, hgl, hgl2⟩ := ownFormA hl (by omega)
              have hLL : (inn (xk, xa, xb) (L.take j)).2.length = j := by rw [inn_len, List.length_take, Hlen.out]; omega
              have hLLj : ((inn (xk, xa, xb) (L.take j)).2 ++ L.drop j).getD j dO = L.getD j dO := by rw [getD_app_right _ _ _ _ (by omega), hLL, Nat.sub_self, getD_drop, Nat.add_zero]
              have hLLl : ((inn (xk, xa, xb) (L.take j)).2 ++ L.drop j).length = lb := by rw [List.length_append, List.length_drop, hLL, Hlen.out]; omega
              have Hcell := Lib.hid (show ∀ W : World, W.ownsRow w.heap.size 23 3 (.slice (some ⟨gl, 0, none⟩) lb c3) lb (((inn (xk, xa, xb) (L.take j)).2 ++ L.drop j).flatMap cOp) → ∀ q, q < 3 → W.cell? ⟨gl, j * 3 + q, none⟩ = some ((cOp (L.getD j dO)).getD q undef) from fun W hW q hq => by
                have hq2 : j * 3 + q < lb * 3 := by omega
                rw [hW.cellAt _ hq2, getElem?_of_getD _ undef _ (by rw [flat_length cOp 3 cOp_len, hLLl]; omega), flat_getD cOp 3 cOp_len dO _ j q (by rw [hLLl]; exact hjl) hq, hLLj])
              have hcell := Hcell.out wr hl
              have HLLl := Lib.hid hLLl
              have c0 := hcell 0 (by omega)
              have c1 := hcell 1 (by omega)
              have c2 := hcell 2 (by omega)
              obtain ⟨hs1, hs2⟩ := Hstep.out j hjl
              have hset := inn_set (xk, xa, xb) L j dO (by rw [Hlen.out]; exact hjl)
              have htk := take_succ_getD L j dO (by rw [Hlen.out]; exact hjl)
              rw [← Hxj.out] at hs1 hset
              rw [← Hmj.out] at hs1 hs2
              obtain ⟨m0, m1, _⟩ := chO_ok hs2
              have Htk2 := Lib.hid htk
              have Hset := Lib.hid hset
              clear hcell hset htk hLLj hLLl hLL
              generalize L.getD j dO = y at *
              obtain ⟨yk, ya, yb⟩ := y
              obtain ⟨uk, ua, ub⟩ := xj
              simp only [cOp, List.getD_cons_zero, List.getD_cons_succ, Nat.add_zero] at c0 c1 c2
              obtain ⟨zk, za, zb, hz⟩ : ∃ a b c, pst (uk, ua, ub) (yk, ya, yb) true = (a, b, c) := ⟨_, _, _, rfl⟩
              obtain ⟨vk, va, vb, hv⟩ : ∃ a b c, pst (yk, ya, yb) (uk, ua, ub) false = (a, b, c) := ⟨_, _, _, rfl⟩
              have p1 := fun w => past_ok mj (uk, ua, ub) (yk, ya, yb) true hs1 hs2 w
              have p2 := fun w => past_ok mj (yk, ya, yb) (uk, ua, ub) false hs2 hs1 w
              rw [hz] at p1
              rw [hv] at p2
              have hset' := Hset.out
              rw [hz, hv] at hset'
              have Hset := Lib.hid hset'
              have P1 := Lib.hid (show ∀ w, Calls Try.prog 17 #[.int .i64 mj, .agg #[.int .i64 uk, .int .i64 ua, .int .u8 (ub.toNat : Int)], .agg #[.int .i64 yk, .int .i64 ya, .int .u8 (yb.toNat : Int)], .bool true] w fun e w' => e = .returned (.tuple #[.agg #[.int .i64 zk, .int .i64 za, .int .u8 (zb.toNat : Int)], .int .i64 0]) ∧ Below w.heap.size w w' from p1)
              have P2 := Lib.hid (show ∀ w, Calls Try.prog 17 #[.int .i64 mj, .agg #[.int .i64 yk, .int .i64 ya, .int .u8 (yb.toNat : Int)], .agg #[.int .i64 uk, .int .i64 ua, .int .u8 (ub.toNat : Int)], .bool false] w fun e w' => e = .returned (.tuple #[.agg #[.int .i64 vk, .int .i64 va, .int .u8 (vb.toNat : Int)], .int .i64 0]) ∧ Below w.heap.size w w' from p2)
              clear p1 p2 hz hv hset'
              have S1 := Lib.hid (fun w => size_any (yk, ya, yb) w)
              have hsz := sizeO_le (yk, ya, yb)
              have hws : IntKind.i64.wrap (mj + sizeO (yk, ya, yb)) = mj + sizeO (yk, ya, yb) := wrap_small (by omega) (by omega)
              clear hs1 hs2
              have hm2 : mj + sizeO (yk, ya, yb) = m + sumO (L.take (j + 1)) := by rw [Htk2.out, sumO_append, Hmj.out]; simp only [sumO]; omega
              have Hm2 := Lib.hid hm2
              clear hm2
              generalize sizeO (yk, ya, yb) = sz at *
              have jlt : (j : Int) < lb := by omega
              simp only at hX
              have hxlt : wo.heap.size < wr.heap.size := hX.lt
              have x0 : wr.cell? ⟨wo.heap.size, 0, none⟩ = some (.int .i64 uk) := hX.cell 0
              have x1 : wr.cell? ⟨wo.heap.size, 1, none⟩ = some (.int .i64 ua) := hX.cell 1
              have x2 : wr.cell? ⟨wo.heap.size, 2, none⟩ = some (.int .u8 (ub.toNat : Int)) := hX.cell 2
              have hY := Blk.new wr 23 #[.int .i64 yk, .int .i64 ya, .int .u8 (yb.toNat : Int)]
              have hYb := hbv.alloc hbv.size (Obj.cells #[.int .i64 yk, .int .i64 ya, .int .u8 (yb.toNat : Int)] 23)
              have hXY := hX.alloc (Obj.cells #[.int .i64 yk, .int .i64 ya, .int .u8 (yb.toNat : Int)] 23)
              have hoY := ho.alloc (Obj.cells #[.int .i64 yk, .int .i64 ya, .int .u8 (yb.toNat : Int)] 23)
              have hlY := hl.alloc (Obj.cells #[.int .i64 yk, .int .i64 ya, .int .u8 (yb.toNat : Int)] 23)
              go_wp2_with fail
              have hWs : (wr.alloc (Obj.cells #[.int .i64 yk, .int .i64 ya, .int .u8 (yb.toNat : Int)] 23)).heap.size = wr.heap.size + 1 := by simp
              generalize wr.alloc (Obj.cells #[.int .i64 yk, .int .i64 ya, .int .u8 (yb.toNat : Int)] 23) = W1 at *
              refine (P1.out _).mono ?_
              rintro e w2 ⟨rfl, hb2⟩
              have hX2 := hXY.after hb2
              have hY2 := hY.after hb2
              have ho2 := ownBelowA hoY hb2
              have hl2 := ownBelowA hlY hb2
              have hbw2 := chain hb2 hYb
              have hs2 := hb2.size
              clear hXY hY hoY hlY hYb hb2 hX ho hl x0 x1 x2 c0 c1 c2
              have hZ := Blk.new w2 23 #[.int .i64 zk, .int .i64 za, .int .u8 (zb.toNat : Int)]
              have hXZ := hX2.alloc (Obj.cells #[.int .i64 zk, .int .i64 za, .int .u8 (zb.toNat : Int)] 23)
              have hYZ := hY2.alloc (Obj.cells #[.int .i64 zk, .int .i64 za, .int .u8 (zb.toNat : Int)] 23)
              have hoZ := ho2.alloc (Obj.cells #[.int .i64 zk, .int .i64 za, .int .u8 (zb.toNat : Int)] 23)
              have hlZ := hl2.alloc (Obj.cells #[.int .i64 zk, .int .i64 za, .int .u8 (zb.toNat : Int)] 23)
              have hbZ := hbw2.alloc hbw2.size (Obj.cells #[.int .i64 zk, .int .i64 za, .int .u8 (zb.toNat : Int)] 23)
              have xlt : wo.heap.size < w2.heap.size := hX2.lt
              have ylt : wr.heap.size < w2.heap.size := hY2.lt
              have x0 : w2.cell? ⟨wo.heap.size, 0, none⟩ = some (.int .i64 uk) := hX2.cell 0
              have x1 : w2.cell? ⟨wo.heap.size, 1, none⟩ = some (.int .i64 ua) := hX2.cell 1
              have x2 : w2.cell? ⟨wo.heap.size, 2, none⟩ = some (.int .u8 (ub.toNat : Int)) := hX2.cell 2
              have y0 : w2.cell? ⟨wr.heap.size, 0, none⟩ = some (.int .i64 yk) := hY2.cell 0
              have y1 : w2.cell? ⟨wr.heap.size, 1, none⟩ = some (.int .i64 ya) := hY2.cell 1
              have y2 : w2.cell? ⟨wr.heap.size, 2, none⟩ = some (.int .u8 (yb.toNat : Int)) := hY2.cell 2
              go_wp2_with fail
              have hWs2 : (w2.alloc (Obj.cells #[.int .i64 zk, .int .i64 za, .int .u8 (zb.toNat : Int)] 23)).heap.size = w2.heap.size + 1 := by simp
              generalize w2.alloc (Obj.cells #[.int .i64 zk, .int .i64 za, .int .u8 (zb.toNat : Int)] 23) = W2 at *
              refine (P2.out _).mono ?_
              rintro e w3 ⟨rfl, hb3⟩
              have hX3 := hXZ.after hb3
              have hY3 := hYZ.after hb3
              have hZ3 := hZ.after hb3
              have ho3 := ownBelowA hoZ hb3
              have hl3 := ownBelowA hlZ hb3
              have hbw3 := chain hb3 hbZ
              have hs3 := hb3.size
              clear hXZ hYZ hoZ hlZ hbZ hZ hb3 x0 x1 x2 y0 y1 y2 hX2 hY2 ho2 hl2 hbw2
              have d0 := Hcell.out w3 hl3 0 (by omega)
              have d1 := Hcell.out w3 hl3 1 (by omega)
              have d2 := Hcell.out w3 hl3 2 (by omega)
              simp only [cOp, List.getD_cons_zero, List.getD_cons_succ, Nat.add_zero] at d0 d1 d2
              have f0 := hl3.frozenAt (j * 3)
              have f1 := hl3.frozenAt (j * 3 + 1)
              have f2 := hl3.frozenAt (j * 3 + 2)
              have nex : gl ≠ wo.heap.size := hn2 gl rfl
              have ney : gl ≠ wr.heap.size := by omega
              have nez : gl ≠ w2.heap.size := by omega
              have y0 : w3.cell? ⟨wr.heap.size, 0, none⟩ = some (.int .i64 yk) := hY3.cell 0
              have y1 : w3.cell? ⟨wr.heap.size, 1, none⟩ = some (.int .i64 ya) := hY3.cell 1
              have y2 : w3.cell? ⟨wr.heap.size, 2, none⟩ = some (.int .u8 (yb.toNat : Int)) := hY3.cell 2
              go_wp2_with fail
              have hl4 := (((hl3.stored (j * 3) (.int .i64 vk)).1.stored (j * 3 + 1) (.int .i64 va)).1.stored (j * 3 + 2) (.int .u8 (vb.toNat : Int))).1
              rw [← flat_set3 _ j dO (by rw [HLLl.out]; exact hjl), Hset.out.1] at hl4
              have hX4 := ((hX3.far (p := ⟨gl, j * 3, none⟩) (by exact fun h => nex h.symm) (.int .i64 vk)).far (p := ⟨gl, j * 3 + 1, none⟩) (by exact fun h => nex h.symm) (.int .i64 va)).far (p := ⟨gl, j * 3 + 2, none⟩) (by exact fun h => nex h.symm) (.int .u8 (vb.toNat : Int))
              have hZ4 := ((hZ3.far (p := ⟨gl, j * 3, none⟩) (by exact fun h => nez h.symm) (.int .i64 vk)).far (p := ⟨gl, j * 3 + 1, none⟩) (by exact fun h => nez h.symm) (.int .i64 va)).far (p := ⟨gl, j * 3 + 2, none⟩) (by exact fun h => nez h.symm) (.int .u8 (vb.toNat : Int))
              have hdl : (Value.slice Ao i co).ownBlock ≠ some gl := fun h => hdis gl h rfl
              have ho4 := ownFarA (ownFarA (ownFarA ho3 (p := ⟨gl, j * 3, none⟩) hdl (.int .i64 vk)) (p := ⟨gl, j * 3 + 1, none⟩) hdl (.int .i64 va)) (p := ⟨gl, j * 3 + 2, none⟩) hdl (.int .u8 (vb.toNat : Int))
              have hbw4 := ((hbw3.setCell (p := ⟨gl, j * 3, none⟩) hgl (.int .i64 vk)).setCell (p := ⟨gl, j * 3 + 1, none⟩) hgl (.int .i64 va)).setCell (p := ⟨gl, j * 3 + 2, none⟩) hgl (.int .u8 (vb.toNat : Int))
              clear hX3 hY3 hZ3 ho3 hl3 hbw3 y0 y1 y2 f0 f1 f2 d0 d1 d2
              generalize ((w3.setCell ⟨gl, j * 3, none⟩ (.int .i64 vk)).setCell ⟨gl, j * 3 + 1, none⟩ (.int .i64 va)).setCell ⟨gl, j * 3 + 2, none⟩ (.int .u8 (vb.toNat : Int)) = w4 at *
              refine (S1.out _).mono ?_
              rintro e w5 ⟨rfl, hb5⟩
              have hX5 := hX4.after hb5
              have hZ5 := hZ4.after hb5
              have ho5 := ownBelowA ho4 hb5
              have hl5 := ownBelowA hl4 hb5
              have hbw5 := chain hb5 hbw4
              clear hX4 hZ4 ho4 hl4 hbw4 hb5
              have x0 : w5.cell? ⟨wo.heap.size, 0, none⟩ = some (.int .i64 uk) := hX5.cell 0
              have x1 : w5.cell? ⟨wo.heap.size, 1, none⟩ = some (.int .i64 ua) := hX5.cell 1
              have x2 : w5.cell? ⟨wo.heap.size, 2, none⟩ = some (.int .u8 (ub.toNat : Int)) := hX5.cell 2
              have z0 : w5.cell? ⟨w2.heap.size, 0, none⟩ = some (.int .i64 zk) := hZ5.cell 0
              have z1 : w5.cell? ⟨w2.heap.size, 1, none⟩ = some (.int .i64 za) := hZ5.cell 1
              have z2 : w5.cell? ⟨w2.heap.size, 2, none⟩ = some (.int .u8 (zb.toNat : Int)) := hZ5.cell 2
              have f0 := hX5.frozen 0
              have f1 := hX5.frozen 1
              have f2 := hX5.frozen 2
              go_wp2
              go_roundw
              case rel =>
                refine ⟨j + 1, mj + sz, (zk, za, zb), by omega, by go_num, rfl, ?_, ?_, ?_, ?_, ?_, ?_⟩
                · exact Hm2
                · exact Lib.hid Hset.out.2.symm
                · exact ((hX5.set_ 0 (.int .i64 zk)).set_ 1 (.int .i64 za)).set_ 2 (.int .u8 (zb.toNat : Int))
                · have hne : (Value.slice Ao i co).ownBlock ≠ some wo.heap.size := fun h => hn1 _ h rfl
                  exact ownFarA (ownFarA (ownFarA ho5 (p := ⟨wo.heap.size, 0, none⟩) hne _) (p := ⟨wo.heap.size, 1, none⟩) hne _) (p := ⟨wo.heap.size, 2, none⟩) hne _
                · have hne : (Value.slice (some ⟨gl, 0, none⟩) lb c3).ownBlock ≠ some wo.heap.size := fun h => hn2 _ h rfl
                  exact ownFarA (ownFarA (ownFarA hl5 (p := ⟨wo.heap.size, 0, none⟩) hne _) (p := ⟨wo.heap.size, 1, none⟩) hne _) (p := ⟨wo.heap.size, 2, none⟩) hne _
                · exact ((hbw5.setCell (p := ⟨wo.heap.size, 0, none⟩) hgx _).setCell (p := ⟨wo.heap.size, 1, none⟩) hgx _).setCell (p := ⟨wo.heap.size, 2, none⟩) hgx _
              case measure => simp only [intOf]; omega
            · obtain rfl : j = lb := by omega
              have e1 : L.take j = L := List.take_of_length_le (by rw [Hlen.out]; exact Nat.le_refl _)
              have e2 : L.drop j = [] := List.drop_of_length_le (by rw [Hlen.out]; exact Nat.le_refl _)
              have hxj := Hxj.out
              rw [e1] at hxj
              rw [e1, e2, List.append_nil] at hl
              have Hxj := Lib.hid hxj
              clear hxj e1 e2 Hmj Hstep hV hbV houtV hleftV hout hleft
              obtain ⟨uk, ua, ub⟩ := xj
              simp only at hX
              have x0 : wr.cell? ⟨wo.heap.size, 0, none⟩ = some (.int .i64 uk) := hX.cell 0
              have x1 : wr.cell? ⟨wo.heap.size, 1, none⟩ = some (.int .i64 ua) := hX.cell 1
              have x2 : wr.cell? ⟨wo.heap.size, 2, none⟩ = some (.int .u8 (ub.toNat : Int)) := hX.cell 2
              have hB6 : w.heap.size ≤ wr.heap.size := hbv.size
              go_wp2_with (first | (at_builtin; go_must (refine wpList_append_apart wr 34 (.tmp 107) (.tmp 109) rfl rfl w.heap.size 23 infoOpA Try.underlying34 rfl (by decide) Ao i co _ rfl ho #[.int .i64 uk, .int .i64 ua, .int .u8 (ub.toNat : Int)] 1 rfl rfl (by simp [Value.oneCell']) (by unfold maxLen; omega) (by omega) hB6 ?_); intro A6 c6 w6 hown6 hb6 hg6 hp6; have hb7 := hbv.trans hb6; have k0 := (hb7.cell (p := ⟨b1, o1 + i * 3, none⟩) hbB).trans ((hbr.cell hbB).symm.trans c0); have k1 := (hb7.cell (p := ⟨b1, o1 + i * 3 + 1, none⟩) hbB).trans ((hbr.cell hbB).symm.trans c1); have k2 := (hb7.cell (p := ⟨b1, o1 + i * 3 + 2, none⟩) hbB).trans ((hbr.cell hbB).symm.trans c2)))
              have S2 := Lib.hid (fun w => size_any (xk, xa, xb) w)
              have hsz := sizeO_le (xk, xa, xb)
              have hws : IntKind.i64.wrap (m + sizeO (xk, xa, xb)) = m + sizeO (xk, xa, xb) := wrap_small (by omega) (by omega)
              have hm2 : m + sizeO (xk, xa, xb) = n + sumO (a.take (i + 1)) := by rw [Htk.out, sumO_append, Hm.out]; simp only [sumO]; omega
              have Hm2 := Lib.hid hm2
              clear hm2
              generalize sizeO (xk, xa, xb) = sz at *
              refine (S2.out _).mono ?_
              rintro e w8 ⟨rfl, hb8⟩
              have hb9 := chain_to hb8 hb7 (Nat.le_refl _)
              have hl6 := hl.kept hg6 (by
                by_cases he : (Value.slice A3 j c3).ownBlock = none
                · exact .inl he
                · refine .inr fun h => ?_
                  cases hq : (Value.slice A3 j c3).ownBlock with
                  | none => exact he hq
                  | some g => rw [hq] at h; exact hdis g h.symm hq)
              have hl9 := ownBelowA hl6 hb8
              have ho9 := ownBelowA hown6 hb8
              have hd9 : ∀ g, (Value.slice A6 (i + 1) c6).ownBlock = some g → (Value.slice A3 j c3).ownBlock ≠ some g := fun g hg hq => by
                rcases hp6 g hg with h | h
                · exact hdis g h hq
                · have := (hl.lt g hq).2; omega
              have Hd9 := Lib.hid hd9
              clear hl6 hown6 hb6 hb7 hb8 k0 k1 k2 hg6 hp6 x0 x1 x2 hd9 hdis
              go_wp2
              go_roundw
              case rel =>
                refine ⟨i + 1, m + sz, A6, c6, by omega, by go_num, rfl, Hm2, rfl, ?_, ?_, Hd9.out, hb9⟩
                · rw [Htk.out, allO_snoc, HL.out, ← Hxj.out, flat_snoc]; exact ho9
                · rw [Htk.out, allO_snoc, HL.out]; exact hl9
              case measure => simp only [intOf]; omega
        · obtain rfl : i = la := by omega
          have e1 : a.take i = a := List.take_of_length_le (by rw [Ha.out]; exact Nat.le_refl _)
          rw [e1] at hout hleft
          have Hdis := Lib.hid hdis
          clear e1 hdis
          go_wp2
          go_ret3
          refine ⟨hbr, .inr ⟨H0.out, Ao, co, A3, c3, ?_, ?_, ?_, ?_⟩⟩
          · rw [Ha.out, Hb.out]; rfl
          · rw [Ha.out]; exact hout
          · rw [Hb.out]; exact hleft
          · rw [Ha.out, Hb.out]; exact Hdis.out

end Go.Proofs.Ytpeplkjidljpmaa
