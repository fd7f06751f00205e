/- OpsOwn's walk: sequences of operations do not share memory with arguments. -/
import Derived.Test.YtpeplkjidljpmaaSpoilOp
import Derived.Test.YtpeplkjidljpmaaShiftAlone
namespace Go.Proofs.Ytpeplkjidljpmaa
open Go.RowKit
set_option linter.unusedVariables false

def OwnAll (E : Int) (w : World) (e : Ending) (w' : World) : Prop :=
  Below w.heap.size w w' ∧ ∃ (p q : List Op3) (A : Option Addr) (l c : Nat) (A' : Option Addr) (l' c' : Nat), e = .returned (.tuple #[.slice A l c, .slice A' l' c', .int .i64 E]) ∧ p.length = l ∧ q.length = l' ∧ l ≤ 30 ∧ l' ≤ 30 ∧
    w'.ownsRow w.heap.size 23 3 (.slice A l c) l (p.flatMap cOp) ∧ w'.ownsRow w.heap.size 23 3 (.slice A' l' c') l' (q.flatMap cOp) ∧
    (∀ g, (Value.slice A l c).ownBlock = some g → (Value.slice A' l' c').ownBlock ≠ some g) ∧ (0, -7, 0) ∉ p ∧ (0, -7, 0) ∉ q
theorem no_bad {n : Int} {l : List Op3} (h : rowE n l = 0) : ((0, -7, 0) : Op3) ∉ l := fun hm => by
  obtain ⟨m, hc⟩ := rowE_mem h _ hm
  have := (chO_ok hc).2.2
  simp only at this
  omega
theorem spoil_bad (base : Nat) (A : Option Addr) (n c : Nat) (xs : List Value) (w : World) (h : w.ownsRow base 23 3 (.slice A n c) n xs) :
    Calls Try.prog 49 #[.slice A n c, .agg #[.int .i64 0, .int .i64 (-7), .int .u8 0]] w fun e w' => e = .returned (.tuple #[]) ∧ w.grownBy w' (Value.slice A n c).ownBlock := spoilOp_any base A n c xs 0 (-7) 0 w h
theorem contains_bad (A : Option Addr) (n c B : Nat) (l : List Op3) (w : World) (hn : n ≤ 140737488355328) (hl : l.length = n) (h : Reads w B A n 3 (l.flatMap cOp)) (hB : B ≤ w.heap.size) (hv : (0, -7, 0) ∉ l) :
    Calls Try.prog 50 #[.slice A n c, .agg #[.int .i64 0, .int .i64 (-7), .int .u8 0]] w fun e w' => e = .returned (.bool false) ∧ Below w.heap.size w w' := containsOp_no 0 (-7) 0 A n c B l w hn hl h hB hv
theorem own_kept' {w w' : World} {base size n : Nat} {e : TypeId} {v v' : Value} {xs : List Value} (h : w.ownsRow base e size v n xs) (hg : w.grownBy w' v'.ownBlock) (hd : ∀ g, v'.ownBlock = some g → v.ownBlock ≠ some g) : w'.ownsRow base e size v n xs :=
  h.kept hg (by
    cases hq : v.ownBlock with
    | none => exact .inl rfl
    | some g => exact .inr fun h => hd g h.symm hq)
theorem all_own (n : Int) (hn : -9223372036854775808 ≤ n ∧ n ≤ 9223372036854775807) (A A' : Option Addr) (la ca lb cb B0 : Nat) (a b : List Op3) (ha : a.length = la) (hb : b.length = lb)
    (hla : la ≤ 140737488355328) (hlb : lb ≤ 140737488355328)
    (w : World) (h : Reads w B0 A la 3 (a.flatMap cOp)) (h' : Reads w B0 A' lb 3 (b.flatMap cOp)) (hB0 : B0 ≤ w.heap.size) :
    Calls Try.prog 20 #[.int .i64 n, .slice A la ca, .slice A' lb cb] w (OwnAll (allE n a b) w) :=
  (all_any n hn A A' la ca lb cb B0 a b ha hb hla hlb w h h' hB0).mono fun e w' ⟨h1, h2⟩ => by
    refine ⟨h1, ?_⟩
    rcases h2 with ⟨_, h2⟩ | ⟨h0, A, c, A', c', h3, h4, h5, h6⟩
    · exact ⟨[], [], none, 0, 0, none, 0, 0, h2, rfl, rfl, by omega, by omega, World.ownsRow_nil _ _ _ _, World.ownsRow_nil _ _ _ _, (fun g hg => by cases hg), by simp, by simp⟩
    · have hok := allE_ok h0
      rw [h0]
      refine ⟨_, _, A, _, c, A', _, c', h3, (allO_len a b).1, (allO_len a b).2, hok.la, hok.lb, h4, h5, h6, ?_⟩
      by_cases he : 0 < a.length ∨ 0 < b.length
      · obtain ⟨n0, n1, _, _, hp⟩ := hok.range he
        have hz := zs_len n0
        obtain ⟨j1, j2, _, _⟩ := all_right (a := a) (b := b) (s := zs n) (by rw [hz]; exact hok.ra) (by rw [hz]; exact hok.rb) (by rw [hz]; exact hp)
        exact ⟨no_bad j1, no_bad j2⟩
      · have h1 : a = [] := List.eq_nil_of_length_eq_zero (by omega)
        have h2 : b = [] := List.eq_nil_of_length_eq_zero (by omega)
        subst h1 h2
        exact ⟨by simp [allO], by simp [allO]⟩

set_option maxRecDepth 100000 in
set_option maxHeartbeats 2000000 in
theorem opsOwn_core (n : Int) (A : Option Addr) (la ca : Nat) (a : List Op3) (A' : Option Addr) (lb cb : Nat) (b : List Op3) (hn : -9223372036854775808 ≤ n ∧ n ≤ 9223372036854775807) (w : World) (ha : OpsIn w A la ca a) (hb : OpsIn w A' lb cb b) :
    Calls Try.prog 14 #[.int .i64 n, .slice A la ca, .slice A' lb cb] w fun e w' => e = .returned (.bool true) ∧ Below w.heap.size w w' := by
  obtain ⟨hla, hra, hka, _, hca, _, _⟩ := ha
  obtain ⟨hlb, hrb, hkb, _, _, _, _⟩ := hb
  have hka' : la * 24 ≤ 140737488355328 := by omega
  have hkb' : lb * 24 ≤ 140737488355328 := by omega
  have hka : la ≤ 140737488355328 := by omega
  have hkb : lb ≤ 140737488355328 := by omega
  have Hall := Lib.hid (fun w B0 h h' hB0 => all_own n hn A A' la ca lb cb B0 a b hla hlb hka hkb w h h' hB0)
  have C1 := Lib.hid (fun w h hB => cloneOp_any A la ca w.heap.size a hla hka' w h hB)
  have C2 := Lib.hid (fun w h hB => cloneOp_any A' lb cb w.heap.size b hlb hkb' w h hB)
  have E1 := Lib.hid (fun w A1 c1 B B' h h' => equalOp_any A A1 la la ca c1 B B' a a w hka hka hla hla h h')
  have E2 := Lib.hid (fun w A1 c1 B B' h h' => equalOp_any A' A1 lb lb cb c1 B B' b b w hkb hkb hlb hlb h h')
  rw [decide_eq_true rfl] at E1 E2
  clear hla hlb hka' hkb'
  generalize allE n a b = E at *
  go_enter Try.func14, Try.ntmps14
  go_wp2_with fail
  refine (shifts_any _).mono ?_
  rintro e w1 ⟨rfl, hb1⟩
  have hra1 := (hra.below hb1).more hb1.size
  have hrb1 := (hrb.below hb1).more hb1.size
  go_wp2_with fail
  refine (C1.out w1 hra1 (Nat.le_refl _)).mono ?_
  rintro e w2 ⟨A1, c1, rfl, ho1, hb2⟩
  have hw2 := chain hb2 hb1
  clear hra1 hrb1 hb1 hb2
  have hrb2 := (hrb.below hw2).more hw2.size
  have hx1 := Reads.of_own ho1
  clear ho1
  go_wp2_with fail
  refine (C2.out w2 hrb2 (Nat.le_refl _)).mono ?_
  rintro e w3 ⟨A2, c2, rfl, ho2, hb3⟩
  have hw3 := chain hb3 hw2
  have hx1 := hx1.after hb3
  have hx2 := Reads.of_own ho2
  clear hw2 hb3 hrb2 ho2
  go_wp2_with fail
  refine (Hall.out w3 w.heap.size (hra.below hw3) (hrb.below hw3) hw3.size).mono ?_
  rintro e w4 ⟨hb4, p, q, P, pl, pc, Q, ql, qc, rfl, hpl, hql, hp30, hq30, hop, hoq, hdis, hnp, hnq⟩
  have hw4 := chain hb4 hw3
  have hB3 := hw3.size
  have hB34 := hb4.size
  clear hpl hnp
  go_wp2_with fail
  refine (spoil_bad _ _ _ _ _ w4 hop).mono ?_
  rintro e w5 ⟨rfl, hg5⟩
  have hQ5 := own_kept' hoq hg5 hdis
  have b5 := hb4.grown hg5 hB34 (fun k hk => (hop.lt k hk).1)
  have hqr := Reads.of_own hQ5
  clear hg5 hop hoq hdis hb4 hw4
  go_wp2_with fail
  refine (contains_bad Q ql qc _ q w5 (by omega) hql hqr (Nat.le_refl _) hnq).mono ?_
  rintro e w6 ⟨rfl, hb6⟩
  have hQ6 := ownBelowA hQ5 hb6
  have b6 := chain hb6 b5
  clear hQ5 hb6 b5 hqr hql hnq
  go_wp2_with fail
  refine (spoil_bad _ _ _ _ _ w6 hQ6).mono ?_
  rintro e w7 ⟨rfl, hg7⟩
  have b7 := b6.grown hg7 b6.size (fun k hk => (hQ6.lt k hk).1)
  clear hg7 hQ6 b6
  have hra3 := (hra.below hw3).more hw3.size
  have hrb3 := (hrb.below hw3).more hw3.size
  go_wp2_with fail
  refine (Hall.out w7 w3.heap.size (hra3.below b7) (hrb3.below b7) b7.size).mono ?_
  rintro e w8 ⟨hb8, f, g, F, fl, fc, G, gl, gc, rfl, hfl, hgl, hf30, hg30, hof, hog, _, hnf, hng⟩
  have b8 := chain hb8 b7
  clear hb8 b7
  have q0 : (E == E) = true := by simp
  go_wp2_with fail
  refine (E1.out w8 A1 c1 w3.heap.size w3.heap.size (hra3.below b8) (hx1.below b8)).mono ?_
  rintro e w9 ⟨rfl, hb9⟩
  have b9 := chain hb9 b8
  have hof := ownBelowA hof hb9
  have hog := ownBelowA hog hb9
  clear hb9 b8
  go_wp2_with fail
  refine (E2.out w9 A2 c2 w3.heap.size w3.heap.size (hrb3.below b9) (hx2.below b9)).mono ?_
  rintro e w10 ⟨rfl, hb10⟩
  have b10 := chain hb10 b9
  have hfr := Reads.of_own (ownBelowA hof hb10)
  have hgr := Reads.of_own (ownBelowA hog hb10)
  clear hb10 b9 hof hog
  go_wp2_with fail
  refine (contains_bad F fl fc _ f w10 (by omega) hfl hfr (Nat.le_refl _) hnf).mono ?_
  rintro e w11 ⟨rfl, hb11⟩
  have b11 := chain hb11 b10
  have hgr := hgr.after hb11
  clear hb11 b10 hfr
  go_wp2_with fail
  refine (contains_bad G gl gc _ g w11 (by omega) hgl hgr (Nat.le_refl _) hng).mono ?_
  rintro e w12 ⟨rfl, hb12⟩
  have b12 := chain hb12 b11
  have hfin := chain b12 hw3
  clear hb12 b11 hgr b12
  go_wp2
  go_ret
  exact ⟨by simp, hfin⟩
theorem opsOwn_walk (n : Int) (A : Option Addr) (la ca : Nat) (a : List Op3) (A' : Option Addr) (lb cb : Nat) (b : List Op3) (hn : (Lit.int .i64 n).wf = true) (w : World) (ha : OpsIn w A la ca a) (hb : OpsIn w A' lb cb b) :
    Calls Try.prog 14 #[.int .i64 n, .slice A la ca, .slice A' lb cb] w fun e w' => e = .returned (.bool true) ∧ Below w.heap.size w w' :=
  opsOwn_core n A la ca a A' lb cb b (wf_i64 hn) w ha hb
end Go.Proofs.Ytpeplkjidljpmaa
