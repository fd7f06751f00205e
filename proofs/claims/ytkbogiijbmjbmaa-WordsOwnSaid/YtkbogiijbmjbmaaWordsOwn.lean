/- WordsOwn's walk: the tables of words and what is found share no memory with arguments. -/
import Derived.Test.YtkbogiijbmjbmaaWordLaws
import Derived.Test.YtkbogiijbmjbmaaSeekLaws
import Derived.Test.YtkbogiijbmjbmaaEnds
import Derived.Test.YtkbogiijbmjbmaaTries
import Derived.Test.YtkbogiijbmjbmaaContainsHit
import Derived.Test.YtkbogiijbmjbmaaClone
import Derived.Test.YtkbogiijbmjbmaaFrontsWalk
import Derived.Test.YtkbogiijbmjbmaaSuffixWalk
import Derived.Test.YtkbogiijbmjbmaaSpoilWord
import Derived.Test.YtkbogiijbmjbmaaArgs
namespace Go.Proofs.Ytkbogiijbmjbmaa
open Go.RowKit
set_option linter.unusedVariables false

/-- What a table of a word tells: a row of ints of its own, no place of it below 0, and the error. -/
def ToldTab (s : ByteArray) (w : World) (e : Ending) (w' : World) : Prop :=
  ∃ A n c, e = .returned (.tuple #[.slice A n c, .int .i64 (if 200 < s.size then 2 else 0)]) ∧ IntsOwn w' w.heap.size A n c ∧ n ≤ 200 ∧ (∃ l : List Int, Reads w' w'.heap.size A n 1 (l.flatMap cInt) ∧ l.length = n ∧ (-7) ∉ l) ∧ RowKit.Below w.heap.size w w'
theorem tab_nil {s : ByteArray} {w w' : World} (hs : 200 < s.size) (hb : RowKit.Below w.heap.size w w') : ToldTab s w (.returned (.tuple #[.slice none 0 0, .int .i64 2])) w' :=
  ⟨none, 0, 0, by rw [if_pos hs], .inl ⟨rfl, rfl, rfl⟩, by omega, ⟨[], ⟨rfl, fun h => absurd h (Nat.lt_irrefl _)⟩, rfl, by simp⟩, hb⟩
theorem tab_some {s : ByteArray} {w w' : World} {g : Nat} {l : List Int} (hs : s.size ≤ 200) (hl : l.length = s.size) (hg : w.heap.size ≤ g) (hat : IntsAt w' g l) (hno : (-7) ∉ l) (hb : RowKit.Below w.heap.size w w') : ToldTab s w (.returned (.tuple #[.slice (some ⟨g, 0, none⟩) s.size s.size, .int .i64 0])) w' := by
  have hr := intsAt_reads hat
  rw [hl] at hr
  exact ⟨_, _, _, by rw [if_neg (by omega)], .inr ⟨g, l, rfl, hg, rfl, hat, hl⟩, hs, ⟨l, hr, hl, hno⟩, hb⟩
theorem nat_no (l : List Nat) : (-7 : Int) ∉ l.map (fun x : Nat => (x : Int)) := fun h => by
  obtain ⟨x, _, e⟩ := List.mem_map.1 h
  omega
theorem borders_tab (s : ByteArray) (w : World) : Calls Try.prog 9 #[.string s] w (ToldTab s w) := by
  by_cases hs : s.size ≤ 200
  · refine (borders_own s hs w).mono ?_
    rintro e w' ⟨g, rfl, hg, hat, hb⟩
    refine tab_some hs (bordersOf_length _) hg hat (fun h => ?_) hb
    unfold bordersOf at h
    obtain ⟨x, _, e⟩ := List.mem_map.1 h
    omega
  · refine (borders_no s (by omega) w).mono ?_
    rintro e w' ⟨rfl, rfl⟩
    exact tab_nil (by omega) (Below.refl _ _)
theorem fronts_tab (s : ByteArray) (w : World) : Calls Try.prog 10 #[.string s] w fun e w' => ∃ A n c E, e = .returned (.tuple #[.slice A n c, .int .i64 E]) ∧ IntsOwn w' w.heap.size A n c ∧ n ≤ 200 ∧ RowKit.Below w.heap.size w w' := by
  by_cases hs : s.size ≤ 200
  · refine (fronts_own s hs w).mono ?_
    rintro e w' ⟨g, rfl, hg, hat, hb⟩
    exact ⟨_, _, _, _, rfl, .inr ⟨g, _, rfl, hg, rfl, hat, zOf_length _⟩, hs, hb⟩
  · refine (fronts_no s (by omega) w).mono ?_
    rintro e w' ⟨rfl, rfl⟩
    exact ⟨_, _, _, _, rfl, .inl ⟨rfl, rfl, rfl⟩, by omega, Below.refl _ _⟩
theorem order_tab (s : ByteArray) (w : World) : Calls Try.prog 11 #[.string s] w fun e w' => ∃ A n c E, e = .returned (.tuple #[.slice A n c, .int .i64 E]) ∧ IntsOwn w' w.heap.size A n c ∧ n ≤ 200 ∧ RowKit.Below w.heap.size w w' := by
  by_cases hs : s.size ≤ 200
  · refine (order_ok s hs w).mono ?_
    rintro e w' ⟨g, rfl, hg, hat, hb⟩
    exact ⟨_, _, _, _, rfl, .inr ⟨g, _, rfl, hg, rfl, hat, by rw [natsI_len, (sOrd_is _).len]; rfl⟩, hs, hb⟩
  · refine (order_no s (by omega) w).mono ?_
    rintro e w' ⟨rfl, hb⟩
    exact ⟨_, _, _, _, rfl, .inl ⟨rfl, rfl, rfl⟩, by omega, hb⟩
theorem hits_no (H : List (Nat × Nat)) : ((-7 : Int), (0 : Int)) ∉ H.map hI := fun h => by
  obtain ⟨x, _, e⟩ := List.mem_map.1 h
  injection e with e _
  omega

set_option maxRecDepth 100000 in
set_option maxHeartbeats 4000000 in
theorem wordsOwn_walk (s : ByteArray) (A : Option Addr) (n c : Nat) (l : List ByteArray) {w : World} (hs0 : s.size ≤ 140737488351232) (hl0 : StrsIn w A n c l) :
    Calls Try.prog 3 #[.string s, .slice A n c] w fun e w' => e = .returned (.bool true) ∧ Below w.heap.size w w' := by
  obtain ⟨hl, hr, hn, hz, hnc, hcm, _⟩ := hl0
  have hz' : ∀ p ∈ l, p.size ≤ 140737488351232 := fun p hp => hz p hp
  have HF := Lib.hid (fun w1 (hb : Below w.heap.size w w1) => tfind_any s A n c w.heap.size l w1 (by omega) hnc hl hz' (hr.below hb) hb.size)
  have HCl := Lib.hid (fun w1 (hb : Below w.heap.size w w1) => cloneStr_any A n c w.heap.size l hl (by omega) w1 (hr.below hb) hb.size)
  have HE := Lib.hid (fun w A1 c1 B B' h h' => equalStr_any A A1 n n c c1 B B' l l w (by omega) (by omega) hl hl h h')
  rw [decide_eq_true rfl] at HE
  have hbd : ∀ w : World, (Instr.build 35 #[(0, .int .i64 (-7))]).run Try.prog w = .ok (.agg #[.int .i64 (-7), .int .i64 0]) w := fun w => run_build w 35 _ _ (by kernel_rfl)
  have Hr := Lib.hid hr
  unfold ToldFind at HF
  obtain ⟨E, hE⟩ : ∃ E, E = findE s l := ⟨_, rfl⟩
  rw [← hE] at HF
  have HB := Lib.hid (fun w => borders_tab s w)
  unfold ToldTab at HB
  obtain ⟨F, hF⟩ : ∃ F : Int, F = if 200 < s.size then 2 else 0 := ⟨_, rfl⟩
  rw [← hF] at HB
  clear hl hz hz' hr hE hF
  go_enter Try.func3, Try.ntmps3
  go_wp2_with fail
  refine (words_any _).mono ?_
  rintro e w1 ⟨rfl, hb1⟩
  go_wp2_with fail
  refine (seeks_any _).mono ?_
  rintro e w2 ⟨rfl, hb2⟩
  have hb2 := chain hb2 hb1
  go_wp2_with fail
  refine (ends_any _).mono ?_
  rintro e w3 ⟨rfl, hb3⟩
  have hb3 := chain hb3 hb2
  go_wp2_with fail
  refine (tries_any _).mono ?_
  rintro e w4 ⟨rfl, hb4⟩
  have hb4 := chain hb4 hb3
  clear hb1 hb2 hb3
  go_wp2_with fail
  refine (HCl.out w4 hb4).mono ?_
  rintro e w5 ⟨A1, c1, rfl, ho1, hb5⟩
  have hx1 := Reads.of_own ho1
  have hb5 := chain hb5 hb4
  have v5 := Below.refl w5.heap.size w5
  clear ho1 hb4
  go_wp2_with fail
  refine (HB.out w5).mono ?_
  rintro e w6 ⟨Q1, n1, d1, rfl, o1, k1, -, hb6⟩
  have v6 := chain hb6 v5
  have s6 := hb6.size
  have t1 := o1.top
  go_wp2_with fail
  refine (fronts_tab s w6).mono ?_
  rintro e w7 ⟨Q2, n2, d2, E2, rfl, o2, k2, hb7⟩
  have v7 := chain hb7 v6
  have o1 := o1.after hb7
  have s7 := hb7.size
  have t2 := o2.top
  go_wp2_with fail
  refine (order_tab s w7).mono ?_
  rintro e w8 ⟨Q3, n3, d3, E3, rfl, o3, k3, hb8⟩
  have v8 := chain hb8 v7
  have o1 := o1.after hb8
  have o2 := o2.after hb8
  have s8 := hb8.size
  have t3 := o3.top
  clear v6 v7 hb6 hb7 hb8
  go_wp2_with fail
  refine (HF.out w8 (chain v8 hb5)).mono ?_
  rintro e w9 ⟨Q4, n4, d4, H, rfl, -, o4, -, -, hb9⟩
  have v9 := chain hb9 v8
  have o1 := o1.after hb9
  have o2 := o2.after hb9
  have o3 := o3.after hb9
  have s9 := hb9.size
  clear v8 hb9
  have l1 := o1.lt
  have l2 := o2.lt
  have l3 := o3.lt
  have l4 := fun k hk => Nat.le_of_not_lt (o4.lt k hk).1
  go_wp2_with fail
  refine (spoilInt_any _ Q1 n1 d1 (-7) w9 o1 (by omega)).mono ?_
  rintro e u1 ⟨rfl, g1⟩
  have o2 := o2.grown g1 t1
  have o3 := o3.grown g1 fun k hk => Nat.lt_of_lt_of_le (t1 k hk) s7
  have o4 := o4.grown g1 fun k hk hq => by have := l4 k hq; have := t1 k hk; omega
  have v10 := v9.grown g1 (Nat.le_trans s6 (Nat.le_trans s7 (Nat.le_trans s8 s9))) l1
  have s10 := g1.size
  clear v9 g1 o1 t1 l1 k1
  go_wp2_with fail
  refine (spoilInt_any _ Q2 n2 d2 (-7) u1 o2 (by omega)).mono ?_
  rintro e u2 ⟨rfl, g2⟩
  have o3 := o3.grown g2 t2
  have o4 := o4.grown g2 fun k hk hq => by have := l4 k hq; have := t2 k hk; omega
  have v11 := v10.grown g2 (by omega) fun k hk => Nat.le_trans s6 (l2 k hk)
  have s11 := g2.size
  clear v10 g2 o2 t2 l2 k2
  go_wp2_with fail
  refine (spoilInt_any _ Q3 n3 d3 (-7) u2 o3 (by omega)).mono ?_
  rintro e u3 ⟨rfl, g3⟩
  have o4 := o4.grown g3 fun k hk hq => by have := l4 k hq; have := t3 k hk; omega
  have v12 := v11.grown g3 (by omega) fun k hk => Nat.le_trans s6 (Nat.le_trans s7 (l3 k hk))
  have s12 := g3.size
  clear v11 g3 o3 t3 l3 k3
  go_wp2_with fail
  refine (spoilHit_any _ Q4 n4 d4 _ (-7) 0 u3 o4).mono ?_
  rintro e u4 ⟨rfl, g4⟩
  have v13 := v12.grown g4 (by omega) fun k hk => Nat.le_trans s6 (Nat.le_trans s7 (Nat.le_trans s8 (l4 k hk)))
  clear v12 g4 o4 l4 s6 s7 s8 s9 s10 s11 s12
  go_wp2_with fail
  refine (HB.out u4).mono ?_
  rintro e y1 ⟨Q5, n5, d5, rfl, -, k5, ⟨L, hL, hLl, hLn⟩, hy1⟩
  have v14 := chain hy1 v13
  go_wp2_with fail
  refine (HF.out y1 (chain v14 hb5)).mono ?_
  rintro e y2 ⟨Q6, n6, d6, H6, rfl, hHl, o6, -, -, hy2⟩
  have v15 := chain hy2 v14
  have hL := hL.after hy2
  have hcap := o6.cap
  unfold maxLen at hcap
  have hR6 := o6.toReads
  rw [cHt_cHit] at hR6
  clear v13 v14 hy1 hy2 o6
  have q0 : (F == F) = true := by simp
  have hrd := Hr.out.below (chain v15 hb5)
  go_wp2_with fail
  refine (HE.out y2 A1 c1 w.heap.size w5.heap.size hrd (hx1.below v15)).mono ?_
  rintro e y3 ⟨rfl, hy3⟩
  have v16 := chain hy3 v15
  have hL := hL.after hy3
  have hR6 := hR6.after hy3
  clear v15 hy3 hrd
  have HC := Lib.hid (containsInt_any (-7) Q5 n5 d5 _ L y3 (by omega) hLl hL)
  rw [hasB_no.2 hLn] at HC
  go_wp2_with fail
  refine HC.out.mono ?_
  rintro e y4 ⟨rfl, rfl⟩
  have HH := Lib.hid (containsHit_any ((-7 : Int), (0 : Int)) Q6 n6 d6 y3.heap.size (H6.map hI) y3 (by omega) (by rw [List.length_map]; exact hHl) (hR6.more (Nat.le_refl _)) (Nat.le_refl _))
  rw [hasB_no.2 (hits_no H6)] at HH
  have q1 : (E == E) = true := by simp
  clear HC hL hR6 hHl
  go_wp2_with fail
  refine HH.out.mono ?_
  rintro e y5 ⟨rfl, hy5⟩
  have hfin := chain (chain hy5 v16) hb5
  go_wp2
  go_ret
  exact ⟨by simp, hfin⟩
end Go.Proofs.Ytkbogiijbmjbmaa
