/- RopeLaws: joining is associative with the empty rope as neutral element, and cut ropes can be joined again. -/
import Derived.Test.YtjdmfpoiniocmaaRopeSame
import Derived.Test.YtjdmfpoiniocmaaKeep
import Derived.Test.YtjdmfpoiniocmaaArgs
namespace Go.Proofs.Ytjdmfpoiniocmaa
open Go.RowKit
set_option linter.unusedVariables false

theorem joinE_nil (l : List ByteArray) : joinE l [] = checkR l := by
  unfold joinE
  by_cases h : checkR l = 0
  · rw [if_pos h, if_pos checkR_nil, List.append_nil, if_pos h, h]
  · rw [if_neg h]
theorem joinE_zero {a b : List ByteArray} (h : joinE a b = 0) : checkR a = 0 ∧ checkR b = 0 ∧ checkR (a ++ b) = 0 := by
  unfold joinE at h
  by_cases h1 : checkR a = 0
  · rw [if_pos h1] at h
    by_cases h2 : checkR b = 0
    · rw [if_pos h2] at h
      by_cases h3 : checkR (a ++ b) = 0
      · exact ⟨h1, h2, h3⟩
      · rw [if_neg h3] at h; cases h
    · rw [if_neg h2] at h; exact absurd h h2
  · rw [if_neg h1] at h; exact absurd h h1
theorem joinE_assoc {a b c : List ByteArray} (h1 : joinE a b = 0) (h2 : joinE b c = 0) : joinE (a ++ b) c = joinE a (b ++ c) := by
  obtain ⟨k1, k2, k3⟩ := joinE_zero h1
  obtain ⟨_, k4, k5⟩ := joinE_zero h2
  unfold joinE
  rw [if_pos k3, if_pos k4, if_pos k1, if_pos k5, List.append_assoc]
theorem tx_cut {l : List ByteArray} (k : Nat) : (⟨(txt (cutA k l)).toArray⟩ : ByteArray) ++ ⟨(txt (cutB k l)).toArray⟩ = ⟨(txt l).toArray⟩ := by
  apply ByteArray.ext
  rw [ByteArray.data_append]
  apply Array.ext'
  rw [Array.toList_append]
  show txt (cutA k l) ++ txt (cutB k l) = txt l
  rw [txt_cutA, txt_cutB, List.take_append_drop]

set_option maxRecDepth 100000 in
set_option maxHeartbeats 16000000 in
theorem ropeLaws_walk (A1 : Option Addr) (n1 c1 : Nat) (l1 : List ByteArray) (A2 : Option Addr) (n2 c2 : Nat) (l2 : List ByteArray) (A3 : Option Addr) (n3 c3 : Nat) (l3 : List ByteArray) (i : Int) {w : World}
    (hr1 : RopeIn w A1 n1 c1 l1) (hr2 : RopeIn w A2 n2 c2 l2) (hr3 : RopeIn w A3 n3 c3 l3) (hi0 : (Lit.int .i64 i).wf = true) :
    Calls Try.prog 4 #[ropeV A1 n1 c1, ropeV A2 n2 c2, ropeV A3 n3 c3, .int .i64 i] w fun e w' => e = .returned (.bool true) ∧ Below w.heap.size w w' := by
  obtain ⟨hl1, r1, hb1, hz1, hc1, _, _⟩ := hr1
  obtain ⟨hl2, r2, hb2, hz2, hc2, _, _⟩ := hr2
  obtain ⟨hl3, r3, hb3, hz3, hc3, _, _⟩ := hr3
  have hn1 : n1 ≤ 1000000000000000 := by omega
  have hn2 : n2 ≤ 1000000000000000 := by omega
  have hn3 : n3 ≤ 1000000000000000 := by omega
  have hy1 : ∀ p ∈ l1, p.size ≤ 140737488355328 := fun p hp => Nat.le_trans (hz1 p hp) (by decide)
  have hy2 : ∀ p ∈ l2, p.size ≤ 140737488355328 := fun p hp => Nat.le_trans (hz2 p hp) (by decide)
  have hy3 : ∀ p ∈ l3, p.size ≤ 140737488355328 := fun p hp => Nat.le_trans (hz3 p hp) (by decide)
  have Hy1 := Lib.hid hy1
  have Hy2 := Lib.hid hy2
  have Hy3 := Lib.hid hy3
  have Hl1 := Lib.hid hl1
  have Hl2 := Lib.hid hl2
  have Hl3 := Lib.hid hl3
  clear hz1 hz2 hz3 hb1 hb2 hb3 hy1 hy2 hy3 hl1 hl2 hl3
  have hb0 : Below w.heap.size w (((w.alloc (Obj.cells #[.slice A1 n1 c1] 25)).alloc (Obj.cells #[.slice A2 n2 c2] 25)).alloc (Obj.cells #[.slice A3 n3 c3] 25)) := (((Below.refl _ _).alloc (Nat.le_refl _) _).alloc (by simp) _).alloc (by simp; omega) _
  have g1 : Blk (((w.alloc (Obj.cells #[.slice A1 n1 c1] 25)).alloc (Obj.cells #[.slice A2 n2 c2] 25)).alloc (Obj.cells #[.slice A3 n3 c3] 25)) w.heap.size 25 #[.slice A1 n1 c1] := ((Blk.new w _ _).alloc _).alloc _
  have g2 : Blk (((w.alloc (Obj.cells #[.slice A1 n1 c1] 25)).alloc (Obj.cells #[.slice A2 n2 c2] 25)).alloc (Obj.cells #[.slice A3 n3 c3] 25)) (w.heap.size + 1) 25 #[.slice A2 n2 c2] := by
    have := (Blk.new (w.alloc (Obj.cells #[.slice A1 n1 c1] 25)) 25 #[.slice A2 n2 c2]).alloc (Obj.cells #[.slice A3 n3 c3] 25)
    rwa [show (w.alloc (Obj.cells #[.slice A1 n1 c1] 25)).heap.size = w.heap.size + 1 from by simp] at this
  have g3 : Blk (((w.alloc (Obj.cells #[.slice A1 n1 c1] 25)).alloc (Obj.cells #[.slice A2 n2 c2] 25)).alloc (Obj.cells #[.slice A3 n3 c3] 25)) (w.heap.size + 1 + 1) 25 #[.slice A3 n3 c3] := by
    have := Blk.new ((w.alloc (Obj.cells #[.slice A1 n1 c1] 25)).alloc (Obj.cells #[.slice A2 n2 c2] 25)) 25 #[.slice A3 n3 c3]
    rwa [show ((w.alloc (Obj.cells #[.slice A1 n1 c1] 25)).alloc (Obj.cells #[.slice A2 n2 c2] 25)).heap.size = w.heap.size + 1 + 1 from by simp] at this
  obtain ⟨E1, hE1⟩ : ∃ E, E = joinE l1 l2 := ⟨_, rfl⟩
  obtain ⟨E2, hE2⟩ : ∃ E, E = joinE l2 l3 := ⟨_, rfl⟩
  have H12 : Hid (∀ w', Below w.heap.size w w' → Calls Try.prog 18 #[ropeV A1 n1 c1, ropeV A2 n2 c2] w' fun e w'' => ToldRope w' e w'' (if E1 = 0 then l1 ++ l2 else []) E1) := Lib.hid fun w' hw => by
    rw [hE1]; exact join_ropes A1 A2 n1 c1 n2 c2 _ l1 l2 Hl1.out Hl2.out hn1 hn2 Hy1.out Hy2.out w' (r1.below hw) (r2.below hw) hw.size
  have H23 : Hid (∀ w', Below w.heap.size w w' → Calls Try.prog 18 #[ropeV A2 n2 c2, ropeV A3 n3 c3] w' fun e w'' => ToldRope w' e w'' (if E2 = 0 then l2 ++ l3 else []) E2) := Lib.hid fun w' hw => by
    rw [hE2]; exact join_ropes A2 A3 n2 c2 n3 c3 _ l2 l3 Hl2.out Hl3.out hn2 hn3 Hy2.out Hy3.out w' (r2.below hw) (r3.below hw) hw.size
  have HE1 := Lib.hid hE1
  have HE2 := Lib.hid hE2
  have q : (E1 ≠ 0 ∨ E2 ≠ 0) ∨ (E1 = 0 ∧ E2 = 0) := by
    by_cases h : E1 = 0
    · by_cases h2 : E2 = 0
      · exact .inr ⟨h, h2⟩
      · exact .inl (.inr h2)
    · exact .inl (.inl h)
  clear hE1 hE2
  go_enter Try.func4, Try.ntmps4
  go_wp2_with fail
  refine (ropes_any _).mono ?_
  rintro e w1 ⟨rfl, hx1⟩
  have b1 := g1.after hx1
  have b2 := g2.after hx1
  have b3 := g3.after hx1
  have hbw1 := chain hx1 hb0
  have y1 : w1.cell? ⟨w.heap.size, 0, none⟩ = some (.slice A1 n1 c1) := b1.cell 0
  have y2 : w1.cell? ⟨w.heap.size + 1, 0, none⟩ = some (.slice A2 n2 c2) := b2.cell 0
  clear hx1 hb0 g1 g2 g3
  go_wp2_with fail
  refine (H12.out w1 hbw1).mono ?_
  rintro e w2 ⟨A4, n4, c4, rfl, hl4, hn4, r4, hb2⟩
  have hb2' : Below w2.heap.size w2 (w2.alloc (Obj.cells #[.slice A4 n4 c4] 25)) := (Below.refl _ _).alloc (Nat.le_refl _) _
  have hbw2 := chain hb2' (chain hb2 hbw1)
  have d1 := (b1.after hb2).after hb2'
  have d2 := (b2.after hb2).after hb2'
  have d3 := (b3.after hb2).after hb2'
  have d4 := Blk.new w2 25 #[.slice A4 n4 c4]
  have r4' := r4.after hb2'
  have y3 : (w2.alloc (Obj.cells #[.slice A4 n4 c4] 25)).cell? ⟨w.heap.size + 1, 0, none⟩ = some (.slice A2 n2 c2) := d2.cell 0
  have y4 : (w2.alloc (Obj.cells #[.slice A4 n4 c4] 25)).cell? ⟨w.heap.size + 1 + 1, 0, none⟩ = some (.slice A3 n3 c3) := d3.cell 0
  have Hl4 := Lib.hid hl4
  clear b1 b2 b3 hb2 hb2' hbw1 y1 y2 r4 hl4
  go_wp2_with fail
  refine (H23.out _ hbw2).mono ?_
  rintro e w3 ⟨A5, n5, c5, rfl, hl5, hn5, r5, hb3⟩
  have hb3' : Below w3.heap.size w3 (w3.alloc (Obj.cells #[.slice A5 n5 c5] 25)) := (Below.refl _ _).alloc (Nat.le_refl _) _
  have hbw3 := chain hb3' (chain hb3 hbw2)
  have f1 := (d1.after hb3).after hb3'
  have f3 := (d3.after hb3).after hb3'
  have f4 := (d4.after hb3).after hb3'
  have f5 := Blk.new w3 25 #[.slice A5 n5 c5]
  have r5' := r5.after hb3'
  have r4'' := (r4'.after hb3).after hb3'
  have Hl5 := Lib.hid hl5
  clear d1 d2 d3 d4 hb3 hb3' hbw2 y3 y4 r5 r4' H12 H23 hl5
  have y5 : (w3.alloc (Obj.cells #[.slice A5 n5 c5] 25)).cell? ⟨w.heap.size, 0, none⟩ = some (.slice A1 n1 c1) := f1.cell 0
  rcases q with q | ⟨rfl, rfl⟩
  · have hq : (E1 == 0) = false ∨ ((E1 == 0) = true ∧ (E2 == 0) = false) := by
      by_cases h : E1 = 0
      · rcases q with q | q
        · exact absurd h q
        · exact .inr ⟨by simpa using h, by simpa using q⟩
      · exact .inl (by simpa using h)
    clear r4'' r5' f3 f4 f5 q HE1 HE2 Hl4 Hl5
    rcases hq with q1 | ⟨q1, q2⟩
    all_goals
      go_wp2_with fail
      by_cases hk : checkR l1 = 0
      · have ht := text_ok A1 n1 c1 _ l1 Hl1.out hc1 Hy1.out _ (r1.below hbw3) hbw3.size hk
        have hTs : (⟨(txt l1).toArray⟩ : ByteArray).size = (txt l1).length := by simp [ByteArray.size]
        have ht200 := ((checkR_iff l1).1 hk).2.2
        have hn60 : n1 ≤ 60 := by rw [← Hl1.out]; exact ((checkR_iff l1).1 hk).1
        have hsum : ∀ k, (⟨(txt (cutA k l1)).toArray⟩ : ByteArray) ++ ⟨(txt (cutB k l1)).toArray⟩ = ⟨(txt l1).toArray⟩ := fun k => tx_cut k
        have hsz : ∀ k : Nat, k ≤ (txt l1).length → (⟨(txt (cutA k l1)).toArray⟩ : ByteArray).size = k := fun k hk => by
          have : (⟨(txt (cutA k l1)).toArray⟩ : ByteArray).size = (txt (cutA k l1)).length := by simp [ByteArray.size]
          rw [this, txt_cutA, List.length_take]; omega
        have Hsum := Lib.hid hsum
        have Hsz := Lib.hid hsz
        generalize (⟨(txt l1).toArray⟩ : ByteArray) = T at *
        have Ht := Lib.hid ht
        have hT200 : T.size ≤ 200 := by omega
        have HTs := Lib.hid hTs
        clear ht hsum hsz hTs
        refine Ht.out.mono ?_
        rintro e w8 ⟨rfl, hb8⟩
        have i1 := f1.after hb8
        have hbw8 := chain hb8 hbw3
        have y20 : w8.cell? ⟨w.heap.size, 0, none⟩ = some (.slice A1 n1 c1) := i1.cell 0
        have hjn := join_ropes A1 none n1 c1 0 0 w8.heap.size l1 [] Hl1.out rfl hn1 (by omega) Hy1.out (fun p hp => by cases hp) w8 ((r1.below hbw8).more hbw8.size) Reads.nil (Nat.le_refl _)
        rw [joinE_nil, hk, if_pos rfl, List.append_nil] at hjn
        have Hjn := Lib.hid hjn
        clear Ht hb8 hbw3 f1 y5 hjn
        go_wp2_with fail
        refine Hjn.out.mono ?_
        rintro e w9 ⟨A9, n9, c9, rfl, hl9, hn9, r9, hb9⟩
        obtain ⟨k, hk2, hwin⟩ : ∃ k : Nat, k ≤ T.size ∧ ∀ w, Calls Try.prog 20 #[.int .i64 i, .int .i64 ((T.size : Int) + 1)] w fun e w' => e = .returned (.int .i64 (k : Int)) ∧ w = w' := by
          have e1 := Int.emod_nonneg i (show (T.size : Int) + 1 ≠ 0 by omega)
          have e2 := Int.emod_lt_of_pos i (show 0 < (T.size : Int) + 1 by omega)
          refine ⟨(i % ((T.size : Int) + 1)).toNat, by omega, fun w => ?_⟩
          rw [Int.toNat_of_nonneg e1]
          exact within_any i ((T.size : Int) + 1) (by omega) (by omega) w
        have hb9' : Below w9.heap.size w9 (w9.alloc (Obj.cells #[.slice A9 n9 c9] 25)) := (Below.refl _ _).alloc (Nat.le_refl _) _
        have j1 := (i1.after hb9).after hb9'
        have j9 := Blk.new w9 25 #[.slice A9 n9 c9]
        have r9' := r9.after hb9'
        have hbw9 := chain hb9' (chain hb9 hbw8)
        have Hwin := Lib.hid hwin
        have Hl9 := Lib.hid hl9
        clear Hjn hb9 hb9' hbw8 i1 y20 r9 hwin hl9
        go_wp2_with fail
        refine (Hwin.out _).mono ?_
        rintro e w10 ⟨rfl, rfl⟩
        have y21 : (w9.alloc (Obj.cells #[.slice A9 n9 c9] 25)).cell? ⟨w.heap.size, 0, none⟩ = some (.slice A1 n1 c1) := j1.cell 0
        have hcut := cut_any A1 n1 c1 _ l1 k ⟨by omega, by omega⟩ Hl1.out hc1 hn1 Hy1.out _ ((r1.below hbw9).more hbw9.size) (Nat.le_refl _)
        have hce : cutE l1 k = 0 := by have := HTs.out; rw [cutE_ok hk, if_neg]; omega
        rw [hce, if_pos rfl, if_pos rfl, Int.toNat_natCast] at hcut
        have Hcut := Lib.hid hcut
        have hokA := cutA_ok hk k
        have hokB := cutB_ok hk k
        clear hcut hce Hwin
        go_wp2_with fail
        refine Hcut.out.mono ?_
        rintro e w11 ⟨Aa, na, ca, Ab, nb, cb, rfl, hla, hlb, hna, hnb, ra, rb, hb11⟩
        have hb11' : Below w11.heap.size w11 ((w11.alloc (Obj.cells #[.slice Aa na ca] 25)).alloc (Obj.cells #[.slice Ab nb cb] 25)) := ((Below.refl _ _).alloc (Nat.le_refl _) _).alloc (by simp) _
        have o1 := (j1.after hb11).after hb11'
        have o9 := (j9.after hb11).after hb11'
        have oa : Blk ((w11.alloc (Obj.cells #[.slice Aa na ca] 25)).alloc (Obj.cells #[.slice Ab nb cb] 25)) w11.heap.size 25 #[.slice Aa na ca] := (Blk.new w11 _ _).alloc _
        have ob : Blk ((w11.alloc (Obj.cells #[.slice Aa na ca] 25)).alloc (Obj.cells #[.slice Ab nb cb] 25)) (w11.heap.size + 1) 25 #[.slice Ab nb cb] := by
          have := Blk.new (w11.alloc (Obj.cells #[.slice Aa na ca] 25)) 25 #[.slice Ab nb cb]
          rwa [show (w11.alloc (Obj.cells #[.slice Aa na ca] 25)).heap.size = w11.heap.size + 1 from by simp] at this
        have r9'' := (r9'.after hb11).after hb11'
        have ra' := ra.after hb11'
        have rb' := rb.after hb11'
        have hbw11 := chain hb11' (chain hb11 hbw9)
        have ht1 := text_ok Aa na ca _ _ hla hna (ok_small hokA).2 _ ra' (Nat.le_refl _) hokA
        have ht2 := fun w12 hb12 => text_ok Ab nb cb _ _ hlb hnb (ok_small hokB).2 w12 (rb'.after hb12) (Nat.le_refl _) hokB
        have hs1 := Hsz.out k (by have := HTs.out; omega)
        have hs2 := Hsum.out k
        generalize (⟨(txt (cutA k l1)).toArray⟩ : ByteArray) = T1 at *
        generalize (⟨(txt (cutB k l1)).toArray⟩ : ByteArray) = T2 at *
        have Ht1 := Lib.hid ht1
        have Ht2 := Lib.hid ht2
        have Hs2 := Lib.hid hs2
        have y22 : ((w11.alloc (Obj.cells #[.slice Aa na ca] 25)).alloc (Obj.cells #[.slice Ab nb cb] 25)).cell? ⟨w11.heap.size, 0, none⟩ = some (.slice Aa na ca) := oa.cell 0
        clear Hcut hb11 hb11' hbw9 ht1 ht2 hs2 j1 j9 y21 ra rb ra' rb' hla hlb hokA hokB r9' Hsum Hsz
        go_wp2_with fail
        refine Ht1.out.mono ?_
        rintro e w12 ⟨rfl, hb12⟩
        have Ht3 := Lib.hid (Ht2.out w12 hb12)
        have v1 := o1.after hb12
        have v9 := o9.after hb12
        have r12 := r9''.after hb12
        have hbw12 := chain hb12 hbw11
        have y23 : w12.cell? ⟨w11.heap.size + 1, 0, none⟩ = some (.slice Ab nb cb) := (ob.after hb12).cell 0
        clear Ht1 Ht2 hb12 hbw11 o1 o9 oa ob r9'' y22
        go_wp2_with fail
        refine Ht3.out.mono ?_
        rintro e w13 ⟨rfl, hb13⟩
        have x1 := v1.after hb13
        have x9 := v9.after hb13
        have r13 := r12.after hb13
        have hbw13 := chain hb13 hbw12
        clear Ht3 hb13 hbw12 v1 v9 r12 y23
        go_wp2_with fail
        refine (good_fresh [0, 0, 0, 0] 4 4 rfl (by decide) _ _).mono ?_
        rintro e w14 ⟨rfl, hb14⟩
        have y24 : w14.cell? ⟨w9.heap.size, 0, none⟩ = some (.slice A9 n9 c9) := (x9.after hb14).cell 0
        have y25 : w14.cell? ⟨w.heap.size, 0, none⟩ = some (.slice A1 n1 c1) := (x1.after hb14).cell 0
        have hbw14 := chain hb14 hbw13
        have heq := equalStr_any A9 A1 n9 n1 c9 c1 _ _ l1 l1 w14 (by rw [← Hl9.out, Hl1.out]; exact Nat.le_trans hn60 (by decide)) (Nat.le_trans hn60 (by decide)) Hl9.out Hl1.out (r13.after hb14) (r1.below hbw14)
        rw [decide_eq_true rfl] at heq
        have Heq := Lib.hid heq
        clear heq hb14 hbw13 x1 x9 r13
        go_wp2_with fail
        refine Heq.out.mono ?_
        rintro e w15 ⟨rfl, hb15⟩
        have hbw15 := chain hb15 hbw14
        have hca : ∀ w, (Op.stringOp .add T1 T2).run Try.prog w = .ok (.string T) w := fun w => by rw [← Hs2.out]; exact run_string_add_sum w _ _ (by have h9 := hT200; rw [← Hs2.out, ByteArray.size_append] at h9; omega)
        clear Heq hb15 hbw14 y24 y25
        go_wp2
        go_ret
        exact ⟨rfl, hbw15⟩
      · have ht := text_no A1 n1 c1 _ l1 Hl1.out hn1 Hy1.out _ (r1.below hbw3) hbw3.size hk
        have hjn := fun w8 (hbw8 : Below w.heap.size w w8) => join_ropes A1 none n1 c1 0 0 w8.heap.size l1 [] Hl1.out rfl hn1 (by omega) Hy1.out (fun p hp => by cases hp) w8 ((r1.below hbw8).more hbw8.size) Reads.nil (Nat.le_refl _)
        rw [joinE_nil, if_neg hk] at hjn
        have q9 : (checkR l1 != 0) = true := by simpa using hk
        generalize checkR l1 = EE at *
        have Ht := Lib.hid ht
        have Hjn := Lib.hid hjn
        clear ht hjn hk
        refine Ht.out.mono ?_
        rintro e w8 ⟨rfl, hb8⟩
        have hbw8 := chain hb8 hbw3
        have y20 : w8.cell? ⟨w.heap.size, 0, none⟩ = some (.slice A1 n1 c1) := (f1.after hb8).cell 0
        have Hjn2 := Lib.hid (Hjn.out w8 hbw8)
        clear Ht hb8 hbw3 f1 y5 Hjn
        go_wp2_with fail
        refine Hjn2.out.mono ?_
        rintro e w9 ⟨A9, n9, c9, rfl, hl9, hn9, r9, hb9⟩
        have hbw9 := chain hb9 hbw8
        clear Hjn2 hb9 hbw8 hl9 r9 y20
        go_wp2
        go_ret
        exact ⟨rfl, hbw9.alloc hbw9.size _⟩
  · rw [if_pos rfl] at Hl4 Hl5 r4'' r5'
    have has := joinE_assoc HE1.out.symm HE2.out.symm
    obtain ⟨k1, k2, k3⟩ := joinE_zero HE1.out.symm
    obtain ⟨_, k4, k5⟩ := joinE_zero HE2.out.symm
    have y6 : (w3.alloc (Obj.cells #[.slice A5 n5 c5] 25)).cell? ⟨w2.heap.size, 0, none⟩ = some (.slice A4 n4 c4) := f4.cell 0
    have y7 : (w3.alloc (Obj.cells #[.slice A5 n5 c5] 25)).cell? ⟨w.heap.size + 1 + 1, 0, none⟩ = some (.slice A3 n3 c3) := f3.cell 0
    have hj := join_ropes A4 A3 n4 c4 n3 c3 (w3.alloc (Obj.cells #[.slice A5 n5 c5] 25)).heap.size (l1 ++ l2) l3 Hl4.out Hl3.out (by rw [← Hl4.out]; exact (ok_small k3).1) hn3 (ok_small k3).2 Hy3.out (w3.alloc (Obj.cells #[.slice A5 n5 c5] 25)) r4'' ((r3.below hbw3).more hbw3.size) (Nat.le_refl _)
    have hj2 := fun w5 (hb : Below (w3.alloc (Obj.cells #[.slice A5 n5 c5] 25)).heap.size (w3.alloc (Obj.cells #[.slice A5 n5 c5] 25)) w5) => join_ropes A1 A5 n1 c1 n5 c5 (w3.alloc (Obj.cells #[.slice A5 n5 c5] 25)).heap.size l1 (l2 ++ l3) Hl1.out Hl5.out hn1 (by rw [← Hl5.out]; exact (ok_small k5).1) Hy1.out (ok_small k5).2 w5 ((r1.below (chain hb hbw3)).more hbw3.size) (r5'.below hb) hb.size
    rw [has, List.append_assoc] at hj
    have hM60 : (if joinE l1 (l2 ++ l3) = 0 then l1 ++ (l2 ++ l3) else []).length ≤ 60 := by
      split
      · rename_i h
        exact ((checkR_iff _).1 (joinE_zero h).2.2).1
      · exact Nat.zero_le _
    have HM60 := Lib.hid hM60
    clear hM60
    generalize joinE l1 (l2 ++ l3) = J at *
    generalize (if J = 0 then l1 ++ (l2 ++ l3) else []) = M at *
    have Hj := Lib.hid hj
    have Hj2 := Lib.hid hj2
    clear hj hj2 has k1 k2 k3 k4 k5 HE1 HE2 Hl4 Hl5 r4'' r5' f3 f4
    go_wp2_with fail
    refine Hj.out.mono ?_
    rintro e w5 ⟨A6, n6, c6, rfl, hl6, hn6, r6, hb5⟩
    have hb5' : Below w5.heap.size w5 (w5.alloc (Obj.cells #[.slice A6 n6 c6] 25)) := (Below.refl _ _).alloc (Nat.le_refl _) _
    have hb45 := chain hb5' hb5
    have hbw5 := chain hb45 hbw3
    have s1 := f1.after hb45
    have s5 := f5.after hb45
    have s6 := Blk.new w5 25 #[.slice A6 n6 c6]
    have r6' := r6.after hb5'
    have y8 : (w5.alloc (Obj.cells #[.slice A6 n6 c6] 25)).cell? ⟨w3.heap.size, 0, none⟩ = some (.slice A5 n5 c5) := s5.cell 0
    have y9 : (w5.alloc (Obj.cells #[.slice A6 n6 c6] 25)).cell? ⟨w.heap.size, 0, none⟩ = some (.slice A1 n1 c1) := s1.cell 0
    have Hj3 := Lib.hid (Hj2.out _ hb45)
    have Hl6 := Lib.hid hl6
    clear Hj Hj2 hb5 hb5' hb45 hbw3 f1 f5 y5 y6 y7 r6 hl6
    go_wp2_with fail
    refine Hj3.out.mono ?_
    rintro e w6 ⟨A7, n7, c7, rfl, hl7, hn7, r7, hb6⟩
    have hb6' : Below w6.heap.size w6 (w6.alloc (Obj.cells #[.slice A7 n7 c7] 25)) := (Below.refl _ _).alloc (Nat.le_refl _) _
    have t1 := (s1.after hb6).after hb6'
    have t6 := (s6.after hb6).after hb6'
    have t7 := Blk.new w6 25 #[.slice A7 n7 c7]
    have r6'' := (r6'.after hb6).after hb6'
    have r7' := r7.after hb6'
    have hbw6 := chain hb6' (chain hb6 hbw5)
    clear hb6 hb6' hbw5 s1 s5 s6 y8 y9 r6' r7 Hj3
    have Hl7 := Lib.hid hl7
    clear hl7
    have y10 : (w6.alloc (Obj.cells #[.slice A7 n7 c7] 25)).cell? ⟨w5.heap.size, 0, none⟩ = some (.slice A6 n6 c6) := t6.cell 0
    have y11 : (w6.alloc (Obj.cells #[.slice A7 n7 c7] 25)).cell? ⟨w6.heap.size, 0, none⟩ = some (.slice A7 n7 c7) := t7.cell 0
    have heq := equalStr_any A6 A7 n6 n7 c6 c7 _ _ M M _ (by rw [← Hl6.out]; exact Nat.le_trans HM60.out (by decide)) (by rw [← Hl7.out]; exact Nat.le_trans HM60.out (by decide)) Hl6.out Hl7.out r6'' r7'
    rw [decide_eq_true rfl] at heq
    have Heq := Lib.hid heq
    clear heq r6'' r7' Hl6 Hl7 t6 t7
    go_wp2_with fail
    refine Heq.out.mono ?_
    rintro e w7 ⟨rfl, hb7⟩
    have f1 := t1.after hb7
    have hbw3 := chain hb7 hbw6
    have y5 : w7.cell? ⟨w.heap.size, 0, none⟩ = some (.slice A1 n1 c1) := f1.cell 0
    clear hb7 hbw6 t1 y10 y11 Heq
    go_wp2_with fail
    by_cases hk : checkR l1 = 0
    · have ht := text_ok A1 n1 c1 _ l1 Hl1.out hc1 Hy1.out _ (r1.below hbw3) hbw3.size hk
      have hTs : (⟨(txt l1).toArray⟩ : ByteArray).size = (txt l1).length := by simp [ByteArray.size]
      have ht200 := ((checkR_iff l1).1 hk).2.2
      have hn60 : n1 ≤ 60 := by rw [← Hl1.out]; exact ((checkR_iff l1).1 hk).1
      have hsum : ∀ k, (⟨(txt (cutA k l1)).toArray⟩ : ByteArray) ++ ⟨(txt (cutB k l1)).toArray⟩ = ⟨(txt l1).toArray⟩ := fun k => tx_cut k
      have hsz : ∀ k : Nat, k ≤ (txt l1).length → (⟨(txt (cutA k l1)).toArray⟩ : ByteArray).size = k := fun k hk => by
        have : (⟨(txt (cutA k l1)).toArray⟩ : ByteArray).size = (txt (cutA k l1)).length := by simp [ByteArray.size]
        rw [this, txt_cutA, List.length_take]; omega
      have Hsum := Lib.hid hsum
      have Hsz := Lib.hid hsz
      generalize (⟨(txt l1).toArray⟩ : ByteArray) = T at *
      have Ht := Lib.hid ht
      have hT200 : T.size ≤ 200 := by omega
      have HTs := Lib.hid hTs
      clear ht hsum hsz hTs
      refine Ht.out.mono ?_
      rintro e w8 ⟨rfl, hb8⟩
      have i1 := f1.after hb8
      have hbw8 := chain hb8 hbw3
      have y20 : w8.cell? ⟨w.heap.size, 0, none⟩ = some (.slice A1 n1 c1) := i1.cell 0
      have hjn := join_ropes A1 none n1 c1 0 0 w8.heap.size l1 [] Hl1.out rfl hn1 (by omega) Hy1.out (fun p hp => by cases hp) w8 ((r1.below hbw8).more hbw8.size) Reads.nil (Nat.le_refl _)
      rw [joinE_nil, hk, if_pos rfl, List.append_nil] at hjn
      have Hjn := Lib.hid hjn
      clear Ht hb8 hbw3 f1 y5 hjn
      go_wp2_with fail
      refine Hjn.out.mono ?_
      rintro e w9 ⟨A9, n9, c9, rfl, hl9, hn9, r9, hb9⟩
      obtain ⟨k, hk2, hwin⟩ : ∃ k : Nat, k ≤ T.size ∧ ∀ w, Calls Try.prog 20 #[.int .i64 i, .int .i64 ((T.size : Int) + 1)] w fun e w' => e = .returned (.int .i64 (k : Int)) ∧ w = w' := by
        have e1 := Int.emod_nonneg i (show (T.size : Int) + 1 ≠ 0 by omega)
        have e2 := Int.emod_lt_of_pos i (show 0 < (T.size : Int) + 1 by omega)
        refine ⟨(i % ((T.size : Int) + 1)).toNat, by omega, fun w => ?_⟩
        rw [Int.toNat_of_nonneg e1]
        exact within_any i ((T.size : Int) + 1) (by omega) (by omega) w
      have hb9' : Below w9.heap.size w9 (w9.alloc (Obj.cells #[.slice A9 n9 c9] 25)) := (Below.refl _ _).alloc (Nat.le_refl _) _
      have j1 := (i1.after hb9).after hb9'
      have j9 := Blk.new w9 25 #[.slice A9 n9 c9]
      have r9' := r9.after hb9'
      have hbw9 := chain hb9' (chain hb9 hbw8)
      have Hwin := Lib.hid hwin
      have Hl9 := Lib.hid hl9
      clear Hjn hb9 hb9' hbw8 i1 y20 r9 hwin hl9
      go_wp2_with fail
      refine (Hwin.out _).mono ?_
      rintro e w10 ⟨rfl, rfl⟩
      have y21 : (w9.alloc (Obj.cells #[.slice A9 n9 c9] 25)).cell? ⟨w.heap.size, 0, none⟩ = some (.slice A1 n1 c1) := j1.cell 0
      have hcut := cut_any A1 n1 c1 _ l1 k ⟨by omega, by omega⟩ Hl1.out hc1 hn1 Hy1.out _ ((r1.below hbw9).more hbw9.size) (Nat.le_refl _)
      have hce : cutE l1 k = 0 := by have := HTs.out; rw [cutE_ok hk, if_neg]; omega
      rw [hce, if_pos rfl, if_pos rfl, Int.toNat_natCast] at hcut
      have Hcut := Lib.hid hcut
      have hokA := cutA_ok hk k
      have hokB := cutB_ok hk k
      clear hcut hce Hwin
      go_wp2_with fail
      refine Hcut.out.mono ?_
      rintro e w11 ⟨Aa, na, ca, Ab, nb, cb, rfl, hla, hlb, hna, hnb, ra, rb, hb11⟩
      have hb11' : Below w11.heap.size w11 ((w11.alloc (Obj.cells #[.slice Aa na ca] 25)).alloc (Obj.cells #[.slice Ab nb cb] 25)) := ((Below.refl _ _).alloc (Nat.le_refl _) _).alloc (by simp) _
      have o1 := (j1.after hb11).after hb11'
      have o9 := (j9.after hb11).after hb11'
      have oa : Blk ((w11.alloc (Obj.cells #[.slice Aa na ca] 25)).alloc (Obj.cells #[.slice Ab nb cb] 25)) w11.heap.size 25 #[.slice Aa na ca] := (Blk.new w11 _ _).alloc _
      have ob : Blk ((w11.alloc (Obj.cells #[.slice Aa na ca] 25)).alloc (Obj.cells #[.slice Ab nb cb] 25)) (w11.heap.size + 1) 25 #[.slice Ab nb cb] := by
        have := Blk.new (w11.alloc (Obj.cells #[.slice Aa na ca] 25)) 25 #[.slice Ab nb cb]
        rwa [show (w11.alloc (Obj.cells #[.slice Aa na ca] 25)).heap.size = w11.heap.size + 1 from by simp] at this
      have r9'' := (r9'.after hb11).after hb11'
      have ra' := ra.after hb11'
      have rb' := rb.after hb11'
      have hbw11 := chain hb11' (chain hb11 hbw9)
      have ht1 := text_ok Aa na ca _ _ hla hna (ok_small hokA).2 _ ra' (Nat.le_refl _) hokA
      have ht2 := fun w12 hb12 => text_ok Ab nb cb _ _ hlb hnb (ok_small hokB).2 w12 (rb'.after hb12) (Nat.le_refl _) hokB
      have hs1 := Hsz.out k (by have := HTs.out; omega)
      have hs2 := Hsum.out k
      generalize (⟨(txt (cutA k l1)).toArray⟩ : ByteArray) = T1 at *
      generalize (⟨(txt (cutB k l1)).toArray⟩ : ByteArray) = T2 at *
      have Ht1 := Lib.hid ht1
      have Ht2 := Lib.hid ht2
      have Hs2 := Lib.hid hs2
      have y22 : ((w11.alloc (Obj.cells #[.slice Aa na ca] 25)).alloc (Obj.cells #[.slice Ab nb cb] 25)).cell? ⟨w11.heap.size, 0, none⟩ = some (.slice Aa na ca) := oa.cell 0
      clear Hcut hb11 hb11' hbw9 ht1 ht2 hs2 j1 j9 y21 ra rb ra' rb' hla hlb hokA hokB r9' Hsum Hsz
      go_wp2_with fail
      refine Ht1.out.mono ?_
      rintro e w12 ⟨rfl, hb12⟩
      have Ht3 := Lib.hid (Ht2.out w12 hb12)
      have v1 := o1.after hb12
      have v9 := o9.after hb12
      have r12 := r9''.after hb12
      have hbw12 := chain hb12 hbw11
      have y23 : w12.cell? ⟨w11.heap.size + 1, 0, none⟩ = some (.slice Ab nb cb) := (ob.after hb12).cell 0
      clear Ht1 Ht2 hb12 hbw11 o1 o9 oa ob r9'' y22
      go_wp2_with fail
      refine Ht3.out.mono ?_
      rintro e w13 ⟨rfl, hb13⟩
      have x1 := v1.after hb13
      have x9 := v9.after hb13
      have r13 := r12.after hb13
      have hbw13 := chain hb13 hbw12
      clear Ht3 hb13 hbw12 v1 v9 r12 y23
      go_wp2_with fail
      refine (good_fresh [0, 0, 0, 0] 4 4 rfl (by decide) _ _).mono ?_
      rintro e w14 ⟨rfl, hb14⟩
      have y24 : w14.cell? ⟨w9.heap.size, 0, none⟩ = some (.slice A9 n9 c9) := (x9.after hb14).cell 0
      have y25 : w14.cell? ⟨w.heap.size, 0, none⟩ = some (.slice A1 n1 c1) := (x1.after hb14).cell 0
      have hbw14 := chain hb14 hbw13
      have heq := equalStr_any A9 A1 n9 n1 c9 c1 _ _ l1 l1 w14 (by rw [← Hl9.out, Hl1.out]; exact Nat.le_trans hn60 (by decide)) (Nat.le_trans hn60 (by decide)) Hl9.out Hl1.out (r13.after hb14) (r1.below hbw14)
      rw [decide_eq_true rfl] at heq
      have Heq := Lib.hid heq
      clear heq hb14 hbw13 x1 x9 r13
      go_wp2_with fail
      refine Heq.out.mono ?_
      rintro e w15 ⟨rfl, hb15⟩
      have hbw15 := chain hb15 hbw14
      have hca : ∀ w, (Op.stringOp .add T1 T2).run Try.prog w = .ok (.string T) w := fun w => by rw [← Hs2.out]; exact run_string_add_sum w _ _ (by have h9 := hT200; rw [← Hs2.out, ByteArray.size_append] at h9; omega)
      clear Heq hb15 hbw14 y24 y25
      go_wp2
      go_ret
      exact ⟨rfl, hbw15⟩
    · have ht := text_no A1 n1 c1 _ l1 Hl1.out hn1 Hy1.out _ (r1.below hbw3) hbw3.size hk
      have hjn := fun w8 (hbw8 : Below w.heap.size w w8) => join_ropes A1 none n1 c1 0 0 w8.heap.size l1 [] Hl1.out rfl hn1 (by omega) Hy1.out (fun p hp => by cases hp) w8 ((r1.below hbw8).more hbw8.size) Reads.nil (Nat.le_refl _)
      rw [joinE_nil, if_neg hk] at hjn
      have q9 : (checkR l1 != 0) = true := by simpa using hk
      generalize checkR l1 = EE at *
      have Ht := Lib.hid ht
      have Hjn := Lib.hid hjn
      clear ht hjn hk
      refine Ht.out.mono ?_
      rintro e w8 ⟨rfl, hb8⟩
      have hbw8 := chain hb8 hbw3
      have y20 : w8.cell? ⟨w.heap.size, 0, none⟩ = some (.slice A1 n1 c1) := (f1.after hb8).cell 0
      have Hjn2 := Lib.hid (Hjn.out w8 hbw8)
      clear Ht hb8 hbw3 f1 y5 Hjn
      go_wp2_with fail
      refine Hjn2.out.mono ?_
      rintro e w9 ⟨A9, n9, c9, rfl, hl9, hn9, r9, hb9⟩
      have hbw9 := chain hb9 hbw8
      clear Hjn2 hb9 hbw8 hl9 r9 y20
      go_wp2
      go_ret
      exact ⟨rfl, hbw9.alloc hbw9.size _⟩
end Go.Proofs.Ytjdmfpoiniocmaa
