/- RopeSame: the division into parts does not affect the contents. -/
import Derived.Test.YtjdmfpoiniocmaaRopeTest
namespace Go.Proofs.Ytjdmfpoiniocmaa
open Go.RowKit
set_option linter.unusedVariables false

theorem atV_txt {l : List ByteArray} (h : checkR l = 0) (i : Int) : atV i l = if i < 0 then (0, 1) else if i.toNat < (txt l).length then ((txt l).getD i.toNat 0, 0) else (0, 1) := by
  unfold atV
  rw [if_neg (fun k => k h)]
  by_cases hi : i < 0
  · rw [if_pos hi, if_pos hi]
  · rw [if_neg hi, if_neg hi]
    obtain ⟨m, rfl⟩ : ∃ m : Nat, i = m := ⟨i.toNat, by omega⟩
    rw [atB_txt, Int.toNat_natCast]
    split <;> rfl
theorem cutE_ok {l : List ByteArray} (h : checkR l = 0) (a : Int) : cutE l a = if a < 0 ∨ ((txt l).length : Int) < a then 1 else 0 := by
  unfold cutE
  rw [if_neg (fun k => k h)]
theorem checkR_nil : checkR [] = 0 := rfl

set_option maxRecDepth 100000 in
set_option maxHeartbeats 4000000 in
theorem ropeSame_walk (s : ByteArray) (a b i : Int) (hs : s.size ≤ 140737488351232) (ha0 : (Lit.int .i64 a).wf = true) (hb0 : (Lit.int .i64 b).wf = true) (hi0 : (Lit.int .i64 i).wf = true) {w : World} :
    Calls Try.prog 3 #[.string s, .int .i64 a, .int .i64 b, .int .i64 i] w fun e w' => e = .returned (.bool true) ∧ Below w.heap.size w w' := by
  have ha := bounds_i64 ha0
  have hb := bounds_i64 hb0
  have hi := bounds_i64 hi0
  clear ha0 hb0 hi0
  have H0 := Lib.hid (ropes_any w)
  have HO : Hid (∀ m : Int, -9223372036854775808 ≤ m ∧ m ≤ 9223372036854775807 → ∀ w, Calls Try.prog 14 #[.string s, .int .i64 m] w fun e w' => ToldRope w e w' (if ofE s m = 0 then ofL s m else []) (ofE s m)) := Lib.hid fun m hm w => of_any s (by omega) m hm w
  obtain ⟨E, hE⟩ : ∃ E, E = ofE s a := ⟨_, rfl⟩
  obtain ⟨F, hF⟩ : ∃ F, F = ofE s b := ⟨_, rfl⟩
  have q : (E != 0) = true ∨ (E = 0 ∧ (F != 0) = true) ∨ (E = 0 ∧ F = 0) := by
    by_cases h : E = 0
    · by_cases h2 : F = 0
      · exact .inr (.inr ⟨h, h2⟩)
      · exact .inr (.inl ⟨h, by simpa using h2⟩)
    · exact .inl (by simpa using h)
  have Ha : Hid (∀ w, Calls Try.prog 14 #[.string s, .int .i64 a] w fun e w' => ToldRope w e w' (if E = 0 then ofL s a else []) E) := Lib.hid fun w => by rw [hE]; exact HO.out a ha w
  have Hb : Hid (∀ w, Calls Try.prog 14 #[.string s, .int .i64 b] w fun e w' => ToldRope w e w' (if F = 0 then ofL s b else []) F) := Lib.hid fun w => by rw [hF]; exact HO.out b hb w
  have HE := Lib.hid hE
  have HF := Lib.hid hF
  clear hE hF HO
  rcases q with q1 | ⟨rfl, q1⟩ | ⟨rfl, rfl⟩
  · go_enter Try.func3, Try.ntmps3
    go_wp2_with fail
    refine H0.out.mono ?_
    rintro e w1 ⟨rfl, hb1⟩
    go_wp2_with fail
    refine (Ha.out w1).mono ?_
    rintro e w2 ⟨A2, n2, c2, rfl, _, _, _, hb2⟩
    have hbw2 := (chain hb2 hb1).alloc (chain hb2 hb1).size (Obj.cells #[.slice A2 n2 c2] 25)
    go_wp2_with fail
    refine (Hb.out _).mono ?_
    rintro e w3 ⟨A3, n3, c3, rfl, _, _, _, hb3⟩
    have hbw3 := chain hb3 hbw2
    clear hbw2 hb1 hb2 hb3
    go_wp2
    go_ret
    exact ⟨rfl, hbw3.alloc hbw3.size _⟩
  · go_enter Try.func3, Try.ntmps3
    go_wp2_with fail
    refine H0.out.mono ?_
    rintro e w1 ⟨rfl, hb1⟩
    go_wp2_with fail
    refine (Ha.out w1).mono ?_
    rintro e w2 ⟨A2, n2, c2, rfl, _, _, _, hb2⟩
    have hbw2 := (chain hb2 hb1).alloc (chain hb2 hb1).size (Obj.cells #[.slice A2 n2 c2] 25)
    go_wp2_with fail
    refine (Hb.out _).mono ?_
    rintro e w3 ⟨A3, n3, c3, rfl, _, _, _, hb3⟩
    have hbw3 := chain hb3 hbw2
    clear hbw2 hb1 hb2 hb3
    go_wp2
    go_ret
    exact ⟨rfl, hbw3.alloc hbw3.size _⟩
  rw [if_pos rfl] at Ha Hb
  obtain ⟨ok1, t1⟩ := of_ok s a HE.out.symm
  obtain ⟨ok2, t2⟩ := of_ok s b HF.out.symm
  generalize ofL s a = l1 at *
  generalize ofL s b = l2 at *
  have hV : atV i l2 = atV i l1 := by rw [atV_txt ok1, atV_txt ok2, t1, t2]
  have hC : cutE l2 i = cutE l1 i := by rw [cutE_ok ok1, cutE_ok ok2, t1, t2]
  have hK : checkR (if cutE l1 i = 0 then cutA i.toNat l1 else []) = 0 ∧ checkR (if cutE l1 i = 0 then cutA i.toNat l2 else []) = 0 ∧ txt (if cutE l1 i = 0 then cutA i.toNat l2 else []) = txt (if cutE l1 i = 0 then cutA i.toNat l1 else []) := by
    split
    · exact ⟨cutA_ok ok1 _, cutA_ok ok2 _, by rw [txt_cutA, txt_cutA, t1, t2]⟩
    · exact ⟨rfl, rfl, rfl⟩
  have hX : ((atV i l1).2 != 0) = true ∨ (atV i l1 = (s.data.toList.getD i.toNat 0, 0) ∧ 0 ≤ i ∧ i < s.size) := by
    rw [atV_txt ok1, t1, dlen]
    by_cases h1 : i < 0
    · rw [if_pos h1]; exact .inl rfl
    · rw [if_neg h1]
      by_cases h2 : i.toNat < s.size
      · rw [if_pos h2]; exact .inr ⟨rfl, by omega, by omega⟩
      · rw [if_neg h2]; exact .inl rfl
  obtain ⟨b1, b1'⟩ := ok_small ok1
  obtain ⟨b2, b2'⟩ := ok_small ok2
  have HV := Lib.hid hV
  have HC := Lib.hid hC
  have HK := Lib.hid hK
  have HX := Lib.hid hX
  have Hok1 := Lib.hid ok1
  have Hok2 := Lib.hid ok2
  have Hb1' := Lib.hid b1'
  have Hb2' := Lib.hid b2'
  clear hV hC hK hX ok1 ok2 t1 t2 b1' b2' HE HF
  go_enter Try.func3, Try.ntmps3
  go_wp2_with fail
  refine H0.out.mono ?_
  rintro e w1 ⟨rfl, hb1⟩
  go_wp2_with fail
  refine (Ha.out w1).mono ?_
  rintro e w2 ⟨A2, n2, c2, rfl, hl2, hn2, r2, hb2⟩
  have hbw2 := (chain hb2 hb1).alloc (chain hb2 hb1).size (Obj.cells #[.slice A2 n2 c2] 25)
  have g2 := Blk.new w2 25 #[.slice A2 n2 c2]
  have r2' := r2.after ((Below.refl w2.heap.size w2).alloc (Nat.le_refl _) (Obj.cells #[.slice A2 n2 c2] 25))
  have Hl2 := Lib.hid hl2
  have hn2' : n2 ≤ 1000000000000000 := by rw [← hl2]; exact b1
  clear hb1 hb2 r2 hl2
  go_wp2_with fail
  refine (Hb.out _).mono ?_
  rintro e w3 ⟨A3, n3, c3, rfl, hl3, hn3, r3, hb3⟩
  have hbw3 := (chain hb3 hbw2).alloc (chain hb3 hbw2).size (Obj.cells #[.slice A3 n3 c3] 25)
  have g3 := (g2.after hb3).alloc (Obj.cells #[.slice A3 n3 c3] 25)
  have k3 := Blk.new w3 25 #[.slice A3 n3 c3]
  have hs3 := (Below.refl w3.heap.size w3).alloc (Nat.le_refl _) (Obj.cells #[.slice A3 n3 c3] 25)
  have p3 := (r2'.after hb3).after hs3
  have r3' := r3.after hs3
  have Hl3 := Lib.hid hl3
  have hn3' : n3 ≤ 1000000000000000 := by rw [← hl3]; exact b2
  have y1 : (w3.alloc (Obj.cells #[.slice A3 n3 c3] 25)).cell? ⟨w2.heap.size, 0, none⟩ = some (.slice A2 n2 c2) := g3.cell 0
  clear hb3 hs3 r2' r3 g2 hbw2 hl3
  have hat := at_ok A2 n2 c2 _ l1 i hi Hl2.out (w3.alloc (Obj.cells #[.slice A3 n3 c3] 25)) p3 (Nat.le_refl _) Hok1.out
  have Hat := Lib.hid hat
  clear hat
  go_wp2_with fail
  refine Hat.out.mono ?_
  rintro e w4 ⟨rfl, hb4⟩
  have g4 := g3.after hb4
  have k4 := k3.after hb4
  have p4 := p3.after hb4
  have r4 := r3'.after hb4
  have hbw4 := chain hb4 hbw3
  have y2 : w4.cell? ⟨w3.heap.size, 0, none⟩ = some (.slice A3 n3 c3) := k4.cell 0
  clear hb4 Hat p3 r3' g3 k3 y1 hbw3
  have hat := at_ok A3 n3 c3 _ l2 i hi Hl3.out w4 r4 (Nat.le_refl _) Hok2.out
  rw [HV.out] at hat
  have Hat := Lib.hid hat
  clear hat
  go_wp2_with fail
  refine Hat.out.mono ?_
  rintro e w5 ⟨rfl, hb5⟩
  have g5 := g4.after hb5
  have k5 := k4.after hb5
  have p5 := p4.after hb5
  have r5 := r4.after hb5
  have hbw5 := chain hb5 hbw4
  have y3 : w5.cell? ⟨w2.heap.size, 0, none⟩ = some (.slice A2 n2 c2) := g5.cell 0
  clear hb5 Hat p4 r4 g4 k4 y2 hbw4 HV
  have hct := cut_any A2 n2 c2 _ l1 i hi Hl2.out hn2 hn2' Hb1'.out w5 p5 (Nat.le_refl _)
  have Hct := Lib.hid hct
  clear hct
  go_wp2_with fail
  refine Hct.out.mono ?_
  rintro e w6 ⟨A6, n6, c6, B6, m6, d6, rfl, hl6, _, hn6, _, q6, _, hb6⟩
  have hb6' : Below w6.heap.size w6 ((w6.alloc (Obj.cells #[.slice A6 n6 c6] 25)).alloc (Obj.cells #[.slice B6 m6 d6] 25)) := ((Below.refl _ _).alloc (Nat.le_refl _) _).alloc (by simp) _
  have o6 : Blk ((w6.alloc (Obj.cells #[.slice A6 n6 c6] 25)).alloc (Obj.cells #[.slice B6 m6 d6] 25)) w6.heap.size 25 #[.slice A6 n6 c6] := (Blk.new w6 _ _).alloc _
  have k6 := (k5.after hb6).after hb6'
  have r6 := (r5.after hb6).after hb6'
  have q6' := q6.after hb6'
  have hbw6 := chain hb6' (chain hb6 hbw5)
  have y4 : ((w6.alloc (Obj.cells #[.slice A6 n6 c6] 25)).alloc (Obj.cells #[.slice B6 m6 d6] 25)).cell? ⟨w3.heap.size, 0, none⟩ = some (.slice A3 n3 c3) := k6.cell 0
  have Hl6 := Lib.hid hl6
  clear hb6 Hct p5 r5 g5 k5 y3 hbw5 q6 hb6' hl6
  have hct := cut_any A3 n3 c3 _ l2 i hi Hl3.out hn3 hn3' Hb2'.out _ r6 (Nat.le_refl _)
  rw [HC.out] at hct
  have Hct := Lib.hid hct
  clear hct
  go_wp2_with fail
  refine Hct.out.mono ?_
  rintro e w7 ⟨A7, n7, c7, B7, m7, d7, rfl, hl7, _, hn7, _, q7, _, hb7⟩
  have hb7' : Below w7.heap.size w7 ((w7.alloc (Obj.cells #[.slice A7 n7 c7] 25)).alloc (Obj.cells #[.slice B7 m7 d7] 25)) := ((Below.refl _ _).alloc (Nat.le_refl _) _).alloc (by simp) _
  have u7 : Blk ((w7.alloc (Obj.cells #[.slice A7 n7 c7] 25)).alloc (Obj.cells #[.slice B7 m7 d7] 25)) w7.heap.size 25 #[.slice A7 n7 c7] := (Blk.new w7 _ _).alloc _
  have o7 := (o6.after hb7).after hb7'
  have v7 := (q6'.after hb7).after hb7'
  have q7' := q7.after hb7'
  have hbw7 := chain hb7' (chain hb7 hbw6)
  have y5 : ((w7.alloc (Obj.cells #[.slice A7 n7 c7] 25)).alloc (Obj.cells #[.slice B7 m7 d7] 25)).cell? ⟨w6.heap.size, 0, none⟩ = some (.slice A6 n6 c6) := o7.cell 0
  have Hl7 := Lib.hid hl7
  clear hb7 Hct k6 r6 q6' o6 hbw6 q7 hb7' hl7 y4 HC
  obtain ⟨kk1, kk2, kk3⟩ := HK.out
  generalize (if cutE l1 i = 0 then cutA i.toNat l1 else []) = M1 at *
  generalize (if cutE l1 i = 0 then cutA i.toNat l2 else []) = M2 at *
  generalize cutE l1 i = CE at *
  have ht := text_ok A6 n6 c6 _ M1 Hl6.out hn6 (ok_small kk1).2 _ v7 (Nat.le_refl _) kk1
  have hu := fun w8 hb8 => text_ok A7 n7 c7 _ M2 Hl7.out hn7 (ok_small kk2).2 w8 (q7'.after hb8) (Nat.le_refl _) kk2
  rw [kk3] at hu
  generalize (⟨(txt M1).toArray⟩ : ByteArray) = T at *
  have Ht := Lib.hid ht
  have Hu := Lib.hid hu
  clear ht hu kk1 kk2 kk3 HK v7 q7' o7 Hl6 Hl7 Hok1 Hok2 Hb1' Hb2' Ha Hb
  go_wp2_with fail
  refine Ht.out.mono ?_
  rintro e w8 ⟨rfl, hb8⟩
  have y6 : w8.cell? ⟨w7.heap.size, 0, none⟩ = some (.slice A7 n7 c7) := (u7.after hb8).cell 0
  have hbw8 := chain hb8 hbw7
  have Hu8 := Lib.hid (Hu.out w8 hb8)
  clear Ht Hu hb8 hbw7 u7 y5
  go_wp2_with fail
  refine Hu8.out.mono ?_
  rintro e w9 ⟨rfl, hb9⟩
  have hbw9 := chain hb9 hbw8
  clear Hu8 hb9 hbw8 y6
  rcases HX.out with hx | ⟨hx, h0, h1⟩
  · generalize atV i l1 = V at *
    obtain ⟨X, E1⟩ := V
    simp only at hx ⊢
    clear HX
    go_wp2
    go_ret
    exact ⟨rfl, hbw9⟩
  · rw [hx]
    obtain ⟨j, rfl⟩ : ∃ j : Nat, i = j := ⟨i.toNat, by omega⟩
    have hj : j < s.size := by omega
    have hjj : decide ((j : Int) < (s.size : Int)) = true := decide_eq_true h1
    have hjj' : decide (j < s.size) = true := decide_eq_true hj
    rw [Int.toNat_natCast, getD_at s j hj]
    clear HX hx
    go_wp2
    go_ret
    exact ⟨rfl, hbw9⟩
end Go.Proofs.Ytjdmfpoiniocmaa
