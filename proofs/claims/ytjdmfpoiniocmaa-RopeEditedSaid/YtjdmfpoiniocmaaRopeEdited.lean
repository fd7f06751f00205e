/- RopeEdited: editing a rope edits its text. -/
import Derived.Test.YtjdmfpoiniocmaaRopeEdit
import Derived.Test.YtjdmfpoiniocmaaRopeLaws
import Derived.Test.YtjdmfpoiniocmaaEditLaws
import Derived.Test.YtjdmfpoiniocmaaApply
namespace Go.Proofs.Ytjdmfpoiniocmaa
open Go.RowKit
set_option linter.unusedVariables false

theorem redit_test : reditE [⟨#[97, 98]⟩, ⟨#[99, 100]⟩] (1, 2, ⟨#[120]⟩) = 0 ∧ reditL [⟨#[97, 98]⟩, ⟨#[99, 100]⟩] (1, 2, ⟨#[120]⟩) = [⟨#[97]⟩, ⟨#[120]⟩, ⟨#[100]⟩] := by decide +kernel
theorem txt_mid (s : ByteArray) : txt (midR s) = s.data.toList := by
  unfold midR
  by_cases h : s.size = 0
  · rw [if_pos h]
    have : s.data.toList.length = 0 := h
    rw [List.eq_nil_of_length_eq_zero this]; rfl
  · rw [if_neg h, txt_cons, txt_nil, List.append_nil]
theorem redit_ok {l : List ByteArray} {x : Ed} (h : reditE l x = 0) : 0 ≤ x.1 ∧ 0 ≤ x.2.1 ∧ x.1 ≤ (txt l).length ∧ x.1 + x.2.1 ≤ (txt l).length ∧ checkR (reditL l x) = 0 ∧ txt (reditL l x) = app (txt l) 0 [x] ∧ (reditL l x).length ≤ l.length + 2 := by
  unfold reditE at h
  by_cases h1 : cutE l x.1 = 0
  case neg => rw [if_pos h1] at h; exact absurd h h1
  rw [if_neg (fun k => k h1)] at h
  by_cases h2 : cutE (cutB x.1.toNat l) x.2.1 = 0
  case neg => rw [if_pos h2] at h; exact absurd h h2
  rw [if_neg (fun k => k h2)] at h
  by_cases h3 : checkR (midR x.2.2) = 0
  case neg => rw [if_pos h3] at h; exact absurd h h3
  rw [if_neg (fun k => k h3)] at h
  by_cases h4 : joinE (cutA x.1.toNat l) (midR x.2.2) = 0
  case neg => rw [if_pos h4] at h; exact absurd h h4
  rw [if_neg (fun k => k h4)] at h
  have c1 := h1
  have c2 := h2
  rw [cutE_ok (cut_ok h1)] at c1
  rw [cutE_ok (cut_ok h2), txt_cutB, List.length_drop] at c2
  have d1 : ¬ (x.1 < 0 ∨ ((txt l).length : Int) < x.1) := fun k => by rw [if_pos k] at c1; cases c1
  have d2 : ¬ (x.2.1 < 0 ∨ (((txt l).length - x.1.toNat : Nat) : Int) < x.2.1) := fun k => by rw [if_pos k] at c2; cases c2
  refine ⟨by omega, by omega, by omega, by omega, (joinE_zero h).2.2, ?_, ?_⟩
  · unfold reditL
    rw [txt_append, txt_append, txt_mid, txt_cutA, txt_cutB, txt_cutB, List.drop_drop]
    simp only [app, List.drop_zero]
    rw [show (x.1 + x.2.1).toNat = x.1.toNat + x.2.1.toNat from by omega]
  · unfold reditL
    rw [List.length_append, List.length_append]
    have e1 := cut_len l x.1.toNat
    have e2 := cutB_len (cutB x.1.toNat l) x.2.1.toNat
    have e3 : (midR x.2.2).length ≤ 1 := by unfold midR; split <;> simp
    omega
theorem checkE_one {n : Nat} {x : Ed} (hn : n ≤ 200) (h0 : 0 ≤ x.1) (h1 : 0 ≤ x.2.1) (h2 : x.1 + x.2.1 ≤ n) : checkE n [x] = 0 ∨ checkE n [x] = 2 ∨ checkE n [x] = 5 ∨ checkE n [x] = 11 := by
  unfold checkE
  rw [if_neg (by omega), if_neg (by simp), chk, if_neg (by omega)]
  by_cases a1 : 40 < x.2.2.size
  · rw [if_pos a1]; omega
  rw [if_neg a1]
  by_cases a2 : x.2.1 = 0 ∧ x.2.2.size = 0
  · rw [if_pos a2]; omega
  rw [if_neg a2, if_neg (by simp), chk]
  split <;> omega

set_option maxRecDepth 100000 in
set_option maxHeartbeats 16000000 in
theorem ropeEdited_walk (A : Option Addr) (n c : Nat) (l : List ByteArray) (x : Ed) {w : World} (hr : RopeIn w A n c l) (hx : OkEdit x) :
    Calls Try.prog 5 #[ropeV A n c, .agg (cEdit x).toArray] w fun e w' => e = .returned (.bool true) ∧ Below w.heap.size w w' := by
  obtain ⟨hl, r, hb, hz, hc, _, _⟩ := hr
  obtain ⟨hx1, hx2, hx3⟩ := hx
  have hn : n ≤ 1000000000000000 := by omega
  have hy : ∀ p ∈ l, p.size ≤ 140737488355328 := fun p hp => Nat.le_trans (hz p hp) (by decide)
  have Hy := Lib.hid hy
  have Hl := Lib.hid hl
  have hox : OkEdit x := ⟨hx1, hx2, hx3⟩
  have Hox := Lib.hid hox
  clear hz hb hy hl hox
  have hed : (.agg (cEdit x).toArray : Value) = .agg #[.int .i64 x.1, .int .i64 x.2.1, .string x.2.2] := rfl
  rw [hed]
  have hE1 : Hid (∀ w', Below w.heap.size w w' → Calls Try.prog 22 #[ropeV A n c, .agg #[.int .i64 x.1, .int .i64 x.2.1, .string x.2.2]] w' fun e w'' => ToldRope w' e w'' (if reditE l x = 0 then reditL l x else []) (reditE l x)) := Lib.hid fun w' hw => redit_any A n c _ l x hx1 hx2 (by omega) Hl.out hc hn Hy.out w' (r.below hw) hw.size
  have HX := Lib.hid (⟨hx1, hx2, hx3⟩ : OkEdit x)
  obtain ⟨x1, xd, ins⟩ := x
  simp only at hE1 hx1 hx2 hx3 ⊢
  clear hx1 hx2 hx3 hed
  have hbd := buildEdit
  have hb0 : Below w.heap.size w ((w.alloc (Obj.cells #[.slice A n c] 25)).alloc (Obj.cells #[.int .i64 x1, .int .i64 xd, .string ins] 42)) := ((Below.refl _ _).alloc (Nat.le_refl _) _).alloc (by simp) _
  have g0 : Blk ((w.alloc (Obj.cells #[.slice A n c] 25)).alloc (Obj.cells #[.int .i64 x1, .int .i64 xd, .string ins] 42)) w.heap.size 25 #[.slice A n c] := (Blk.new w _ _).alloc _
  have g1 : Blk ((w.alloc (Obj.cells #[.slice A n c] 25)).alloc (Obj.cells #[.int .i64 x1, .int .i64 xd, .string ins] 42)) (w.heap.size + 1) 42 #[.int .i64 x1, .int .i64 xd, .string ins] := by
    have := Blk.new (w.alloc (Obj.cells #[.slice A n c] 25)) 42 #[.int .i64 x1, .int .i64 xd, .string ins]
    rwa [show (w.alloc (Obj.cells #[.slice A n c] 25)).heap.size = w.heap.size + 1 from by simp] at this
  have hsz0 : ((w.alloc (Obj.cells #[.slice A n c] 25)).alloc (Obj.cells #[.int .i64 x1, .int .i64 xd, .string ins] 42)).heap.size = w.heap.size + 1 + 1 := by simp
  have hrt := fun (w0 : World) (hs : w0.heap.size = w.heap.size + 1 + 1) => redit_any (some ⟨w.heap.size + 1 + 1, 0, none⟩) 2 2 (w.heap.size + 1 + 1 + 1) [⟨#[97, 98]⟩, ⟨#[99, 100]⟩] (1, 2, ⟨#[120]⟩) (by decide) (by decide) (by decide) rfl (Nat.le_refl _) (by decide) (by intro p hp; simp at hp; rcases hp with rfl | rfl <;> decide) (w0.alloc (Obj.cells #[.string ⟨#[97, 98]⟩, .string ⟨#[99, 100]⟩] 9)) (by have := Reads.of_fresh w0 #[.string ⟨#[97, 98]⟩, .string ⟨#[99, 100]⟩] 9 2 1 rfl; rw [hs] at this; exact this) (by simp; omega)
  rw [if_pos redit_test.1, redit_test.1, redit_test.2] at hrt
  have Hrt := Lib.hid (hrt _ hsz0)
  clear hrt
  go_enter Try.func5, Try.ntmps5
  go_wp2_with fail
  refine Hrt.out.mono ?_
  rintro e w1 ⟨A1, n1, c1, rfl, hl1, hn1, r1, hb1⟩
  obtain rfl : n1 = 3 := hl1.symm
  have hbA : Below ((w.alloc (Obj.cells #[.slice A n c] 25)).alloc (Obj.cells #[.int .i64 x1, .int .i64 xd, .string ins] 42)).heap.size ((w.alloc (Obj.cells #[.slice A n c] 25)).alloc (Obj.cells #[.int .i64 x1, .int .i64 xd, .string ins] 42)) (((w.alloc (Obj.cells #[.slice A n c] 25)).alloc (Obj.cells #[.int .i64 x1, .int .i64 xd, .string ins] 42)).alloc (Obj.cells #[.string ⟨#[97, 98]⟩, .string ⟨#[99, 100]⟩] 9)) := (Below.refl _ _).alloc (Nat.le_refl _) _
  have hb1' : Below w1.heap.size w1 (w1.alloc (Obj.cells #[.slice A1 3 c1] 25)) := (Below.refl _ _).alloc (Nat.le_refl _) _
  have k0 := ((g0.alloc (Obj.cells #[.string ⟨#[97, 98]⟩, .string ⟨#[99, 100]⟩] 9)).after hb1).after hb1'
  have k1 := ((g1.alloc (Obj.cells #[.string ⟨#[97, 98]⟩, .string ⟨#[99, 100]⟩] 9)).after hb1).after hb1'
  have hbw1 := chain hb1' (chain hb1 (chain hbA hb0))
  have kr := Blk.new w1 25 #[.slice A1 3 c1]
  have y1 : (w1.alloc (Obj.cells #[.slice A1 3 c1] 25)).cell? ⟨w1.heap.size, 0, none⟩ = some (.slice A1 3 c1) := kr.cell 0
  have hb2 : Below (w1.alloc (Obj.cells #[.slice A1 3 c1] 25)).heap.size (w1.alloc (Obj.cells #[.slice A1 3 c1] 25)) ((w1.alloc (Obj.cells #[.slice A1 3 c1] 25)).alloc (Obj.cells #[.string ⟨#[97]⟩, .string ⟨#[120]⟩, .string ⟨#[100]⟩] 9)) := (Below.refl _ _).alloc (Nat.le_refl _) _
  have heq := equalStr_any A1 (some ⟨(w1.alloc (Obj.cells #[.slice A1 3 c1] 25)).heap.size, 0, none⟩) 3 3 c1 3 (w1.alloc (Obj.cells #[.slice A1 3 c1] 25)).heap.size ((w1.alloc (Obj.cells #[.slice A1 3 c1] 25)).heap.size + 1) [⟨#[97]⟩, ⟨#[120]⟩, ⟨#[100]⟩] [⟨#[97]⟩, ⟨#[120]⟩, ⟨#[100]⟩] ((w1.alloc (Obj.cells #[.slice A1 3 c1] 25)).alloc (Obj.cells #[.string ⟨#[97]⟩, .string ⟨#[120]⟩, .string ⟨#[100]⟩] 9)) (by decide) (by decide) rfl rfl ((r1.after hb1').below hb2) (Reads.of_fresh (w1.alloc (Obj.cells #[.slice A1 3 c1] 25)) #[.string ⟨#[97]⟩, .string ⟨#[120]⟩, .string ⟨#[100]⟩] 9 3 1 rfl)
  rw [decide_eq_true rfl, show (w1.alloc (Obj.cells #[.slice A1 3 c1] 25)).heap.size = w1.heap.size + 1 from by simp] at heq
  have Heq := Lib.hid heq
  have m0 := k0.alloc (Obj.cells #[.string ⟨#[97]⟩, .string ⟨#[120]⟩, .string ⟨#[100]⟩] 9)
  have m1 := k1.alloc (Obj.cells #[.string ⟨#[97]⟩, .string ⟨#[120]⟩, .string ⟨#[100]⟩] 9)
  have hbw2 := chain hb2 hbw1
  clear Hrt heq hb1 hb0 g0 g1 hsz0 hbA hb1' r1 hl1 k0 k1 hb2 hbw1 kr
  go_wp2_with fail
  refine Heq.out.mono ?_
  rintro e w3 ⟨rfl, hb3⟩
  have p0 := m0.after hb3
  have p1 := m1.after hb3
  have hbw3 := chain hb3 hbw2
  clear Heq m0 m1 hb3 hbw2 y1
  go_wp2_with fail
  refine (edits_any _).mono ?_
  rintro e w4 ⟨rfl, hb4⟩
  have q0 := p0.after hb4
  have q1 := p1.after hb4
  have hbw4 := chain hb4 hbw3
  clear p0 p1 hb4 hbw3
  have y2 : w4.cell? ⟨w.heap.size, 0, none⟩ = some (.slice A n c) := q0.cell 0
  by_cases hk : checkR l = 0
  case neg =>
    have ht := text_no A n c _ l Hl.out hn Hy.out w4 (r.below hbw4) hbw4.size hk
    have q9 : (checkR l != 0) = true := by simpa using hk
    have hre : reditE l (x1, xd, ins) = checkR l := by
      unfold reditE
      have : cutE l x1 = checkR l := by unfold cutE; rw [if_pos hk]
      show (if cutE l x1 ≠ 0 then cutE l x1 else _) = _
      rw [this, if_pos hk]
    have hE2 := hE1.out
    rw [hre, if_neg hk] at hE2
    generalize checkR l = EE at *
    have HE2 := Lib.hid hE2
    have Ht := Lib.hid ht
    clear hE1 hE2 ht hk hre
    go_wp2_with fail
    refine Ht.out.mono ?_
    rintro e w5 ⟨rfl, hb5⟩
    have u0 := q0.after hb5
    have u1 := q1.after hb5
    have hbw5 := chain hb5 hbw4
    have y3 : w5.cell? ⟨w.heap.size, 0, none⟩ = some (.slice A n c) := u0.cell 0
    have y4 : w5.cell? ⟨w.heap.size + 1, 0, none⟩ = some (.int .i64 x1) := u1.cell 0
    have y5 : w5.cell? ⟨w.heap.size + 1, 1, none⟩ = some (.int .i64 xd) := u1.cell 1
    have y6 : w5.cell? ⟨w.heap.size + 1, 2, none⟩ = some (.string ins) := u1.cell 2
    clear Ht q0 q1 hb5 hbw4 y2
    go_wp2_with fail
    refine (HE2.out w5 hbw5).mono ?_
    rintro e w6 ⟨A6, n6, c6, rfl, hl6, hn6, r6, hb6⟩
    obtain rfl : n6 = 0 := hl6.symm
    have y7 : (w6.alloc (Obj.cells #[.slice A6 0 c6] 25)).cell? ⟨w6.heap.size, 0, none⟩ = some (.slice A6 0 c6) := (Blk.new w6 25 #[.slice A6 0 c6]).cell 0
    have hbw6 := chain hb6 hbw5
    clear HE2 u0 u1 hb6 hbw5 y3 y4 y5 y6 r6
    go_wp2
    go_ret
    exact ⟨rfl, hbw6.alloc hbw6.size _⟩
  have ht := text_ok A n c _ l Hl.out hc Hy.out w4 (r.below hbw4) hbw4.size hk
  obtain ⟨T, hT⟩ : ∃ T : ByteArray, T = ⟨(txt l).toArray⟩ := ⟨_, rfl⟩
  rw [← hT] at ht
  have HT := Lib.hid hT
  have Ht := Lib.hid ht
  have Hk := Lib.hid hk
  clear ht hT hk
  go_wp2_with fail
  refine Ht.out.mono ?_
  rintro e w5 ⟨rfl, hb5⟩
  have u0 := q0.after hb5
  have u1 := q1.after hb5
  have hbw5 := chain hb5 hbw4
  have y3 : w5.cell? ⟨w.heap.size, 0, none⟩ = some (.slice A n c) := u0.cell 0
  have y4 : w5.cell? ⟨w.heap.size + 1, 0, none⟩ = some (.int .i64 x1) := u1.cell 0
  have y5 : w5.cell? ⟨w.heap.size + 1, 1, none⟩ = some (.int .i64 xd) := u1.cell 1
  have y6 : w5.cell? ⟨w.heap.size + 1, 2, none⟩ = some (.string ins) := u1.cell 2
  clear Ht q0 q1 hb5 hbw4 y2
  go_wp2_with fail
  by_cases hre : reditE l (x1, xd, ins) = 0
  case neg =>
    have q9 : (reditE l (x1, xd, ins) != 0) = true := by simpa using hre
    have hE2 := hE1.out w5 hbw5
    rw [if_neg hre] at hE2
    generalize reditE l (x1, xd, ins) = EE at *
    clear hE1
    refine hE2.mono ?_
    rintro e w6 ⟨A6, n6, c6, rfl, hl6, hn6, r6, hb6⟩
    obtain rfl : n6 = 0 := hl6.symm
    have y7 : (w6.alloc (Obj.cells #[.slice A6 0 c6] 25)).cell? ⟨w6.heap.size, 0, none⟩ = some (.slice A6 0 c6) := (Blk.new w6 25 #[.slice A6 0 c6]).cell 0
    have hbw6 := chain hb6 hbw5
    clear hE2 u0 u1 hb6 hbw5 y3 y4 y5 y6 r6
    go_wp2
    go_ret
    exact ⟨rfl, hbw6.alloc hbw6.size _⟩
  obtain ⟨j1, j2, j3, j4, j5, j6, j7⟩ := redit_ok hre
  have hE2 := hE1.out w5 hbw5
  rw [if_pos hre, hre] at hE2
  refine hE2.mono ?_
  rintro e w6 ⟨A6, n6, c6, rfl, hl6, hn6, r6, hb6⟩
  have hb6' : Below w6.heap.size w6 (w6.alloc (Obj.cells #[.slice A6 n6 c6] 25)) := (Below.refl _ _).alloc (Nat.le_refl _) _
  have k6 := Blk.new w6 25 #[.slice A6 n6 c6]
  have y7 : (w6.alloc (Obj.cells #[.slice A6 n6 c6] 25)).cell? ⟨w6.heap.size, 0, none⟩ = some (.slice A6 n6 c6) := k6.cell 0
  have hbw6 := chain hb6' (chain hb6 hbw5)
  have v0 := (u0.after hb6).after hb6'
  have v1 := (u1.after hb6).after hb6'
  have ht2 := text_ok A6 n6 c6 _ _ hl6 hn6 (ok_small j5).2 _ (r6.after hb6') (Nat.le_refl _) j5
  rw [j6] at ht2
  have Ht2 := Lib.hid ht2
  have hn6' : n6 ≤ n + 2 := by rw [← hl6, ← Hl.out]; exact j7
  have ht200 := ((checkR_iff l).1 Hk.out).2.2
  have hTs : T.size = (txt l).length := by rw [HT.out]; simp [ByteArray.size]
  have hce := checkE_one (n := T.size) (x := (x1, xd, ins)) (by omega) j1 j2 (by rw [hTs]; exact j4)
  have Hce := Lib.hid hce
  have hTl : T.data.toList = txt l := by rw [HT.out]
  have HTl := Lib.hid hTl
  have HTs := Lib.hid hTs
  have hT200 : T.size ≤ 200 := by omega
  clear hE2 hE1 u0 u1 hb6 hbw5 y3 y4 y5 y6 hre j1 j2 j3 j4 j5 j6 j7 ht2 hce hTl hTs r6 hb6' hl6
  go_wp2_with fail
  refine Ht2.out.mono ?_
  rintro e w7 ⟨rfl, hb7⟩
  have z0 := v0.after hb7
  have z1 := v1.after hb7
  have z6 := k6.after hb7
  have hbw7 := chain hb7 hbw6
  have y8 : w7.cell? ⟨w.heap.size + 1, 0, none⟩ = some (.int .i64 x1) := z1.cell 0
  have y9 : w7.cell? ⟨w.heap.size + 1, 1, none⟩ = some (.int .i64 xd) := z1.cell 1
  have y10 : w7.cell? ⟨w.heap.size + 1, 2, none⟩ = some (.string ins) := z1.cell 2
  clear Ht2 hb7 hbw6 v0 v1 k6 y7
  go_wp2_with fail
  have hbe : Below w7.heap.size w7 (w7.alloc (Obj.cells #[.int .i64 x1, .int .i64 xd, .string ins] 42)) := (Below.refl _ _).alloc (Nat.le_refl _) _
  have hre := Reads.of_fresh w7 #[.int .i64 x1, .int .i64 xd, .string ins] 42 1 3 rfl
  have o0 := z0.alloc (Obj.cells #[.int .i64 x1, .int .i64 xd, .string ins] 42)
  have o6 := z6.alloc (Obj.cells #[.int .i64 x1, .int .i64 xd, .string ins] 42)
  have hbw8 := chain hbe hbw7
  clear y8 y9 y10 z0 z1 z6 hbe hbw7
  have qn : decide ((n6 : Int) ≤ (n : Int) + 2) = true := decide_eq_true (by omega)
  have qn' : decide (n6 ≤ n + 2) = true := decide_eq_true hn6'
  have hfin : ∀ (w9 : World), Below (w7.alloc (Obj.cells #[.int .i64 x1, .int .i64 xd, .string ins] 42)).heap.size (w7.alloc (Obj.cells #[.int .i64 x1, .int .i64 xd, .string ins] 42)) w9 →
      w9.cell? ⟨w.heap.size, 0, none⟩ = some (.slice A n c) ∧ w9.cell? ⟨w6.heap.size, 0, none⟩ = some (.slice A6 n6 c6) ∧ Below w.heap.size w w9 := fun w9 h => ⟨(o0.after h).cell 0, (o6.after h).cell 0, chain h hbw8⟩
  have Hfin := Lib.hid hfin
  by_cases hce : checkE T.size [(x1, xd, ins)] = 0
  · have hap := apply_ok T (some ⟨w7.heap.size, 0, none⟩) 1 1 _ [(x1, xd, ins)] rfl hce _ hre (by simp)
    rw [HTl.out] at hap
    have Hap := Lib.hid hap
    clear hap hce hre hfin o0 o6 hbw8 Hce
    generalize (⟨(app (txt l) 0 [(x1, xd, ins)]).toArray⟩ : ByteArray) = U at *
    refine Hap.out.mono ?_
    rintro e w9 ⟨rfl, hb9⟩
    obtain ⟨e0, e6, hbw9⟩ := Hfin.out w9 hb9
    clear Hap hb9 Hfin
    go_wp2
    go_ret
    exact ⟨rfl, hbw9⟩
  · have hap := apply_no T (by omega) (some ⟨w7.heap.size, 0, none⟩) 1 1 _ [(x1, xd, ins)] (by decide) rfl (fun y hy => by rw [List.mem_singleton.1 hy]; exact Hox.out) _ rfl hce _ hre (by simp)
    have Hap := Lib.hid hap
    rcases Hce.out with h | h | h | h
    · exact absurd h hce
    all_goals
      rw [h] at Hap
      clear hap hce hre hfin o0 o6 hbw8 Hce h
      refine Hap.out.mono ?_
      rintro e w9 ⟨rfl, hb9⟩
      obtain ⟨e0, e6, hbw9⟩ := Hfin.out w9 hb9
      clear Hap hb9 Hfin
      go_wp2
      go_ret
      exact ⟨rfl, hbw9⟩
end Go.Proofs.Ytjdmfpoiniocmaa
