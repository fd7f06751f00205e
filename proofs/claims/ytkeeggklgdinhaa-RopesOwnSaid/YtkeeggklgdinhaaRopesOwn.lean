/- RopesOwn's walk: ropes do not share memory with arguments. -/
import Derived.Test.YtkeeggklgdinhaaRopeTest
import Derived.Test.YtkeeggklgdinhaaRopeEdit
import Derived.Test.YtkeeggklgdinhaaClone
import Derived.Test.YtkeeggklgdinhaaContains
import Derived.Test.YtkeeggklgdinhaaEqual
import Derived.Test.YtkeeggklgdinhaaArgs
import Derived.Test.YtkeeggklgdinhaaHasStr
import Derived.Test.YtkeeggklgdinhaaSpoilStr
import Derived.Test.YtkeeggklgdinhaaLaidContains
import Derived.Lib.IndexAny
import Derived.Deep.RegionHeld3
import Derived.Deep.DeepCutAuto
namespace Go.Proofs.Ytkeeggklgdinhaa
open Go.RowKit
set_option linter.unusedVariables false

theorem cutB_from : ∀ (l : List ByteArray) (a : Nat), ∀ q ∈ cutB a l, ∃ p ∈ l, ∀ c ∈ q.data.toList, c ∈ p.data.toList
  | [], a, q, h => by simp [cutB] at h
  | p :: l, a, q, h => by
    rw [cutB] at h
    have key : q ∈ cutB (a - min a p.size) l → ∃ p' ∈ p :: l, ∀ c ∈ q.data.toList, c ∈ p'.data.toList := fun h => by
      obtain ⟨p', h1, h2⟩ := cutB_from l _ q h
      exact ⟨p', List.mem_cons_of_mem _ h1, h2⟩
    split at h
    · rcases List.mem_cons.1 h with rfl | h
      · refine ⟨p, List.mem_cons_self, fun c hc => ?_⟩
        rw [ext_list] at hc
        exact List.mem_of_mem_take (List.mem_of_mem_drop hc)
      · exact key h
    · exact key h
theorem cutB_mark (l : List ByteArray) (a : Nat) (h : (⟨#[63]⟩ : ByteArray) ∈ cutB a l) : l.any (fun p => p.data.toList.contains 63) = true := by
  obtain ⟨p, h1, h2⟩ := cutB_from l a _ h
  rw [List.any_eq_true]
  exact ⟨p, h1, by rw [List.contains_iff_mem]; exact h2 63 (by simp)⟩
theorem contains_mark (s : ByteArray) (w : World) : Calls Try.prog 10 #[.string s] w fun e w' => e = .returned (.bool (s.data.toList.contains 63)) ∧ Below w.heap.size w w' := by
  have h : ∀ w, Calls Try.prog 11 #[.string s, .string ⟨#[63]⟩] w fun e w' => e = .returned (.bool (s.data.toList.contains 63)) ∧ w = w' := fun w => by
    refine (Any.strings_Contains_one laysCn s 63 w).mono ?_
    rintro e w' ⟨rfl, rfl⟩
    rw [← Lib.contains_iff_indexByte]
    exact ⟨rfl, rfl⟩
  have H := Lib.hid h
  clear h
  generalize s.data.toList.contains 63 = v at *
  go_enter Try.func10, Try.ntmps10
  go_wp2_with fail
  refine (H.out _).mono ?_
  rintro e w1 ⟨rfl, rfl⟩
  go_wp2
  go_ret
  exact ⟨rfl, Below.refl _ _⟩

set_option maxRecDepth 100000 in
set_option maxHeartbeats 4000000 in
theorem ropesOwn_walk (A : Option Addr) (la ca : Nat) (a : List ByteArray) (A' : Option Addr) (lb cb : Nat) (b : List ByteArray) (m : Int) (x : Ed) {w : World} (ha : RopeIn w A la ca a) (hb : RopeIn w A' lb cb b) (hm0 : (Lit.int .i64 m).wf = true) (hx : OkEdit x) :
    Calls Try.prog 3 #[ropeV A la ca, ropeV A' lb cb, .int .i64 m, .agg (cEdit x).toArray] w fun e w' => e = .returned (.bool true) ∧ Below w.heap.size w w' := by
  obtain ⟨hla, ra, hka, hza, hca, _, _⟩ := ha
  obtain ⟨hlb, rb, hkb, hzb, hcb, _, _⟩ := hb
  obtain ⟨hx1, hx2, hx3⟩ := hx
  have hm := bounds_i64 hm0
  have hza' : ∀ p ∈ a, p.size ≤ 140737488355328 := fun p hp => Nat.le_trans (hza p hp) (by decide)
  have hzb' : ∀ p ∈ b, p.size ≤ 140737488355328 := fun p hp => Nat.le_trans (hzb p hp) (by decide)
  have hla2 : la * 16 ≤ 140737488355328 := by omega
  have hlb2 : lb * 16 ≤ 140737488355328 := by omega
  have C1 := Lib.hid (fun w' (h : Below w.heap.size w w') => cloneStr_any A la ca w.heap.size a hla hla2 w' (ra.below h) h.size)
  have C2 := Lib.hid (fun w' (h : Below w.heap.size w w') => cloneStr_any A' lb cb w.heap.size b hlb hlb2 w' (rb.below h) h.size)
  have E1 := Lib.hid (fun w' (h : Below w.heap.size w w') A1 c1 B (r : Reads w' B A1 la 1 (a.flatMap cStr)) => equalStr_any A A1 la la ca c1 w.heap.size B a a w' (by omega) (by omega) hla hla (ra.below h) r)
  have E2 := Lib.hid (fun w' (h : Below w.heap.size w w') A1 c1 B (r : Reads w' B A1 lb 1 (b.flatMap cStr)) => equalStr_any A' A1 lb lb cb c1 w.heap.size B b b w' (by omega) (by omega) hlb hlb (rb.below h) r)
  rw [decide_eq_true rfl] at E1 E2
  have KC := Lib.hid (fun w' (h : Below w.heap.size w w') => cut_own A la ca w.heap.size a m hm hla hca (by omega) hza' w' (ra.below h) h.size)
  have KJ := Lib.hid (fun w' (h : Below w.heap.size w w') => join_own A A' la ca lb cb w.heap.size a b hla hlb (by omega) (by omega) hza' hzb' w' (ra.below h) (rb.below h) h.size)
  have KE := Lib.hid (fun w' (h : Below w.heap.size w w') => redit_own A la ca w.heap.size a x hx1 hx2 (Nat.le_trans hx3 (by decide)) hla hca (by omega) hza' w' (ra.below h) h.size)
  have hD : hasB (⟨#[63]⟩ : ByteArray) (if cutE a m = 0 then cutB m.toNat a else []) = true → a.any (fun p => p.data.toList.contains 63) = true := fun h => by
    have h := hasB_iff.1 h
    split at h
    · exact cutB_mark _ _ h
    · cases h
  have CN := Lib.hid (fun w' A1 c1 B (r : Reads w' B A1 la 1 (a.flatMap cStr)) => containsStr_any ⟨#[63]⟩ A1 la c1 B a w' (by omega) hla r)
  have CF := Lib.hid (fun w' A1 c1 B (r : Reads w' B A1 la 1 (a.flatMap cStr)) (hB : B ≤ w'.heap.size) => hasStrF 10 (fun _ _ => by rfl) A1 la c1 B a (fun p => p.data.toList.contains 63) hla (by omega) w' r hB (fun p _ w1 _ => contains_mark p w1))
  have HD := Lib.hid hD
  have hL2 : (if cutE a m = 0 then cutB m.toNat a else []).length ≤ 140737488355328 := by
    split
    · have := cutB_len a m.toNat; omega
    · simp
  have CD := Lib.hid (fun w' A1 n1 c1 B (l : List ByteArray) (hl : l.length = n1) (hn : n1 ≤ 140737488355328) (r : Reads w' B A1 n1 1 (l.flatMap cStr)) => containsStr_any ⟨#[63]⟩ A1 n1 c1 B l w' hn hl r)
  have hed : (.agg (cEdit x).toArray : Value) = .agg #[.int .i64 x.1, .int .i64 x.2.1, .string x.2.2] := rfl
  rw [hed]
  clear hD hed hza hzb hza' hzb' hka hkb hm0 hm hx1 hx2 hx3 hla hlb hla2 hlb2 hca hcb ra rb
  generalize (if cutE a m = 0 then cutA m.toNat a else []) = L1 at *
  generalize (if cutE a m = 0 then cutB m.toNat a else []) = L2 at *
  generalize (if joinE a b = 0 then a ++ b else []) = L3 at *
  generalize (if reditE a x = 0 then reditL a x else []) = L4 at *
  generalize cutE a m = F1 at *
  generalize joinE a b = F2 at *
  generalize reditE a x = F3 at *
  obtain ⟨x1, xd, ins⟩ := x
  simp only at KE ⊢
  have b0 : Below w.heap.size w (((w.alloc (Obj.cells #[.slice A la ca] 24)).alloc (Obj.cells #[.slice A' lb cb] 24)).alloc (Obj.cells #[.int .i64 x1, .int .i64 xd, .string ins] 26)) := (((Below.refl _ _).alloc (Nat.le_refl _) _).alloc (by simp) _).alloc (by simp; omega) _
  have gA : Blk (((w.alloc (Obj.cells #[.slice A la ca] 24)).alloc (Obj.cells #[.slice A' lb cb] 24)).alloc (Obj.cells #[.int .i64 x1, .int .i64 xd, .string ins] 26)) w.heap.size 24 #[.slice A la ca] := ((Blk.new w _ _).alloc _).alloc _
  have gB : Blk (((w.alloc (Obj.cells #[.slice A la ca] 24)).alloc (Obj.cells #[.slice A' lb cb] 24)).alloc (Obj.cells #[.int .i64 x1, .int .i64 xd, .string ins] 26)) (w.heap.size + 1) 24 #[.slice A' lb cb] := by
    have := (Blk.new (w.alloc (Obj.cells #[.slice A la ca] 24)) 24 #[.slice A' lb cb]).alloc (Obj.cells #[.int .i64 x1, .int .i64 xd, .string ins] 26)
    rwa [show (w.alloc (Obj.cells #[.slice A la ca] 24)).heap.size = w.heap.size + 1 from by simp] at this
  have gX : Blk (((w.alloc (Obj.cells #[.slice A la ca] 24)).alloc (Obj.cells #[.slice A' lb cb] 24)).alloc (Obj.cells #[.int .i64 x1, .int .i64 xd, .string ins] 26)) (w.heap.size + 1 + 1) 26 #[.int .i64 x1, .int .i64 xd, .string ins] := by
    have := Blk.new ((w.alloc (Obj.cells #[.slice A la ca] 24)).alloc (Obj.cells #[.slice A' lb cb] 24)) 26 #[.int .i64 x1, .int .i64 xd, .string ins]
    rwa [show ((w.alloc (Obj.cells #[.slice A la ca] 24)).alloc (Obj.cells #[.slice A' lb cb] 24)).heap.size = w.heap.size + 1 + 1 from by simp] at this
  have hbd := buildEdit
  go_enter Try.func3, Try.ntmps3
  go_wp2_with fail
  refine (ropes_any _).mono ?_
  rintro e w1 ⟨rfl, hb1⟩
  have gA1 := gA.after hb1
  have gB1 := gB.after hb1
  have gX1 := gX.after hb1
  have b1 := chain hb1 b0
  have cA1 : w1.cell? ⟨w.heap.size, 0, none⟩ = some (.slice A la ca) := gA1.cell 0
  have cB1 : w1.cell? ⟨w.heap.size + 1, 0, none⟩ = some (.slice A' lb cb) := gB1.cell 0
  clear gA gB gX hb1 b0
  go_upto_region 3 with fail
  go_cut [9, 10] (fun p q wx => ∃ (A1 : Option Addr) (c1 : Nat) (A2 : Option Addr) (c2 : Nat), p = .slice A1 la c1 ∧ q = .slice A2 lb c2 ∧ Reads wx wx.heap.size A1 la 1 (a.flatMap cStr) ∧ Reads wx wx.heap.size A2 lb 1 (b.flatMap cStr) ∧ Below w1.heap.size w1 wx)
  case first =>
    have K1 : Hid (∀ w', Below w1.heap.size w1 w' → Calls Try.prog 5 #[.slice A la ca] w' fun e w'' => ∃ A1 c1, e = .returned (.slice A1 la c1) ∧ Reads w'' w''.heap.size A1 la 1 (a.flatMap cStr) ∧ Below w'.heap.size w' w'' ∧ Below w1.heap.size w1 w'') := Lib.hid fun w' h => (C1.out w' (chain h b1)).mono fun e w'' ⟨A1, c1, h1, h2, h3⟩ => ⟨A1, c1, h1, Reads.of_own h2, h3, chain h3 h⟩
    have K2 : Hid (∀ w', Below w1.heap.size w1 w' → Calls Try.prog 5 #[.slice A' lb cb] w' fun e w'' => ∃ A1 c1, e = .returned (.slice A1 lb c1) ∧ Reads w'' w''.heap.size A1 lb 1 (b.flatMap cStr) ∧ Below w'.heap.size w' w'' ∧ Below w1.heap.size w1 w'') := Lib.hid fun w' h => (C2.out w' (chain h b1)).mono fun e w'' ⟨A1, c1, h1, h2, h3⟩ => ⟨A1, c1, h1, Reads.of_own h2, h3, chain h3 h⟩
    go_region_with ((go_at_call 5; first
      | (refine (K1.out _ (by first | exact (Below.refl _ _).drew | assumption)).mono ?_; rintro e w2 ⟨A1, c1, rfl, r1, hb2, hb2'⟩; have cB2 : w2.cell? ⟨w.heap.size + 1, 0, none⟩ = some (.slice A' lb cb) := (gB1.after hb2').cell 0)
      | (refine (K2.out _ (by first | exact (Below.refl _ _).drew | assumption)).mono ?_; rintro e w3 ⟨A2, c2, rfl, r2, hb3, hb3'⟩)))
    all_goals (go_wp2_with fail; go_meet; exact ⟨A1, c1, A2, c2, rfl, rfl, r1.after hb3, r2, hb3'⟩)
  case rest =>
  obtain ⟨A1, c1, A2, c2, rfl, rfl, rP3, rQ3, hb3⟩ := hcut
  have gA3 := gA1.after hb3
  have gB3 := gB1.after hb3
  have gX3 := gX1.after hb3
  have b3 := chain hb3 b1
  have cA3 : _ = some (Value.slice A la ca) := gA3.cell 0
  clear gA1 gB1 gX1 hb3 b1 cA1 cB1
  go_wp2_with fail
  refine (KC.out _ b3).mono ?_
  rintro e w4 ⟨Ac, nc, cc, Ad, nd, cd, rfl, oc, od, hap, hb4⟩
  have hb5 : Below w4.heap.size w4 ((w4.alloc (Obj.cells #[.slice Ac nc cc] 24)).alloc (Obj.cells #[.slice Ad nd cd] 24)) := ((Below.refl _ _).alloc (Nat.le_refl _) _).alloc (by simp) _
  have gC5 : Blk ((w4.alloc (Obj.cells #[.slice Ac nc cc] 24)).alloc (Obj.cells #[.slice Ad nd cd] 24)) w4.heap.size 24 #[.slice Ac nc cc] := (Blk.new w4 _ _).alloc _
  have gD5 : Blk ((w4.alloc (Obj.cells #[.slice Ac nc cc] 24)).alloc (Obj.cells #[.slice Ad nd cd] 24)) (w4.heap.size + 1) 24 #[.slice Ad nd cd] := by
    have := Blk.new (w4.alloc (Obj.cells #[.slice Ac nc cc] 24)) 24 #[.slice Ad nd cd]
    rwa [show (w4.alloc (Obj.cells #[.slice Ac nc cc] 24)).heap.size = w4.heap.size + 1 from by simp] at this
  have h35 := chain hb5 hb4
  have oc5 := oc.after hb5
  have od5 := od.after hb5
  have cC5 : ((w4.alloc (Obj.cells #[.slice Ac nc cc] 24)).alloc (Obj.cells #[.slice Ad nd cd] 24)).cell? ⟨w4.heap.size, 0, none⟩ = some (.slice Ac nc cc) := gC5.cell 0
  have hnd := od.1
  clear oc od hb4 hb5 gC5 cA3
  go_wp2_with fail
  refine (spoilStr_any _ Ac nc cc L1 ⟨#[63]⟩ _ oc5).mono ?_
  rintro e w6 ⟨rfl, hg6⟩
  have h36 := h35.grown hg6 h35.size (fun k hk => Nat.le_of_not_lt (oc5.lt k hk).1)
  have od6 := od5.grown hg6 hap
  have gD6 := gD5.grown hg6 (oc5.ne_blk gD5 (by decide))
  have cD6 : w6.cell? ⟨w4.heap.size + 1, 0, none⟩ = some (.slice Ad nd cd) := gD6.cell 0
  have rP6 := rP3.after h36
  generalize hd4 : w4.heap.size + 1 = d4 at *
  have KD := Lib.hid (CD.out w6 Ad nd cd _ L2 hnd (by omega) od6.reads)
  clear hg6 hap oc5 od5 h35 gD5 cC5 CD hd4
  cases hq : hasB (⟨#[63]⟩ : ByteArray) L2
  case' false =>
    rw [hq] at KD
    clear hq HD
    go_wp2_with fail
    refine KD.out.mono ?_
    rintro e w7 ⟨rfl, rfl⟩
    have h37 := h36
    have od7 := od6
    have gD7 := gD6
    clear KD rP6 h36 od6 gD6 CN CF
  case' true =>
    have hany := HD.out hq
    rw [hq] at KD
    have KN := Lib.hid (CN.out w6 A1 c1 _ rP6)
    have KF := Lib.hid (CF.out w6 A1 c1 _ rP6 (Nat.le_refl _))
    rw [hany] at KF
    clear hq HD hany CN CF
    generalize hasB (⟨#[63]⟩ : ByteArray) a = v at *
    go_wp2_with fail
    refine KD.out.mono ?_
    rintro e w7 ⟨rfl, rfl⟩
    go_wp2_with fail
    refine KN.out.mono ?_
    rintro e w8 ⟨rfl, rfl⟩
    cases v
    case' false =>
      go_wp2_with fail
      refine KF.out.mono ?_
      rintro e w9 ⟨rfl, hb9⟩
      have h37 := chain hb9 h36
      have od7 := od6.after hb9
      have gD7 := gD6.after hb9
      have cD7 : w9.cell? ⟨d4, 0, none⟩ = some (.slice Ad nd cd) := gD7.cell 0
      clear KD KN KF rP6 h36 od6 gD6 cD6 hb9
    case' true =>
      have h37 := h36
      have od7 := od6
      have gD7 := gD6
      clear KD KN KF rP6 h36 od6 gD6
  all_goals
    go_wp2_with fail
    refine (spoilStr_any _ Ad nd cd L2 ⟨#[63]⟩ _ od7).mono ?_
    rintro e w10 ⟨rfl, hg10⟩
    have h310 := h37.grown hg10 h37.size (fun k hk => Nat.le_of_not_lt (od7.lt k hk).1)
    have gA10 := gA3.after h310
    have gB10 := gB3.after h310
    have gX10 := gX3.after h310
    have rP10 := rP3.after h310
    have rQ10 := rQ3.after h310
    have b10 := chain h310 b3
    have cA10 : w10.cell? ⟨w.heap.size, 0, none⟩ = some (.slice A la ca) := gA10.cell 0
    have cB10 : w10.cell? ⟨w.heap.size + 1, 0, none⟩ = some (.slice A' lb cb) := gB10.cell 0
    clear hg10 h37 od7 gD7 gA3 gB3 gX3 rP3 rQ3 b3 h310
    go_wp2_with fail
    refine (KJ.out w10 b10).mono ?_
    rintro e w11 ⟨Aj, nj, cj, rfl, oj, hb11⟩
    have gJ := Blk.new w11 24 #[.slice Aj nj cj]
    have cJ : (w11.alloc (Obj.cells #[.slice Aj nj cj] 24)).cell? ⟨w11.heap.size, 0, none⟩ = some (.slice Aj nj cj) := gJ.cell 0
    have oj2 := oj.alloc (Obj.cells #[.slice Aj nj cj] 24)
    have h12 := hb11.alloc hb11.size (Obj.cells #[.slice Aj nj cj] 24)
    clear oj hb11 gJ cA10 cB10
    go_wp2_with fail
    refine (spoilStr_any _ Aj nj cj L3 ⟨#[63]⟩ _ oj2).mono ?_
    rintro e w13 ⟨rfl, hg13⟩
    have h13 := h12.grown hg13 h12.size (fun k hk => Nat.le_of_not_lt (oj2.lt k hk).1)
    have gA13 := gA10.after h13
    have gB13 := gB10.after h13
    have gX13 := gX10.after h13
    have rP13 := rP10.after h13
    have rQ13 := rQ10.after h13
    have b13 := chain h13 b10
    have cA13 : w13.cell? ⟨w.heap.size, 0, none⟩ = some (.slice A la ca) := gA13.cell 0
    have y0 : w13.cell? ⟨w.heap.size + 1 + 1, 0, none⟩ = some (.int .i64 x1) := gX13.cell 0
    have y1 : w13.cell? ⟨w.heap.size + 1 + 1, 1, none⟩ = some (.int .i64 xd) := gX13.cell 1
    have y2 : w13.cell? ⟨w.heap.size + 1 + 1, 2, none⟩ = some (.string ins) := gX13.cell 2
    clear hg13 h12 oj2 cJ gA10 gB10 gX10 rP10 rQ10 b10 h13
    go_wp2_with fail
    refine (KE.out w13 b13).mono ?_
    rintro e w14 ⟨Ak, nk, ck, rfl, ok, hb14⟩
    have gK := Blk.new w14 24 #[.slice Ak nk ck]
    have cK : (w14.alloc (Obj.cells #[.slice Ak nk ck] 24)).cell? ⟨w14.heap.size, 0, none⟩ = some (.slice Ak nk ck) := gK.cell 0
    have ok2 := ok.alloc (Obj.cells #[.slice Ak nk ck] 24)
    have h15 := hb14.alloc hb14.size (Obj.cells #[.slice Ak nk ck] 24)
    clear ok hb14 gK cA13 y0 y1 y2
    go_wp2_with fail
    refine (spoilStr_any _ Ak nk ck L4 ⟨#[63]⟩ _ ok2).mono ?_
    rintro e w16 ⟨rfl, hg16⟩
    have h16 := h15.grown hg16 h15.size (fun k hk => Nat.le_of_not_lt (ok2.lt k hk).1)
    have gA16 := gA13.after h16
    have gB16 := gB13.after h16
    have rP16 := rP13.after h16
    have rQ16 := rQ13.after h16
    have b16 := chain h16 b13
    have cA16 : w16.cell? ⟨w.heap.size, 0, none⟩ = some (.slice A la ca) := gA16.cell 0
    have cB16 : w16.cell? ⟨w.heap.size + 1, 0, none⟩ = some (.slice A' lb cb) := gB16.cell 0
    clear hg16 h15 ok2 cK gA13 gB13 gX13 rP13 rQ13 b13 h16
    go_wp2_with fail
    refine (E1.out w16 b16 A1 c1 _ rP16).mono ?_
    rintro e w17 ⟨rfl, hb17⟩
    have gB17 := gB16.after hb17
    have rQ17 := rQ16.after hb17
    have b17 := chain hb17 b16
    have cB17 : w17.cell? ⟨w.heap.size + 1, 0, none⟩ = some (.slice A' lb cb) := gB17.cell 0
    clear hb17 gA16 gB16 cA16 cB16 rP16 rQ16 b16
    go_wp2_with fail
    refine (E2.out w17 b17 A2 c2 _ rQ17).mono ?_
    rintro e w18 ⟨rfl, hb18⟩
    have b18 := chain hb18 b17
    clear hb18 b17 rQ17 cB17 gB17
    go_wp2
    go_ret
    exact ⟨rfl, b18⟩
end Go.Proofs.Ytkeeggklgdinhaa
