/- TrieFronts' walk: the patterns with a given prefix are sorted, and a longer prefix has no more of them. -/
import Derived.Test.YtpaodbkdmiedfaaTrieFrontsWalk
import Derived.Test.YtpaodbkdmiedfaaEqual
import Derived.Test.YtpaodbkdmiedfaaArgs
namespace Go.Proofs.Ytpaodbkdmiedfaa
open Go.RowKit Go.Sort Go.Shelf Go.Lib
set_option linter.unusedVariables false

theorem fresh_strsF (l : List ByteArray) (w : World) : Reads (w.alloc (Obj.cells (l.map Value.string).toArray 9)) (w.heap.size + 1) (some ⟨w.heap.size, 0, none⟩) l.length 1 (l.flatMap cStr) := by
  have h := Reads.of_fresh w (l.map Value.string).toArray 9 l.length 1 (by simp)
  have e : ∀ l : List ByteArray, (l.map Value.string).toArray.toList = l.flatMap cStr := fun l => by
    rw [List.toList_toArray]
    induction l with
    | nil => rfl
    | cons x l ih => rw [List.map_cons, List.flatMap_cons, ← ih]; rfl
  rwa [e] at h
theorem fresh_intsF (l : List Int) (w : World) : Reads (w.alloc (Obj.cells (l.map (Value.int .i64)).toArray 3)) (w.heap.size + 1) (some ⟨w.heap.size, 0, none⟩) l.length 1 (l.flatMap cInt) := by
  have h := Reads.of_fresh w (l.map (Value.int .i64)).toArray 3 l.length 1 (by simp)
  have e : ∀ l : List Int, (l.map (Value.int .i64)).toArray.toList = l.flatMap cInt := fun l => by
    rw [List.toList_toArray]
    induction l with
    | nil => rfl
    | cons x l ih => rw [List.map_cons, List.flatMap_cons, ← ih]; rfl
  rwa [e] at h
theorem fr_known : IsFr [⟨#[98]⟩, ⟨#[97, 98]⟩, ⟨#[97]⟩] ⟨#[]⟩ [2, 1, 0] := ⟨by decide +kernel, by decide +kernel⟩
theorem fr_check : checkP [⟨#[98]⟩, ⟨#[97, 98]⟩, ⟨#[97]⟩] = 0 := by decide +kernel

/-- The closure: is it not in the list? -/
theorem notIn_any (g : Nat) (A : Option Addr) (n c B : Nat) (o : List Nat) (k : Nat) (w : World) (hn : n ≤ 1000) (ho : o.length = n) (hk : k ∈ o) (c1 : w.cell? ⟨g, 0, none⟩ = some (.slice A n c)) (h : Reads w B A n 1 ((natsI o).flatMap cInt)) :
    Calls Try.prog 44 #[.int .i64 (k : Int), .pointer (some ⟨g, 0, none⟩)] w fun e w' => e = .returned (.bool false) ∧ w = w' := by
  have hh : hasB (k : Int) (natsI o) = true := by
    rw [hasB_iff]; unfold natsI; exact List.mem_map.2 ⟨k, hk, rfl⟩
  have hC := containsInt_any (k : Int) A n c B (natsI o) w (by omega) (by rw [natsI_len, ho]) h
  rw [hh] at hC
  have HC := Lib.hid hC
  clear hC hh h ho hk
  go_enter Try.func44, Try.ntmps44
  go_wp2_with fail
  refine HC.out.mono ?_
  rintro e w1 ⟨rfl, rfl⟩
  go_wp2
  go_ret
  exact ⟨rfl, rfl⟩
set_option maxHeartbeats 1000000 in
theorem noneF_any (f : Nat) (cb : Array Value) (A : Option Addr) (n c B : Nat) (l : List Int) (w : World) (hn : n ≤ 1000) (hl : l.length = n) (h : Reads w B A n 1 (l.flatMap cInt))
    (eg : ∀ args w, (callFunc f args).run Try.prog w = .ok (.enter f args) w)
    (hf : ∀ x ∈ l, Calls Try.prog f (#[.int .i64 x] ++ cb) w fun e w' => e = .returned (.bool false) ∧ w = w') :
    Calls Try.prog 82 #[.slice A n c, .func (.func f) #[] cb] w fun e w' => e = .returned (.int .i64 (-1)) ∧ w = w' := by
  have Hl := Lib.hid hl
  have Hf := Lib.hid hf
  clear hl hf
  go_enter Try.func82, Try.ntmps82
  go_wp2
  go_loopw [5, 8] (fun _ i wr => ∃ k : Nat, k ≤ n ∧ i = .int .i64 k ∧ wr = w) (fun _ i _ => n - (intOf i).toNat)
  case atStart => exact ⟨0, Nat.zero_le _, rfl, rfl⟩
  case round =>
    obtain ⟨k, hk, rfl, rfl⟩ := hrel
    by_cases hlt : k < n
    · obtain ⟨b, o, rfl, hbB, hc⟩ := h.2 (by omega)
      have c0 := hc (k * 1 + 0) (by rw [flat_length cInt 1 cInt_len, Hl.out]; omega)
      rw [flat_getD cInt 1 cInt_len 0 l k _ (by rw [Hl.out]; omega) (by omega)] at c0
      simp only [cInt, List.getD_cons_zero, Nat.mul_one, Nat.add_zero] at c0
      have hx := Hf.out (l.getD k 0) (by rw [getD_some _ _ _ (by rw [Hl.out]; exact hlt)]; exact List.getElem_mem _)
      have Hx := Lib.hid hx
      clear hc hx h
      generalize l.getD k 0 = x at *
      go_wp2_with fail
      refine Hx.out.mono ?_
      rintro e w1 ⟨rfl, rfl⟩
      go_wp2
      go_roundw
      case rel => exact ⟨k + 1, by omega, by go_num, trivial⟩
      case measure => simp [intOf]; omega
    · obtain rfl : k = n := by omega
      go_wp2
      go_ret
      exact ⟨rfl, rfl⟩
theorem noneF_has (f : Nat) (cb : Array Value) (A : Option Addr) (n c B : Nat) (l : List Int) (w : World) (hn : n ≤ 1000) (hl : l.length = n) (h : Reads w B A n 1 (l.flatMap cInt))
    (eg : ∀ args w, (callFunc f args).run Try.prog w = .ok (.enter f args) w)
    (hf : ∀ x ∈ l, Calls Try.prog f (#[.int .i64 x] ++ cb) w fun e w' => e = .returned (.bool false) ∧ w = w') :
    Calls Try.prog 43 #[.slice A n c, .func (.func f) #[] cb] w fun e w' => e = .returned (.bool false) ∧ w = w' := by
  have H1 := Lib.hid (noneF_any f cb A n c B l w hn hl h eg hf)
  clear hf h hl
  go_enter Try.func43, Try.ntmps43
  go_wp2_with fail
  refine H1.out.mono ?_
  rintro e w1 ⟨rfl, rfl⟩
  go_wp2
  go_ret
  exact ⟨rfl, rfl⟩
theorem quiet_leftF {P : Program} {f : FuncId} {args : Array Value} {w : World} {n : Nat} {v : Value} (h : Calls P f args (w.drewN n) fun e w' => e = .returned v ∧ w.drewN n = w') :
    Calls P f args (w.drewN n) fun e w'' => e = .returned v ∧ ∃ m, w'' = w.drewN m := h.mono fun _ _ ⟨he, hb⟩ => ⟨he, n, hb.symm⟩

set_option maxRecDepth 100000 in
set_option maxHeartbeats 8000000 in
theorem trieFronts_walk (A : Option Addr) (n cap : Nat) (l : List ByteArray) (f m : ByteArray) {w : World} (ha : StrsIn w A n cap l) (hf : f.size ≤ 140737488351232) (hm : m.size ≤ 140737488351232) :
    Calls Try.prog 11 #[.slice A n cap, .string f, .string m] w fun e w' => e = .returned (.bool true) ∧ Below w.heap.size w w' := by
  obtain ⟨hl, r, hln, hz, hnc, _, _⟩ := ha
  have hn : n ≤ 1125899906842624 := by omega
  have HF := Lib.hid (fun w (r : Reads w w.heap.size A n 1 (l.flatMap cStr)) => trieFronts_any A n cap w.heap.size l f w (by omega) hn hnc hl (fun p hp => hz p hp) r (Nat.le_refl _))
  have HG := Lib.hid (fun w (r : Reads w w.heap.size A n 1 (l.flatMap cStr)) => trieFronts_any A n cap w.heap.size l (f ++ m) w (by rw [ByteArray.size_append]; omega) hn hnc hl (fun p hp => hz p hp) r (Nat.le_refl _))
  have hca : ∀ w, (Op.stringOp .add f m).run Try.prog w = .ok (.string (f ++ m)) w := fun w => run_string_add_sum w _ _ (by omega)
  have Hl := Lib.hid hl
  have Hz := Lib.hid hz
  have h1 := Lib.hid (trieFronts_any (some ⟨w.heap.size, 0, none⟩) 3 3 (w.heap.size + 1) [⟨#[98]⟩, ⟨#[97, 98]⟩, ⟨#[97]⟩] ⟨#[]⟩ (w.alloc (Obj.cells #[.string ⟨#[98]⟩, .string ⟨#[97, 98]⟩, .string ⟨#[97]⟩] 9)) (by decide) (by decide) (Nat.le_refl _) rfl (by decide) (fresh_strsF [⟨#[98]⟩, ⟨#[97, 98]⟩, ⟨#[97]⟩] w) (by simp))
  have hb0 : RowKit.Below w.heap.size w (w.alloc (Obj.cells #[.string ⟨#[98]⟩, .string ⟨#[97, 98]⟩, .string ⟨#[97]⟩] 9)) := (Below.refl _ _).alloc (Nat.le_refl _) _
  have eg : ∀ args w, (callFunc 44 args).run Try.prog w = .ok (.enter 44 args) w := enters_of Try.func44 (by kernel_rfl) rfl
  clear hl hz
  go_enter Try.func11, Try.ntmps11
  go_wp2_with fail
  refine h1.out.mono ?_
  rintro e w1 ⟨hb1, hx⟩
  have hb1 : RowKit.Below w.heap.size w w1 := hb0.trans (hb1.mono hb0.size)
  rcases hx with ⟨hno, _⟩ | ⟨_, o, A1, c1, ho, rfl, hr1⟩
  · exact absurd fr_check hno
  obtain rfl := ho.unique fr_known
  clear ho h1 hb0
  have HE := Lib.hid (equalInt_any A1 (some ⟨w1.heap.size, 0, none⟩) 3 3 c1 3 _ _ [2, 1, 0] [2, 1, 0] _ (by decide) (by decide) rfl rfl (hr1.alloc (Nat.le_refl _) (Obj.cells #[.int .i64 2, .int .i64 1, .int .i64 0] 3)) (fresh_intsF [2, 1, 0] w1))
  have hb2 := hb1.alloc hb1.size (Obj.cells #[.int .i64 2, .int .i64 1, .int .i64 0] 3)
  clear hr1
  go_wp2_with fail
  refine HE.out.mono ?_
  rintro e w3 ⟨rfl, hb3⟩
  have hb3 := hb2.trans (hb3.mono hb2.size)
  have r3 := (r.below hb3).more hb3.size
  clear HE hb2 hb1 r
  go_wp2_with fail
  refine (HF.out _ r3).mono ?_
  rintro e w4 ⟨hb4, hx⟩
  have r4 := r3.after hb4
  have hb4 := chain hb4 hb3
  clear r3 hb3 HF
  rcases hx with ⟨hno, rfl⟩ | ⟨hc, o, A2, c2, ho, rfl, hr4⟩
  · have hbx := Blk.new w4 22 #[.slice none 0 0]
    have r5 := (r4.alloc (Nat.le_refl _) (Obj.cells #[.slice none 0 0] 22)).more (show w4.heap.size ≤ (w4.alloc (Obj.cells #[.slice none 0 0] 22)).heap.size by simp)
    have hb5 := hb4.alloc hb4.size (Obj.cells #[.slice none 0 0] 22)
    clear r4
    go_wp2_with fail
    generalize hw5 : w4.alloc (Obj.cells #[.slice none 0 0] 22) = w5 at *
    refine (HG.out _ r5).mono ?_
    rintro e w6 ⟨hb6, hx2⟩
    have hbx := hbx.after hb6
    have hb6 := chain hb6 hb5
    rcases hx2 with ⟨_, rfl⟩ | ⟨hc, _⟩
    · have q1 : (checkP l != 0) = true := by simpa using hno
      have c9 : w6.cell? ⟨w4.heap.size, 0, none⟩ = some (.slice none 0 0) := hbx.cell 0
      clear hno r5 hbx hb5 hb4 hw5
      generalize checkP l = E at *
      go_wp2
      all_goals (go_ret; exact ⟨by simp, hb6⟩)
    · exact absurd hc hno
  obtain ⟨N, hN⟩ : ∃ N, N = o.length := ⟨_, rfl⟩
  rw [← hN] at hr4 ⊢
  have hbx := Blk.new w4 22 #[.slice A2 N c2]
  have r5 := (r4.alloc (Nat.le_refl _) (Obj.cells #[.slice A2 N c2] 22)).more (show w4.heap.size ≤ (w4.alloc (Obj.cells #[.slice A2 N c2] 22)).heap.size by simp)
  have ro5 := (hr4.alloc (Nat.le_refl _) (Obj.cells #[.slice A2 N c2] 22)).more (show w4.heap.size ≤ (w4.alloc (Obj.cells #[.slice A2 N c2] 22)).heap.size by simp)
  have hb5 := hb4.alloc hb4.size (Obj.cells #[.slice A2 N c2] 22)
  have Ho := Lib.hid ho
  have HN := Lib.hid hN
  have HP := Lib.hid (checkP_zero hc)
  clear r4 hr4 ho hN
  go_wp2_with fail
  generalize w4.alloc (Obj.cells #[.slice A2 N c2] 22) = w5 at *
  refine (HG.out _ r5).mono ?_
  rintro e w6 ⟨hb6, hx2⟩
  have hbx := hbx.after hb6
  have r6 := r5.after hb6
  have ro6 := ro5.after hb6
  have hb6 := chain hb6 hb5
  clear r5 ro5 hb5 HG
  rcases hx2 with ⟨hno, _⟩ | ⟨_, o2, A3, c3, ho2, rfl, hr6⟩
  · exact absurd hc hno
  obtain ⟨M, hM⟩ : ∃ M, M = o2.length := ⟨_, rfl⟩
  rw [← hM] at hr6 ⊢
  have Ho2 := Lib.hid ho2
  have HM := Lib.hid hM
  have c9 : w6.cell? ⟨w4.heap.size, 0, none⟩ = some (.slice A2 N c2) := hbx.cell 0
  have hNn : N ≤ 10 := by have h1 := Ho.out.len; have := HP.out.1; have := HN.out; omega
  have hMn : M ≤ 10 := by have h1 := ho2.len; have := HP.out.1; omega
  have hn10 : n ≤ 10 := by rw [← Hl.out]; exact HP.out.1
  clear ho2 hM hc hca
  go_wp2
  go_loopw [13, 14, 54] (fun _ _ iv wr => ∃ i : Nat, i ≤ N ∧ iv = .int .i64 i ∧ ∃ nq, wr = w6.drewN nq) (fun _ _ iv _ => N - (intOf iv).toNat)
  case atStart => exact ⟨0, Nat.zero_le _, rfl, 0, rfl⟩
  case round =>
    obtain ⟨i, hi, rfl, nq0, rfl⟩ := hrel
    have c9 : (w6.drewN nq0).cell? ⟨w4.heap.size, 0, none⟩ = some (.slice A2 N c2) := c9
    have r6 := r6.drewN nq0
    have ro6 := ro6.drewN nq0
    have hb6 := below_drewN hb6 nq0
    by_cases hlt : i < N
    · obtain ⟨b2, o2', rfl, hbB2, hcl2⟩ := ro6.2 (by omega)
      have hcell : ∀ j, j < N → (w6.drewN nq0).cell? ⟨b2, o2' + j, none⟩ = some (.int .i64 ((o.getD j 0 : Nat) : Int)) := fun j hj => by
        have c0 := hcl2 (j * 1 + 0) (by rw [flat_length cInt 1 cInt_len, natsI_len]; have := HN.out; omega)
        rw [flat_getD cInt 1 cInt_len 0 _ j _ (by rw [natsI_len]; have := HN.out; omega) (by omega), natsI_getD _ _ (by have := HN.out; omega)] at c0
        simpa only [cInt, List.getD_cons_zero, Nat.mul_one, Nat.add_zero] using c0
      have hk1 := (Ho.out.mem (j := o.getD i 0)).1 (by rw [getD_some _ _ _ (by have := HN.out; omega)]; exact List.getElem_mem _)
      have hkn : o.getD i 0 < n := by rw [← Hl.out]; exact hk1.1
      obtain ⟨b1, o1, rfl, hbB1, _⟩ := r6.2 (by omega)
      have c1 := hcell i hlt
      have c2' := reads_cell Hl.out r6 hkn
      have hpz : (l.getD (o.getD i 0) ByteArray.empty).size ≤ 140737488351232 := Hz.out (l.getD (o.getD i 0) ByteArray.empty) (by rw [getD_some _ _ _ (by rw [Hl.out]; exact hkn)]; exact List.getElem_mem _)
      have hp := fun w => hasPrefix_any (l.getD (o.getD i 0) ByteArray.empty) f (by omega) (by omega) w
      rw [hk1.2] at hp
      have hprev : ∀ q, i = q + 1 → o.getD q 0 < n ∧ ltP l (o.getD q 0) (o.getD i 0) := fun q hq => by
        have h1 := (Ho.out.mem (j := o.getD q 0)).1 (by rw [getD_some _ _ _ (by have := HN.out; omega)]; exact List.getElem_mem _)
        refine ⟨by rw [← Hl.out]; exact h1.1, ?_⟩
        rw [getD_some _ _ _ (by have := HN.out; omega), getD_some _ _ _ (by have := HN.out; omega)]
        exact List.pairwise_iff_getElem.1 Ho.out.sorted q i _ _ (by omega)
      have Hprev := Lib.hid hprev
      have Hcell := Lib.hid hcell
      have Hr6 := Lib.hid r6
      clear hcl2 hk1 hprev hcell hpz
      have hV : ∀ m, ∃ mm, (w6.drewN nq0).drewN m = w6.drewN mm := fun m => ⟨nq0 + m, by rw [World.drewN_drewN]⟩
      have HV := hV
      generalize w6.drewN nq0 = V at *
      generalize hkk : o.getD i 0 = k at *
      clear hkk
      have q1 : decide ((k : Int) < 0) = false := decide_eq_false (by omega)
      have q2 : decide ((n : Int) ≤ (k : Int)) = false := decide_eq_false (by omega)
      have q2' : decide (n ≤ k) = false := decide_eq_false (by omega)
      have i1 : (k : Int) < n := by omega
      by_cases h0 : i = 0
      · subst h0
        rw [Nat.add_zero] at c1
        have q3 : decide ((0 : Int) < ((0 : Nat) : Int)) = false := by decide
        go_wp2_with fail
        go_quiet ((go_at_call 42; exact quiet_leftF (hp _)))
        go_wp2
        go_roundw
        case rel => exact ⟨0 + 1, by omega, by go_num, HV nq⟩
        case measure => simp [intOf]; omega
      · obtain ⟨q, hq⟩ : ∃ q, i = q + 1 := ⟨i - 1, by omega⟩
        obtain ⟨hp1, hp2⟩ := Hprev.out q hq
        have c3 := Hcell.out q (by omega)
        have c4 := reads_cell Hl.out Hr6.out hp1
        unfold ltP at hp2
        have q4 := less_is hp2
        have q3 : decide ((0 : Int) < (i : Int)) = true := decide_eq_true (by omega)
        have q3' : decide (0 < i) = true := decide_eq_true (by omega)
        have e1 : IntKind.i64.wrap ((i : Int) - 1) = (q : Int) := by rw [IntKind.wrap_i64]; omega
        have i2 : (q : Int) < N := by omega
        generalize o.getD q 0 = kp at *
        have i3 : (kp : Int) < n := by omega
        have Hq := Lib.hid hq
        clear hp2 hq h0
        generalize l.getD k ByteArray.empty = x at *
        generalize l.getD kp ByteArray.empty = y at *
        go_wp2_with fail
        go_quiet ((go_at_call 42; exact quiet_leftF (hp _)))
        go_wp2
        go_roundw
        case rel => exact ⟨i + 1, by omega, by go_num, HV nq⟩
        case measure => simp [intOf]; omega
    · obtain rfl : i = N := by omega
      have hall : ∀ x ∈ natsI o2, Calls Try.prog 44 (#[.int .i64 x] ++ #[.pointer (some ⟨w4.heap.size, 0, none⟩)]) (w6.drewN nq0) fun e w' => e = .returned (.bool false) ∧ w6.drewN nq0 = w' := fun x hx => by
        unfold natsI at hx
        obtain ⟨j, hj, rfl⟩ := List.mem_map.1 hx
        have h1 := Ho2.out.mem.1 hj
        have h2 : j ∈ o := Ho.out.mem.2 ⟨h1.1, by
          rw [preB_iff] at *
          have := h1.2
          rw [ByteArray.data_append, Array.toList_append] at this
          exact (List.prefix_append _ _).trans this⟩
        exact notIn_any w4.heap.size A2 i c2 w6.heap.size o j _ (by omega) HN.out.symm h2 c9 ro6
      have hN := Lib.hid (noneF_has 44 #[.pointer (some ⟨w4.heap.size, 0, none⟩)] A3 M c3 w6.heap.size (natsI o2) (w6.drewN nq0) (by omega) (by rw [natsI_len]; exact HM.out.symm) (hr6.drewN nq0) eg hall)
      clear hall r6 ro6
      go_wp2_with fail
      refine hN.out.mono ?_
      rintro e w7 ⟨rfl, rfl⟩
      go_wp2
      all_goals (go_ret; exact ⟨by simp, hb6⟩)
end Go.Proofs.Ytpaodbkdmiedfaa
