/- PackJoins' walk: encoding is compatible with concatenation. -/
import Derived.Test.YtgoofbbbnphncaaDoorPackPut
import Derived.Test.YtgoofbbbnphncaaDoorConcatI
import Derived.Test.YtgoofbbbnphncaaDoorArgs
import Derived.Test.YtgoofbbbnphncaaDoorCodeFront
namespace Go.Proofs.YtgoofbbbnphncaaDoor
open Go.RowKit
set_option linter.unusedVariables false

theorem packFresh_strs (l : List ByteArray) (w : World) : Reads (w.alloc (Obj.cells (l.map Value.string).toArray 9)) (w.heap.size + 1) (some ⟨w.heap.size, 0, none⟩) l.length 1 (l.flatMap cStr) := by
  have h := Reads.of_fresh w (l.map Value.string).toArray 9 l.length 1 (by simp)
  have e : ∀ l : List ByteArray, (l.map Value.string).toArray.toList = l.flatMap cStr := fun l => by
    rw [List.toList_toArray]
    induction l with
    | nil => rfl
    | cons x l ih => rw [List.map_cons, List.flatMap_cons, ← ih]; rfl
  rwa [e] at h
theorem packFresh_ints (l : List Int) (w : World) : Reads (w.alloc (Obj.cells (l.map (Value.int .i64)).toArray 3)) (w.heap.size + 1) (some ⟨w.heap.size, 0, none⟩) l.length 1 (l.flatMap cInt) := by
  have h := Reads.of_fresh w (l.map (Value.int .i64)).toArray 3 l.length 1 (by simp)
  have e : ∀ l : List Int, (l.map (Value.int .i64)).toArray.toList = l.flatMap cInt := fun l => by
    rw [List.toList_toArray]
    induction l with
    | nil => rfl
    | cons x l ih => rw [List.map_cons, List.flatMap_cons, ← ih]; rfl
  rwa [e] at h
theorem packs_plain : packOk [⟨#[48]⟩, ⟨#[49, 48]⟩, ⟨#[49, 49]⟩] [1, 0, 2] ∧ (⟨(joinW [⟨#[48]⟩, ⟨#[49, 48]⟩, ⟨#[49, 49]⟩] [1, 0, 2]).toArray⟩ : ByteArray) = ⟨#[49, 48, 48, 49, 49]⟩ := by
  refine ⟨⟨by decide +kernel, by decide, fun k hk => ?_⟩, by decide +kernel⟩
  simp only [List.mem_cons, List.not_mem_nil, or_false] at hk
  rcases hk with rfl | rfl | rfl <;> decide

set_option maxRecDepth 100000 in
set_option maxHeartbeats 2000000 in
theorem packs_any (w : World) : Calls Tryd.prog 38 #[] w fun e w' => e = .returned (.bool true) ∧ Below w.heap.size w w' := by
  have P := Lib.hid packs_plain
  have r1 := packFresh_strs [⟨#[48]⟩, ⟨#[49, 48]⟩, ⟨#[49, 49]⟩] w
  have r2 := packFresh_ints [1, 0, 2] (w.alloc (Obj.cells #[.string ⟨#[48]⟩, .string ⟨#[49, 48]⟩, .string ⟨#[49, 49]⟩] 9))
  have r1' := (show Reads (w.alloc (Obj.cells #[.string ⟨#[48]⟩, .string ⟨#[49, 48]⟩, .string ⟨#[49, 49]⟩] 9)) _ _ _ _ _ from r1).alloc (by simp) (Obj.cells #[.int .i64 1, .int .i64 0, .int .i64 2] 3)
  rw [show (w.alloc (Obj.cells #[.string ⟨#[48]⟩, .string ⟨#[49, 48]⟩, .string ⟨#[49, 49]⟩] 9)).heap.size = w.heap.size + 1 from by simp] at r2
  have hP := packPut_any (some ⟨w.heap.size, 0, none⟩) 3 3 (w.heap.size + 1) [⟨#[48]⟩, ⟨#[49, 48]⟩, ⟨#[49, 49]⟩] (some ⟨w.heap.size + 1, 0, none⟩) 3 3 (w.heap.size + 1 + 1) [1, 0, 2]
    ((w.alloc (Obj.cells #[.string ⟨#[48]⟩, .string ⟨#[49, 48]⟩, .string ⟨#[49, 49]⟩] 9)).alloc (Obj.cells #[.int .i64 1, .int .i64 0, .int .i64 2] 3)) (by decide) (by decide) rfl (by decide) (by decide) rfl r1' (by simp) r2 (by simp)
  have HP := Lib.hid hP
  have hb0 : Below w.heap.size w ((w.alloc (Obj.cells #[.string ⟨#[48]⟩, .string ⟨#[49, 48]⟩, .string ⟨#[49, 49]⟩] 9)).alloc (Obj.cells #[.int .i64 1, .int .i64 0, .int .i64 2] 3)) := ((Below.refl _ _).alloc (Nat.le_refl _) _).alloc (by simp) _
  clear r1 r2 r1' hP
  go_enter Tryd.func38, Tryd.ntmps38
  go_wp2_with fail
  refine HP.out.mono ?_
  rintro e w1 ⟨hb1, ⟨_, rfl⟩ | ⟨hno, _⟩⟩
  case inr => exact absurd P.out.1 hno
  have hb := chain hb1 hb0
  rw [P.out.2]
  go_wp2
  go_ret
  exact ⟨by first | rfl | simp, hb⟩

theorem packOk_left {l : List ByteArray} {a b : List Int} (h : packOk l (a ++ b)) : packOk l a ∧ packOk l b := by
  obtain ⟨h1, h2, h3⟩ := h
  rw [List.length_append] at h2
  exact ⟨⟨h1, by omega, fun k hk => h3 k (List.mem_append_left _ hk)⟩, ⟨h1, by omega, fun k hk => h3 k (List.mem_append_right _ hk)⟩⟩

set_option maxRecDepth 100000 in
set_option maxHeartbeats 4000000 in
theorem packJoins_walk (A : Option Addr) (n cap : Nat) (l : List ByteArray) (A1 : Option Addr) (n1 cap1 : Nat) (a0 : List Int) (A2 : Option Addr) (n2 cap2 : Nat) (b0 : List Int) {w : World} (hl : StrsIn w A n cap l) (ha : IntsIn w A1 n1 cap1 a0) (hb : IntsIn w A2 n2 cap2 b0) :
    Calls Tryd.prog 8 #[.slice A n cap, .slice A1 n1 cap1, .slice A2 n2 cap2] w fun e w' => e = .returned (.bool true) ∧ Below w.heap.size w w' := by
  obtain ⟨hll, hrd, hlen, hsz, hcap, _⟩ := hl
  obtain ⟨hla, hra, hlena, _, hcapa, hma, _⟩ := ha
  obtain ⟨hlb, hrb, hlenb, _, hcapb, hmb, _⟩ := hb
  have hzz : ∀ p ∈ l, p.size ≤ 140737488351232 := fun p hp => hsz p hp
  obtain ⟨m1, hm1⟩ : ∃ m, m = min n1 90 := ⟨_, rfl⟩
  obtain ⟨m2, hm2⟩ : ∃ m, m = min n2 90 := ⟨_, rfl⟩
  obtain ⟨a, hadef⟩ : ∃ a, a = a0.take m1 := ⟨_, rfl⟩
  obtain ⟨b, hbdef⟩ : ∃ b, b = b0.take m2 := ⟨_, rfl⟩
  have hal : a.length = m1 := by rw [hadef, List.length_take]; omega
  have hbl : b.length = m2 := by rw [hbdef, List.length_take]; omega
  have cut : ∀ (A : Option Addr) (n m : Nat) (t : List Int) (w : World), t.length = n → m ≤ n → Reads w w.heap.size A n 1 (t.flatMap cInt) → Reads w w.heap.size A m 1 ((t.take m).flatMap cInt) := fun A n m t w ht hm h => by
    refine ⟨by rw [flat_length cInt 1 cInt_len, List.length_take]; omega, fun hp => ?_⟩
    obtain ⟨b, o, hA, hB, hc⟩ := h.2 (by omega)
    refine ⟨b, o, hA, hB, fun j hj => ?_⟩
    rw [flat_length cInt 1 cInt_len, List.length_take] at hj
    rw [hc j (by rw [flat_length cInt 1 cInt_len]; omega)]
    have e1 := flat_getD cInt 1 cInt_len 0 t j 0 (by omega) (by omega)
    have e2 := flat_getD cInt 1 cInt_len 0 (t.take m) j 0 (by rw [List.length_take]; omega) (by omega)
    simp only [Nat.mul_one, Nat.add_zero] at e1 e2
    have e3 : (t.take m).getD j 0 = t.getD j 0 := by
      rw [List.getD_eq_getElem?_getD, List.getElem?_take, if_pos (by omega), List.getD_eq_getElem?_getD]
    rw [e1, e2, e3]
  have ra := cut A1 n1 m1 a0 w hla (by omega) hra
  have rb := cut A2 n2 m2 b0 w hlb (by omega) hrb
  rw [← hadef] at ra
  rw [← hbdef] at rb
  have min1 : ∀ (ats : Array TypeId) (ty : TypeId) (w : World), (Builtin.min_ ats ty #[.int .i64 (n1 : Int), .int .i64 90]).run Tryd.prog w = .ok (.int .i64 (m1 : Int)) w := fun ats ty w => by
    rw [run_min_int2]; congr 2; omega
  have min2 : ∀ (ats : Array TypeId) (ty : TypeId) (w : World), (Builtin.min_ ats ty #[.int .i64 (n2 : Int), .int .i64 90]).run Tryd.prog w = .ok (.int .i64 (m2 : Int)) w := fun ats ty w => by
    rw [run_min_int2]; congr 2; omega
  have i1 : (m1 : Int) ≤ cap1 := by omega
  have i2 : (m2 : Int) ≤ cap2 := by omega
  have i1' : m1 ≤ cap1 := by omega
  have i2' : m2 ≤ cap2 := by omega
  have m1b : m1 ≤ 90 := by omega
  have m2b : m2 ≤ 90 := by omega
  have HP := Lib.hid (fun A' m c' t w (hr : Reads w w.heap.size A n 1 (l.flatMap cStr)) (hm : m ≤ 1000) (ht : t.length = m) (hrt : Reads w w.heap.size A' m 1 (t.flatMap cInt)) => packPut_any A n cap w.heap.size l A' m c' w.heap.size t w (by omega) hcap hll hzz (by omega) ht hr (Nat.le_refl _) hrt (Nat.le_refl _))
  have Hal := Lib.hid hal
  have Hbl := Lib.hid hbl
  have hj1 := joinW_app l a b
  have HJ := Lib.hid hj1
  have hjl : ∀ t, packOk l t → (joinW l t).length ≤ 12 * t.length := fun t ht => by
    have hok := (checkC_zero _).1 ht.1
    refine joinW_len (fun k => ?_) t
    rcases Nat.lt_or_ge k l.length with hk | hk
    · rw [getD_some _ _ _ hk]
      exact hok.len (wd l[k]) (mem_wds.2 (List.getElem_mem _))
    · rw [getD_none _ _ _ hk]; decide
  have HJL := Lib.hid hjl
  clear hj1 hjl hm1 hm2 hadef hbdef hal hbl cut hla hlb hra hrb hll hzz hsz hma hmb
  go_enter Tryd.func8, Tryd.ntmps8
  go_wp2_with fail
  refine (packs_any _).mono ?_
  rintro e w1 ⟨rfl, hb1⟩
  have r1 := (hrd.below hb1).more hb1.size
  have ra1 := (ra.below hb1).more hb1.size
  have rb1 := (rb.below hb1).more hb1.size
  go_wp2
  go_quiet (fail)
  clear min1 min2 i1 i2 i1' i2'
  go_wp2_with fail
  refine (HP.out A1 m1 cap1 a _ (r1.drewN _) (by omega) Hal.out (ra1.drewN _)).mono ?_
  rintro e w2 ⟨hb2, hx⟩
  have hb2 : Below w1.heap.size w1 w2 := (below_drewN (Below.refl w1.heap.size w1) nq).trans hb2
  have r2 := r1.after hb2
  have ra2 := ra1.after hb2
  have rb2 := rb1.after hb2
  have hb2 := chain hb2 hb1
  clear r1 ra1 rb1 hb1
  have main : ∀ (X : ByteArray) (E : Int), e = .returned (.tuple #[.string X, .int .i64 E]) → ((packOk l a ∧ X = ⟨(joinW l a).toArray⟩ ∧ E = 0) ∨ (¬ packOk l a ∧ E ≠ 0)) → True := fun _ _ _ _ => trivial
  obtain ⟨X, E, rfl, hX⟩ : ∃ X E, e = .returned (.tuple #[.string X, .int .i64 E]) ∧ ((packOk l a ∧ X = ⟨(joinW l a).toArray⟩ ∧ E = 0) ∨ (¬ packOk l a ∧ E ≠ 0)) := by
    rcases hx with ⟨h1, h2⟩ | ⟨h1, E, h2, h3⟩
    · exact ⟨_, _, h2, .inl ⟨h1, rfl, rfl⟩⟩
    · exact ⟨_, _, h3, .inr ⟨h1, h2⟩⟩
  clear hx main
  go_wp2_with fail
  refine (HP.out A2 m2 cap2 b _ r2 (by omega) Hbl.out rb2).mono ?_
  rintro e w3 ⟨hb3, hy⟩
  obtain ⟨Y, F, rfl, hY⟩ : ∃ X E, e = .returned (.tuple #[.string X, .int .i64 E]) ∧ ((packOk l b ∧ X = ⟨(joinW l b).toArray⟩ ∧ E = 0) ∨ (¬ packOk l b ∧ E ≠ 0)) := by
    rcases hy with ⟨h1, h2⟩ | ⟨h1, E, h2, h3⟩
    · exact ⟨_, _, h2, .inl ⟨h1, rfl, rfl⟩⟩
    · exact ⟨_, _, h3, .inr ⟨h1, h2⟩⟩
  have r3 := r2.after hb3
  have ra3 := ra2.after hb3
  have rb3 := rb2.after hb3
  have hb3 := chain hb3 hb2
  clear hy r2 ra2 rb2 hb2
  go_wp2_with fail
  have gB := Blk.new w3 54 #[.slice A1 m1 cap1, .slice A2 m2 cap2]
  refine (concatI_ok w3.heap.size 2 A1 A2 m1 m2 cap1 cap2 w3.heap.size a b Hal.out Hbl.out (by omega) (by omega) _ (ra3.alloc (Nat.le_refl _) _) (rb3.alloc (Nat.le_refl _) _) (gB.cell 0) (gB.cell 1) (by simp) (by simp)).mono ?_
  rintro e w4 ⟨A4, c4, rfl, hown4, hb4⟩
  have r4 := (r3.alloc (Nat.le_refl _) (Obj.cells #[.slice A1 m1 cap1, .slice A2 m2 cap2] 54)).below' hb4 (by simp)
  have r4 := r4.more (show w3.heap.size ≤ w4.heap.size by have := hb4.size; simp at this; omega)
  have hb4 : Below w.heap.size w w4 := (hb3.alloc hb3.size _).trans (hb4.mono (by have := hb3.size; simp; omega))
  have o4 := Reads.of_own hown4
  have hcl : (a ++ b).length = m1 + m2 := by rw [List.length_append, Hal.out, Hbl.out]
  have HP4 := HP.out A4 (m1 + m2) c4 (a ++ b) w4 r4 (by omega) hcl o4
  have HQ := Lib.hid HP4
  clear gB ra3 rb3 r3 hown4 o4 hcl HP4 HP
  go_wp2_with fail
  refine HQ.out.mono ?_
  rintro e w5 ⟨hb5, hz⟩
  have hb5 := chain hb5 hb4
  rcases hX with ⟨k1, rfl, rfl⟩ | ⟨k1, k2⟩
  · rcases hY with ⟨k3, rfl, rfl⟩ | ⟨k3, k4⟩
    · have hok : packOk l (a ++ b) := ⟨k1.1, by rw [List.length_append, Hal.out, Hbl.out]; omega, fun y hy => by
        rcases List.mem_append.1 hy with h | h
        · exact k1.2.2 y h
        · exact k3.2.2 y h⟩
      rcases hz with ⟨_, rfl⟩ | ⟨hno, _⟩
      · have s1 := HJL.out a k1
        have s2 := HJL.out b k3
        rw [Hal.out] at s1
        rw [Hbl.out] at s2
        have hca : ∀ w, (Op.stringOp .add (⟨(joinW l a).toArray⟩ : ByteArray) ⟨(joinW l b).toArray⟩).run Tryd.prog w = .ok (.string (⟨(joinW l a).toArray⟩ ++ ⟨(joinW l b).toArray⟩)) w := fun w => run_string_add_sum w _ _ (by show (joinW l a).length + (joinW l b).length ≤ _; omega)
        have hcat : (⟨(joinW l a).toArray⟩ : ByteArray) ++ ⟨(joinW l b).toArray⟩ = ⟨(joinW l (a ++ b)).toArray⟩ := str_ext (by rw [HJ.out]; simp [ByteArray.data_append])
        rw [hcat] at hca
        generalize (⟨(joinW l (a ++ b)).toArray⟩ : ByteArray) = Z at *
        generalize (⟨(joinW l a).toArray⟩ : ByteArray) = X at *
        generalize (⟨(joinW l b).toArray⟩ : ByteArray) = Y at *
        clear hcat s1 s2 k1 k3 hok
        go_wp2
        all_goals (go_ret; exact ⟨by simp, hb5⟩)
      · exact absurd hok hno
    · rcases hz with ⟨hyes, _⟩ | ⟨hno, G, hG, rfl⟩
      · exact absurd (packOk_left hyes).2 k3
      · have q1 : (F != 0) = true := by simpa using k4
        have q2 : (G != 0) = true := by simpa using hG
        clear k1 k3 hno
        go_wp2
        all_goals (go_ret; exact ⟨by simp, hb5⟩)
  · rcases hz with ⟨hyes, _⟩ | ⟨hno, G, hG, rfl⟩
    · exact absurd (packOk_left hyes).1 k1
    · have q1 : (E != 0) = true := by simpa using k2
      have q2 : (G != 0) = true := by simpa using hG
      clear k1 hno hY
      go_wp2
      all_goals (go_ret; exact ⟨by simp, hb5⟩)
end Go.Proofs.YtgoofbbbnphncaaDoor
