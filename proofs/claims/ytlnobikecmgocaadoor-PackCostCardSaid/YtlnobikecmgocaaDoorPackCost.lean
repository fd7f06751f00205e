/- PackCost's walk: the length of an encoding is the cost for the symbol frequencies. -/
import Derived.Test.YtlnobikecmgocaaDoorPackCostP
import Derived.Test.YtlnobikecmgocaaDoorPacks
import Derived.Test.YtlnobikecmgocaaDoorOwnK
import Derived.Test.YtlnobikecmgocaaDoorKeep
import Derived.Test.YtlnobikecmgocaaDoorArgs
namespace Go.Proofs.YtlnobikecmgocaaDoor
open Go.RowKit
set_option linter.unusedVariables false

def modJ (n : Nat) (l : List Int) : List Int := l.map fun k => k % (n : Int)
theorem modJ_len (n : Nat) (l : List Int) : (modJ n l).length = l.length := by simp [modJ]
theorem modJ_ok {n : Nat} (h : 0 < n) (l : List Int) : textOk n (modJ n l) := fun k hk => by
  obtain ⟨x, _, rfl⟩ := List.mem_map.1 hk
  exact ⟨Int.emod_nonneg x (by omega), Int.emod_lt_of_pos x (by omega)⟩
/-- The text. -/
def txtC (n : Nat) (q : List Int) (j : Nat) : List Int := idI n ++ modJ n (q.take j)
theorem txtC_len (n : Nat) (q : List Int) {j : Nat} (h : j ≤ q.length) : (txtC n q j).length = n + j := by
  unfold txtC
  rw [List.length_append, idI_len, modJ_len, List.length_take]; omega
theorem txtC_ok {n : Nat} (h : 0 < n) (q : List Int) (j : Nat) : textOk n (txtC n q j) := fun k hk => by
  rcases List.mem_append.1 hk with hk | hk
  · exact idI_ok n k hk
  · exact modJ_ok h _ k hk
theorem txtC_succ (n : Nat) (q : List Int) {j : Nat} (h : j < q.length) : txtC n q (j + 1) = txtC n q j ++ [q.getD j 0 % (n : Int)] := by
  unfold txtC
  rw [take_succ_getD q j 0 h, List.append_assoc]
  congr 1
  unfold modJ
  rw [List.map_append]; rfl
theorem ints_set : ∀ (l : List Int) (k : Nat) (x : Int), k < l.length → (l.set k x).flatMap cInt = (l.flatMap cInt).set k (.int .i64 x)
  | [], k, x, h => by simp at h
  | y :: l, 0, x, _ => rfl
  | y :: l, k + 1, x, h => by
    rw [List.set_cons_succ, List.flatMap_cons, List.flatMap_cons, ints_set l k x (by simpa using h)]; rfl

set_option maxRecDepth 100000 in
set_option maxHeartbeats 8000000 in
theorem packCost_walk (A : Option Addr) (n cap : Nat) (ws : List Int) (A1 : Option Addr) (n1 cap1 : Nat) (q : List Int) {w : World} (ha : IntsIn w A n cap ws) (hb : IntsIn w A1 n1 cap1 q) :
    Calls Tryd.prog 3 #[.slice A n cap, .slice A1 n1 cap1] w fun e w' => e = .returned (.bool true) ∧ Below w.heap.size w w' := by
  obtain ⟨hla, hra, hlena, _, hcapa, hma, _⟩ := ha
  obtain ⟨hlb, hrb, hlenb, hwb, hcapb, hmb, _⟩ := hb
  have G := Lib.hid (fun w => good_fresh [0, 0, 0, 0] 4 4 rfl (by decide) w 25)
  have hinfo : (Tryd.prog.info? 3).map (fun i => (i.zero, i.size, i.bytes)) = some (some (.int .i64 0), 1, 8) := by kernel_rfl
  have Hlb := Lib.hid hlb
  have hn1 : n1 ≤ 1125899906842624 := by omega
  have hn0 : n ≤ 1125899906842624 := by omega
  clear hla hlb hma hmb hwb hra
  go_enter Tryd.func3, Tryd.ntmps3
  go_wp2_with fail
  refine (packs_any _).mono ?_
  rintro e w1 ⟨rfl, hb1⟩
  go_wp2_with fail
  refine (trees_any _).mono ?_
  rintro e w2 ⟨rfl, hb2⟩
  have hb2 := chain hb2 hb1
  have rb2 := (hrb.below hb2).more hb2.size
  clear hrb hb1
  by_cases hz : n = 0
  · subst hz
    go_wp2
    all_goals (go_ret; exact ⟨by simp, hb2⟩)
  have q0 : ((n : Int) == 0) = false := by rw [beq_eq_false_iff_ne]; omega
  by_cases hbig : 12 < n
  · have q1 : decide ((12 : Int) < (n : Int)) = true := decide_eq_true (by omega)
    have q1' : decide (12 < n) = true := decide_eq_true hbig
    go_wp2
    all_goals (go_ret; exact ⟨by simp, hb2⟩)
  have q1 : decide ((12 : Int) < (n : Int)) = false := decide_eq_false (by omega)
  have q1' : decide (12 < n) = false := decide_eq_false hbig
  have hn12 : n ≤ 12 := by omega
  have hnpos : 0 < n := by omega
  go_wp2
  go_loopw [5, 6, 7, 34] (fun ov tv _ iv wr => ∃ (k : Nat) (A5 A6 : Option Addr) (c5 c6 : Nat), k ≤ n ∧ iv = .int .i64 k ∧ ov = .slice A5 k c5 ∧ tv = .slice A6 k c6 ∧ OwnK 3 1 wr (· < w2.heap.size) A5 k c5 ((List.replicate k (1 : Int)).flatMap cInt) ∧ OwnK 3 1 wr (· < w2.heap.size) A6 k c6 ((idI k).flatMap cInt) ∧ (∀ g, (Value.slice A5 k c5).ownBlock = some g → (Value.slice A6 k c6).ownBlock ≠ some g) ∧ Below w2.heap.size w2 wr) (fun _ _ _ iv _ => n - (intOf iv).toNat)
  case atStart => exact ⟨0, none, none, 0, 0, Nat.zero_le _, rfl, rfl, rfl, OwnK.nil _ _ _ _, OwnK.nil _ _ _ _, fun g hg => (by cases hg), Below.refl _ _⟩
  case round =>
    obtain ⟨k, A5, A6, c5, c6, hk, rfl, rfl, rfl, hown5, hown6, hap, hbr⟩ := hrel
    have hbs := hbr.size
    by_cases hlt : k < n
    · have hcl : ∀ j, j < 1 → (wr.alloc (Obj.cells #[.int .i64 1] 3)).cell? ((⟨wr.heap.size, 0, none⟩ : Addr).add j) = ([.int .i64 1] : List Value)[j]? := fun j hj => by
        obtain rfl : j = 0 := by omega
        rw [add_at, World.cell?_alloc_mark]; rfl
      have hk8 : k ≤ 8000000000000 := by omega
      have hk9 : (k + 1) * 8 ≤ 140737488355328 := by omega
      have hlt6 := hown6.lt
      have hlt5 := hown5.lt
      have hcl2 : ∀ (W : World) j, j < 1 → (W.alloc (Obj.cells #[.int .i64 (k : Int)] 3)).cell? ((⟨W.heap.size, 0, none⟩ : Addr).add j) = ([.int .i64 (k : Int)] : List Value)[j]? := fun W j hj => by
        obtain rfl : j = 0 := by omega
        rw [add_at, World.cell?_alloc_mark]; rfl
      have Hstep := Lib.hid (fun (A3 : Option Addr) (c3 : Nat) (w3 : World) (hg3 : (wr.alloc (Obj.cells #[.int .i64 1] 3)).grownBy w3 (Value.slice A5 k c5).ownBlock) (hp3 : ∀ g, (Value.slice A3 (k + 1) c3).ownBlock = some g → (Value.slice A5 k c5).ownBlock = some g ∨ (wr.alloc (Obj.cells #[.int .i64 1] 3)).heap.size ≤ g) =>
        show Below w2.heap.size w2 w3 ∧ OwnK 3 1 w3 (· < w2.heap.size) A6 k c6 ((idI k).flatMap cInt) ∧ (∀ g, (Value.slice A3 (k + 1) c3).ownBlock = some g → (Value.slice A6 k c6).ownBlock ≠ some g) from
        ⟨(hbr.alloc hbs _).grown hg3 (by simp; omega) (fun g hg => by have := (hlt5 g hg).1; omega),
         (hown6.alloc (Obj.cells #[.int .i64 1] 3)).grown hg3 (fun g hg => hap g hg),
         fun g hg e => by
          rcases hp3 g hg with h1 | h1
          · exact hap g h1 e
          · have := (hlt6 g e).2
            simp at h1; omega⟩)
      clear hap hbr
      go_wp2_with (first | (at_builtin; first
        | (refine wpList_append_K rfl (.tmp 37) (.tmp 38) 22 rfl (· < w2.heap.size) (.int .i64 0) 8 hinfo Tryd.underlying22 rfl (by decide) (by decide) A5 k c5 _ rfl (hown5.alloc (Obj.cells #[.int .i64 1] 3)) ⟨wr.heap.size, 0, none⟩ 1 [.int .i64 1] rfl rfl (by simp [Value.oneCell']) hcl hk9 hk8 (fun k hk => by simp; omega) ?_; intro A3 c3 w3 hown3 hg3 hp3; obtain ⟨hb3, hown6', hap3⟩ := Hstep.out A3 c3 w3 hg3 hp3; have hs3 := hb3.size)
        | (refine wpList_append_K rfl (.tmp 40) (.tmp 42) 22 rfl (· < w2.heap.size) (.int .i64 0) 8 hinfo Tryd.underlying22 rfl (by decide) (by decide) A6 k c6 _ rfl (hown6'.alloc (Obj.cells #[.int .i64 (k : Int)] 3)) ⟨w3.heap.size, 0, none⟩ 1 [.int .i64 (k : Int)] rfl rfl (by simp [Value.oneCell']) (hcl2 w3) hk9 hk8 (fun k hk => by simp; omega) ?_; intro A4 c4 w4 hown4 hg4 hp4)))
      have hlt6' := hown6'.lt
      have hlt3 := hown3.lt
      have hb4 : Below w2.heap.size w2 w4 := (hb3.alloc hs3 _).grown hg4 (by simp; omega) (fun g hg => by have := (hlt6' g hg).1; omega)
      have hown3' : OwnK 3 1 w4 (· < w2.heap.size) A3 (k + 1) c3 ((List.replicate k (1 : Int)).flatMap cInt ++ [.int .i64 1]) := (hown3.alloc (Obj.cells #[.int .i64 (k : Int)] 3)).grown hg4 (fun g hg e => hap3 g e hg)
      have hap4 : ∀ g, (Value.slice A3 (k + 1) c3).ownBlock = some g → (Value.slice A4 (k + 1) c4).ownBlock ≠ some g := fun g hg e => by
        rcases hp4 g e with h1 | h1
        · exact hap3 g hg h1
        · have := (hlt3 g hg).2
          simp at h1; omega
      have e1 : (List.replicate k (1 : Int)).flatMap cInt ++ [Value.int .i64 1] = (List.replicate (k + 1) (1 : Int)).flatMap cInt := by rw [List.replicate_succ', List.flatMap_append]; rfl
      have e2 : (idI k).flatMap cInt ++ [Value.int .i64 (k : Int)] = (idI (k + 1)).flatMap cInt := by rw [idI_succ, List.flatMap_append]; rfl
      rw [e1] at hown3'
      rw [e2] at hown4
      clear e1 e2 hown6' hown3 hap3 hg4 hp4 Hstep
      go_wp2
      go_roundw
      case rel => exact ⟨k + 1, A3, A4, c3, c4, by omega, by go_num, rfl, rfl, hown3', hown4, hap4, hb4⟩
      case measure => simp [intOf]; omega
    · obtain rfl : k = n := by omega
      clear hlt
      rw [← oft_id] at hown5
      obtain ⟨m, hm⟩ : ∃ m, m = min n1 100 := ⟨_, rfl⟩
      have hmin : ∀ (ats : Array TypeId) (t : TypeId) (w : World), (Builtin.min_ ats t #[.int .i64 (n1 : Int), .int .i64 100]).run Tryd.prog w = .ok (.int .i64 (m : Int)) w := fun ats t w => by
        rw [run_min_int2, hm]; congr 2; omega
      have hm1 : m ≤ n1 := by omega
      have hm2 : m ≤ 100 := by omega
      have hmc : m ≤ cap1 := by omega
      have hmc' : (m : Int) ≤ (cap1 : Int) := by omega
      obtain ⟨g5, o5, rfl, _, _⟩ := hown5.shape hnpos
      have e0 : txtC k q 0 = idI k := by unfold txtC modJ; simp
      rw [← e0] at hown5 hown6
      clear hm e0
      go_wp2
      clear hmin
      go_loopw [6, 9, 51] (fun tv _ iv wq => ∃ (j : Nat) (A6 : Option Addr) (c6 : Nat), j ≤ m ∧ iv = .int .i64 j ∧ tv = .slice A6 (k + j) c6 ∧ OwnK 3 1 wq (· < w2.heap.size) (some ⟨g5, o5, none⟩) k c5 ((oftT k (txtC k q j)).flatMap cInt) ∧ OwnK 3 1 wq (· < w2.heap.size) A6 (k + j) c6 ((txtC k q j).flatMap cInt) ∧ ((Value.slice A6 (k + j) c6).ownBlock ≠ some g5) ∧ Below w2.heap.size w2 wq) (fun _ _ iv _ => m - (intOf iv).toNat)
      case atStart => exact ⟨0, A6, c6, Nat.zero_le _, rfl, rfl, hown5, hown6, hap g5 rfl, hbr⟩
      case round =>
        clear hown5 hown6 hap hbr hbs
        obtain ⟨j, A6, c6, hj, rfl, rfl, hown5, hown6, hap, hbr⟩ := hrel
        have hbs := hbr.size
        by_cases hlt : j < m
        · obtain ⟨b9, o9, rfl, hbB, hcl9⟩ := (rb2.below hbr).2 (by omega)
          have c0 := hcl9 (j * 1 + 0) (by rw [flat_length cInt 1 cInt_len, Hlb.out]; omega)
          rw [flat_getD cInt 1 cInt_len 0 q j _ (by rw [Hlb.out]; omega) (by omega)] at c0
          simp only [cInt, List.getD_cons_zero, Nat.mul_one, Nat.add_zero] at c0
          have hts := txtC_succ k q (j := j) (by rw [Hlb.out]; omega)
          have htl := txtC_len k q (j := j) (by rw [Hlb.out]; omega)
          have hW := fun w => within_any (q.getD j 0) (k : Int) (by omega) (by omega) w
          obtain ⟨y, hy, hyk⟩ : ∃ y : Nat, q.getD j 0 % (k : Int) = y ∧ y < k := by
            have h1 := Int.emod_nonneg (q.getD j 0) (show (k : Int) ≠ 0 by omega)
            have h2 := Int.emod_lt_of_pos (q.getD j 0) (show 0 < (k : Int) by omega)
            exact ⟨(q.getD j 0 % (k : Int)).toNat, by omega, by omega⟩
          rw [hy] at hts hW
          have HW := Lib.hid hW
          have hcnt := cntT_le (txtC k q j) y
          rw [htl] at hcnt
          obtain ⟨c1, f1⟩ := hown5.cell y (by omega)
          have hof : ((oftT k (txtC k q j)).flatMap cInt)[y]? = some (.int .i64 ((cntT (txtC k q j) y : Nat) : Int)) := by
            have h1 := flat_getD cInt 1 cInt_len 0 (oftT k (txtC k q j)) y 0 (by rw [oftT_len]; exact hyk) (by omega)
            rw [Nat.mul_one, Nat.add_zero, oftT_getD hyk] at h1
            rw [List.getD_eq_getElem?_getD] at h1
            have h2 : y < ((oftT k (txtC k q j)).flatMap cInt).length := by rw [flat_length cInt 1 cInt_len, oftT_len]; omega
            rw [List.getElem?_eq_getElem h2] at h1 ⊢
            simp only [Option.getD_some, cInt, List.getD_cons_zero] at h1
            rw [h1]
          rw [hof] at c1
          have hstore := hown5.store y (by omega) (.int .i64 (((cntT (txtC k q j) y : Nat) : Int) + 1))
          have hsn := oftT_snoc (t := txtC k q j) hyk
          have hset : ((oftT k (txtC k q j)).flatMap cInt).set y (.int .i64 (((cntT (txtC k q j) y : Nat) : Int) + 1)) = (oftT k (txtC k q (j + 1))).flatMap cInt := by
            rw [hts, hsn, ints_set _ _ _ (by rw [oftT_len]; exact hyk)]
          rw [hset] at hstore
          have hnx : (txtC k q j).flatMap cInt ++ [Value.int .i64 (y : Int)] = (txtC k q (j + 1)).flatMap cInt := by rw [hts, List.flatMap_append]; rfl
          have hown6s := hown6.far hap (o5 + y) (.int .i64 (((cntT (txtC k q j) y : Nat) : Int) + 1))
          have hb5 : Below w2.heap.size w2 (wr.setCell ⟨g5, o5 + y, none⟩ (.int .i64 (((cntT (txtC k q j) y : Nat) : Int) + 1))) := hbr.setCell (by have := (hown5.lt g5 rfl).1; show w2.heap.size ≤ g5; omega) _
          have Hnx := Lib.hid hnx
          have iy : (y : Int) < (k : Int) := by omega
          have iy0 : (0 : Int) ≤ y := by omega
          clear hcl9 hts htl hy hof hsn hset hnx hW hown5 hown6 hbr
          generalize q.getD j 0 = x at *
          generalize cntT (txtC k q j) y = cv at *
          have w1' : IntKind.i64.wrap ((cv : Int) + 1) = (cv : Int) + 1 := by rw [IntKind.wrap_i64]; omega
          go_wp2_with fail
          refine (HW.out _).mono ?_
          rintro e w5 ⟨rfl, rfl⟩
          generalize hS : wr.setCell ⟨g5, o5 + y, none⟩ (.int .i64 ((cv : Int) + 1)) = W at *
          have hWs : W.heap.size = wr.heap.size := by rw [← hS]; exact size_setCell _ _ _
          have hcl2 : ∀ j, j < 1 → (W.alloc (Obj.cells #[.int .i64 (y : Int)] 3)).cell? ((⟨wr.heap.size, 0, none⟩ : Addr).add j) = ([.int .i64 (y : Int)] : List Value)[j]? := fun j hj => by
            obtain rfl : j = 0 := by omega
            rw [← hWs, add_at, World.cell?_alloc_mark]; rfl
          have hk8 : k + j ≤ 8000000000000 := by omega
          have hk9 : (k + j + 1) * 8 ≤ 140737488355328 := by omega
          have hlt6 := hown6s.lt
          have hlt5 := hstore.lt
          have hw2W : w2.heap.size ≤ W.heap.size := by omega
          go_wp2_with (first | (at_builtin; go_must (refine wpList_append_K rfl (.tmp 65) (.tmp 67) 22 rfl (· < w2.heap.size) (.int .i64 0) 8 hinfo Tryd.underlying22 rfl (by decide) (by decide) A6 (k + j) c6 _ rfl (hown6s.alloc (Obj.cells #[.int .i64 (y : Int)] 3)) ⟨wr.heap.size, 0, none⟩ 1 [.int .i64 (y : Int)] rfl rfl (by simp [Value.oneCell']) hcl2 hk9 hk8 (fun k hk => by simp; omega) ?_); intro A4 c4 w4 hown4 hg4 hp4))
          have hb6 : Below w2.heap.size w2 w4 := (hb5.alloc hw2W _).grown hg4 (by simp; omega) (fun g hg => by have := (hlt6 g hg).1; omega)
          have hst : OwnK 3 1 w4 (· < w2.heap.size) (some ⟨g5, o5, none⟩) k c5 ((oftT k (txtC k q (j + 1))).flatMap cInt) := (hstore.alloc (Obj.cells #[.int .i64 (y : Int)] 3)).grown hg4 (fun g hg e => by
            injection e with e
            have e' : g5 = g := e
            exact hap (by rw [hg, e']))
          have hap4 : (Value.slice A4 (k + j + 1) c4).ownBlock ≠ some g5 := fun e => by
            rcases hp4 g5 e with h1 | h1
            · exact hap h1
            · have := (hlt5 g5 rfl).2
              simp at h1; omega
          rw [Hnx.out] at hown4
          clear hown6s hstore hcl2 hg4 hp4 hb5
          go_wp2
          go_roundw
          case rel => exact ⟨j + 1, A4, c4, by omega, by go_num, rfl, hst, hown4, hap4, hb6⟩
          case measure => simp [intOf]; omega
        · obtain rfl : j = m := by omega
          have htl := txtC_len k q (j := j) (by rw [Hlb.out]; omega)
          have hto := txtC_ok hnpos q j
          have hone : ∀ i, i < k → 1 ≤ cntT (txtC k q j) i := fun i hi => by
            unfold txtC
            rw [cnt_more, cnt_id, if_pos hi]; omega
          obtain ⟨t, ht⟩ : ∃ t, t = txtC k q j := ⟨_, rfl⟩
          rw [← ht] at hown5 hown6 htl hto hone
          have hck := oft_check hn12 hone (by omega)
          have r5 := hown5.toReads
          have r6 := hown6.toReads
          have hb4 := chain hbr hb2
          obtain ⟨T, hT⟩ : ∃ T, T = k + j := ⟨_, rfl⟩
          rw [← hT] at r6 htl ⊢
          have hT2 : T ≤ 200 := by omega
          have HL := Lib.hid (treeLens_any (some ⟨g5, o5, none⟩) k c5 wr.heap.size (oftT k t) wr (by omega) (oftT_len k t) r5 (Nat.le_refl _))
          have HM := Lib.hid (fun w (r : Reads w w.heap.size (some ⟨g5, o5, none⟩) k 1 ((oftT k t).flatMap cInt)) => treeMake_any (some ⟨g5, o5, none⟩) k c5 w.heap.size (oftT k t) w (by omega) (oftT_len k t) r (Nat.le_refl _))
          have HC := Lib.hid (fun w A' m c' (o : List Int) (hm : m ≤ 1125899906842624) (ho : o.length = m) (r : Reads w w.heap.size (some ⟨g5, o5, none⟩) k 1 ((oftT k t).flatMap cInt)) (r' : Reads w w.heap.size A' m 1 (o.flatMap cInt)) => treeCost_any (some ⟨g5, o5, none⟩) k c5 w.heap.size (oftT k t) A' m c' w.heap.size o w (by omega) hm (oftT_len k t) ho r r')
          have Htl := Lib.hid htl
          have Hto := Lib.hid hto
          have Hck := Lib.hid hck
          clear ht htl hto hone hck hown5 hown6 hbr rb2 hb2 hT hap
          go_wp2_with fail
          refine HL.out.mono ?_
          rintro e w5 ⟨hb5, ⟨hno, _⟩ | ⟨_, gl, o, rfl, hok, hro⟩⟩
          · exact absurd Hck.out hno
          have r5 := r5.after hb5
          have r6 := r6.after hb5
          have hb5 := chain hb5 hb4
          have Hok := Lib.hid hok
          clear hb4 HL hok
          go_wp2_with fail
          refine (HM.out _ r5).mono ?_
          rintro e w6 ⟨hb6, ⟨hno, _⟩ | ⟨_, gm, o', M, rfl, hok', hrm, hml, hco, hfp, hlens⟩⟩
          · exact absurd Hck.out hno
          have r5 := r5.after hb6
          have r6 := r6.after hb6
          have ro := hro.after hb6
          have hb6 := chain hb6 hb5
          obtain ⟨e1, e2⟩ := lens_cost Hck.out Hok.out
          have hol : (ikN o).length = k := by rw [ikN_len, Hok.out.len, nats_len, oftT_len]
          have HC3 := Lib.hid (HC.out _ (some ⟨gl, 0, none⟩) k k (ikN o) hn0 hol r5 ro)
          rw [e1, e2] at HC3
          have hwl : wds (M.map strW) = M := by
            unfold wds
            rw [List.map_map]
            exact (List.map_congr_left fun x _ => rfl).trans (List.map_id M)
          have hLl : (M.map strW).length = k := by rw [List.length_map, hml]
          have hLz : ∀ p ∈ M.map strW, p.size ≤ 140737488351232 := fun p hp => by
            obtain ⟨x, hx, rfl⟩ := List.mem_map.1 hp
            have := hco.len x hx
            have e : (strW x).size = x.length := by unfold strW; show x.toArray.size = _; simp
            omega
          have hpok : packOk (M.map strW) t := ⟨by rw [hwl]; exact (checkC_zero _).2 hco, by rw [Htl.out]; exact hT2, by rw [hLl]; exact Hto.out⟩
          have HP := Lib.hid (packPut_any (some ⟨gm, 0, none⟩) k k w6.heap.size (M.map strW) A6 T c6 w6.heap.size t w6 (by omega) (Nat.le_refl _) hLl hLz (by omega) Htl.out hrm (Nat.le_refl _) r6 (Nat.le_refl _))
          have hlaw := pack_cost Hto.out Hok.out hok' hlens hml
          have hS : (⟨(joinW (M.map strW) t).toArray⟩ : ByteArray).size = costO (nats (oftT k t)) o := by
            rw [← hlaw]
            show (joinW (M.map strW) t).toArray.size = _
            simp
          have Hpok := Lib.hid hpok
          have HS := Lib.hid hS
          clear e1 e2 hol hwl hLl hLz hpok hlaw hS hok' hlens hml hco hfp hrm r5 r6 ro hro HC HM hb5
          generalize (⟨(joinW (M.map strW) t).toArray⟩ : ByteArray) = X at *
          generalize costO (nats (oftT k t)) o = D at *
          go_wp2_with fail
          refine HC3.out.mono ?_
          rintro e w7 ⟨rfl, rfl⟩
          go_wp2_with fail
          refine HP.out.mono ?_
          rintro e w8 ⟨hb8, ⟨_, rfl⟩ | ⟨hno, _⟩⟩
          case inr => exact absurd Hpok.out hno
          have hb8 := chain hb8 hb6
          have q9 : ((X.size : Int) == (D : Int)) = true := by rw [HS.out]; simp
          clear HP hb6
          go_wp2_with fail
          refine (G.out _).mono ?_
          rintro e w9 ⟨rfl, hb9⟩
          have hb9 := chain hb9 hb8
          go_wp2
          all_goals (go_ret; exact ⟨by simp [HS.out], hb9⟩)
end Go.Proofs.YtlnobikecmgocaaDoor
