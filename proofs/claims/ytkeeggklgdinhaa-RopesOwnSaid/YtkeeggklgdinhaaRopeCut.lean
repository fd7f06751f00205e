/- The walk of rope.Cut. -/
import Derived.Test.YtkeeggklgdinhaaRopeWalk
import Derived.Test.YtkeeggklgdinhaaRopeOf
namespace Go.Proofs.Ytkeeggklgdinhaa
open Go.RowKit
set_option linter.unusedVariables false

/-- Two ropes are answered, and an error's number. -/
def ToldCut (w : World) (e : Ending) (w' : World) (la lb : List ByteArray) (E : Int) : Prop :=
  ∃ A n c B m d, e = .returned (.tuple #[ropeV A n c, ropeV B m d, .int .i64 E]) ∧ la.length = n ∧ lb.length = m ∧ n ≤ c ∧ m ≤ d ∧ Reads w' w'.heap.size A n 1 (la.flatMap cStr) ∧ Reads w' w'.heap.size B m 1 (lb.flatMap cStr) ∧ Below w.heap.size w w'
/-- The same, and the rows are apart, and their own. -/
def ToldCutO (w : World) (e : Ending) (w' : World) (la lb : List ByteArray) (E : Int) : Prop :=
  ∃ A n c B m d, e = .returned (.tuple #[ropeV A n c, ropeV B m d, .int .i64 E]) ∧ OwnS w' (· < w.heap.size) A n c la ∧ OwnS w' (· < w.heap.size) B m d lb ∧ (∀ k, (Value.slice A n c).ownBlock = some k → (Value.slice B m d).ownBlock ≠ some k) ∧ Below w.heap.size w w'
theorem ToldCutO.weak {w w' : World} {e : Ending} {la lb : List ByteArray} {E : Int} (h : ToldCutO w e w' la lb E) : ToldCut w e w' la lb E := by
  obtain ⟨A, n, c, B, m, d, h1, h2, h3, _, h4⟩ := h
  exact ⟨A, n, c, B, m, d, h1, h2.1, h3.1, h2.cap.1, h3.cap.1, h2.reads, h3.reads, h4⟩
def cutE (l : List ByteArray) (a : Int) : Int := if checkR l ≠ 0 then checkR l else if a < 0 ∨ ((txt l).length : Int) < a then 1 else 0

/-- Two ropes in the making. -/
structure CutSt (w : World) (h : Nat) (A : Option Addr) (n c : Nat) (la : List ByteArray) (B : Option Addr) (m d : Nat) (lb : List ByteArray) : Prop where
  x : Blk w h 24 #[.slice A n c]
  y : Blk w (h + 1) 24 #[.slice B m d]
  a : OwnS w (· < h + 2) A n c la
  b : OwnS w (· < h + 2) B m d lb
  apart : ∀ k, (Value.slice A n c).ownBlock = some k → (Value.slice B m d).ownBlock ≠ some k
section
variable {w w4 : World} {h n c m d c3 : Nat} {A B A3 : Option Addr} {la lb : List ByteArray} {x : ByteArray} {o : Obj}
theorem CutSt.addA (st : CutSt w h A n c la B m d lb) (hg4 : (w.alloc o).drew.grownBy w4 (Value.slice A n c).ownBlock) (hown4 : OwnS w4 (· < h + 2) A3 (n + 1) c3 (la ++ [x]))
    (hp4 : ∀ k, (Value.slice A3 (n + 1) c3).ownBlock = some k → (Value.slice A n c).ownBlock = some k ∨ (w.alloc o).drew.heap.size ≤ k) :
    CutSt (w4.setCell ⟨h, 0, none⟩ (.slice A3 (n + 1) c3)) h A3 (n + 1) c3 (la ++ [x]) B m d lb ∧ Kept (· < h) w (w4.setCell ⟨h, 0, none⟩ (.slice A3 (n + 1) c3)) := by
  obtain ⟨hx, hy, ha, hb, hap⟩ := st
  have hbz : Below w.heap.size w (w.alloc o).drew := ((Below.refl w.heap.size w).alloc (Nat.le_refl _) _).drew
  have hwz : (w.alloc o).drew.heap.size = w.heap.size + 1 := by show (w.alloc _).heap.size = _; simp
  have hX := Blk.grown (w := (w.alloc o).drew) (hx.alloc o) hg4 (ha.ne_blk hx (by decide))
  have hY := Blk.grown (w := (w.alloc o).drew) (hy.alloc o) hg4 (ha.ne_blk hy (by decide))
  have hB4 := (hb.after hbz).grown hg4 (fun k hk hq => hap k hk hq)
  refine ⟨⟨hX.set_ 0 _, hY.far (by show h + 1 ≠ h; omega) _, hown4.far (hown4.ne_blk hX (by decide)) 0 _, hB4.far (hB4.ne_blk hX (by decide)) 0 _, fun k hk hq => ?_⟩, ?_⟩
  · rcases hp4 k hk with h' | h'
    · exact hap k h' hq
    · have := (hb.lt k hq).2; omega
  · exact ((Kept.of_below hbz (fun k hk => by have := hx.lt; omega)).trans (Kept.of_grown hg4 (fun k hk => by have := hx.lt; omega) (fun k hk hq => (ha.lt k hk).1 (by omega)))).set (by omega) 0 _
theorem CutSt.addB (st : CutSt w h A n c la B m d lb) (hg4 : (w.alloc o).drew.grownBy w4 (Value.slice B m d).ownBlock) (hown4 : OwnS w4 (· < h + 2) A3 (m + 1) c3 (lb ++ [x]))
    (hp4 : ∀ k, (Value.slice A3 (m + 1) c3).ownBlock = some k → (Value.slice B m d).ownBlock = some k ∨ (w.alloc o).drew.heap.size ≤ k) :
    CutSt (w4.setCell ⟨h + 1, 0, none⟩ (.slice A3 (m + 1) c3)) h A n c la A3 (m + 1) c3 (lb ++ [x]) ∧ Kept (· < h) w (w4.setCell ⟨h + 1, 0, none⟩ (.slice A3 (m + 1) c3)) := by
  obtain ⟨hx, hy, ha, hb, hap⟩ := st
  have hbz : Below w.heap.size w (w.alloc o).drew := ((Below.refl w.heap.size w).alloc (Nat.le_refl _) _).drew
  have hwz : (w.alloc o).drew.heap.size = w.heap.size + 1 := by show (w.alloc _).heap.size = _; simp
  have hX := Blk.grown (w := (w.alloc o).drew) (hx.alloc o) hg4 (hb.ne_blk hx (by decide))
  have hY := Blk.grown (w := (w.alloc o).drew) (hy.alloc o) hg4 (hb.ne_blk hy (by decide))
  have hA4 := (ha.after hbz).grown hg4 (fun k hk hq => hap k hq hk)
  refine ⟨⟨hX.far (by show h ≠ h + 1; omega) _, hY.set_ 0 _, hA4.far (hA4.ne_blk hY (by decide)) 0 _, hown4.far (hown4.ne_blk hY (by decide)) 0 _, fun k hk hq => ?_⟩, ?_⟩
  · rcases hp4 k hq with h' | h'
    · exact hap k hk h'
    · have := (ha.lt k hk).2; omega
  · exact ((Kept.of_below hbz (fun k hk => by have := hx.lt; omega)).trans (Kept.of_grown hg4 (fun k hk => by have := hx.lt; omega) (fun k hk hq => (hb.lt k hk).1 (by omega)))).set (by omega) 0 _
end

set_option maxHeartbeats 8000000 in
theorem cut_own (A : Option Addr) (n c B : Nat) (l : List ByteArray) (m : Int) (hm : -9223372036854775808 ≤ m ∧ m ≤ 9223372036854775807) (hl : l.length = n) (hnc : n ≤ c) (hn : n ≤ 1000000000000000) (hz : ∀ p ∈ l, p.size ≤ 140737488355328) (w : World) (r : Reads w B A n 1 (l.flatMap cStr)) (hB : B ≤ w.heap.size) :
    Calls Try.prog 6 #[ropeV A n c, .int .i64 m] w fun e w' => ToldCutO w e w' (if cutE l m = 0 then cutA m.toNat l else []) (if cutE l m = 0 then cutB m.toNat l else []) (cutE l m) := by
  obtain ⟨E, hE⟩ : ∃ E, E = cutE l m := ⟨_, rfl⟩
  obtain ⟨L1, hL1⟩ : ∃ L, L = if cutE l m = 0 then cutA m.toNat l else [] := ⟨_, rfl⟩
  obtain ⟨L2, hL2⟩ : ∃ L, L = if cutE l m = 0 then cutB m.toNat l else [] := ⟨_, rfl⟩
  rw [← hL1, ← hL2, ← hE]
  rw [← hE] at hL1 hL2
  have hb0 : Below w.heap.size w (((w.alloc (Obj.cells #[.slice A n c] 24)).alloc (Obj.cells #[.slice none 0 0] 24)).alloc (Obj.cells #[.slice none 0 0] 24)) := (((Below.refl _ _).alloc (Nat.le_refl _) _).alloc (by simp) _).alloc (by simp; omega) _
  have g0 : Blk (((w.alloc (Obj.cells #[.slice A n c] 24)).alloc (Obj.cells #[.slice none 0 0] 24)).alloc (Obj.cells #[.slice none 0 0] 24)) w.heap.size 24 #[.slice A n c] := ((Blk.new w _ _).alloc _).alloc _
  have g1 : Blk (((w.alloc (Obj.cells #[.slice A n c] 24)).alloc (Obj.cells #[.slice none 0 0] 24)).alloc (Obj.cells #[.slice none 0 0] 24)) (w.heap.size + 1) 24 #[.slice none 0 0] := by
    have := (Blk.new (w.alloc (Obj.cells #[.slice A n c] 24)) 24 #[.slice none 0 0]).alloc (Obj.cells #[.slice none 0 0] 24)
    rwa [show (w.alloc (Obj.cells #[.slice A n c] 24)).heap.size = w.heap.size + 1 from by simp] at this
  have g2 : Blk (((w.alloc (Obj.cells #[.slice A n c] 24)).alloc (Obj.cells #[.slice none 0 0] 24)).alloc (Obj.cells #[.slice none 0 0] 24)) (w.heap.size + 1 + 1) 24 #[.slice none 0 0] := by
    have := Blk.new ((w.alloc (Obj.cells #[.slice A n c] 24)).alloc (Obj.cells #[.slice none 0 0] 24)) 24 #[.slice none 0 0]
    rwa [show ((w.alloc (Obj.cells #[.slice A n c] 24)).alloc (Obj.cells #[.slice none 0 0] 24)).heap.size = w.heap.size + 1 + 1 from by simp] at this
  by_cases hc0 : checkR l = 0
  case neg =>
    have hE2 : E = checkR l := by rw [hE]; unfold cutE; rw [if_pos hc0]
    obtain rfl : L1 = [] := by rw [hL1, hE2, if_neg hc0]
    obtain rfl : L2 = [] := by rw [hL2, hE2, if_neg hc0]
    clear hE hL1 hL2
    subst hE2
    have ht := text_no A n c B l hl hn hz _ (r.below (hb0.mono hB)) (Nat.le_trans hB hb0.size) hc0
    have q1 : (checkR l != 0) = true := by simpa using hc0
    generalize checkR l = E at *
    have Ht := Lib.hid ht
    clear ht r hl hz hc0
    go_enter Try.func6, Try.ntmps6
    go_wp2_with fail
    refine Ht.out.mono ?_
    rintro e w2 ⟨rfl, hb2⟩
    have k1 := g1.after hb2
    have k2 := g2.after hb2
    have c1 : w2.cell? ⟨w.heap.size + 1, 0, none⟩ = some (.slice none 0 0) := k1.cell 0
    have c2 : w2.cell? ⟨w.heap.size + 1 + 1, 0, none⟩ = some (.slice none 0 0) := k2.cell 0
    have f1 : w2.frozen? ⟨w.heap.size + 1, 0, none⟩ = false := k1.frozen 0
    have f2 : w2.frozen? ⟨w.heap.size + 1 + 1, 0, none⟩ = false := k2.frozen 0
    go_wp2
    have x1 : ((w2.setCell ⟨w.heap.size + 1, 0, none⟩ (.slice none 0 0)).setCell ⟨w.heap.size + 1 + 1, 0, none⟩ (.slice none 0 0)).cell? ⟨w.heap.size + 1, 0, none⟩ = some (.slice none 0 0) := ((k1.set_ 0 (.slice none 0 0)).far (p := ⟨w.heap.size + 1 + 1, 0, none⟩) (by show w.heap.size + 1 ≠ w.heap.size + 1 + 1; omega) (.slice none 0 0)).cell 0
    have x2 : ((w2.setCell ⟨w.heap.size + 1, 0, none⟩ (.slice none 0 0)).setCell ⟨w.heap.size + 1 + 1, 0, none⟩ (.slice none 0 0)).cell? ⟨w.heap.size + 1 + 1, 0, none⟩ = some (.slice none 0 0) := ((k2.far (p := ⟨w.heap.size + 1, 0, none⟩) (by show w.heap.size + 1 + 1 ≠ w.heap.size + 1; omega) (.slice none 0 0)).set_ 0 (.slice none 0 0)).cell 0
    refine bodyPost_ret (by simp [results, Try.results6, go_sem, x1, x2]; try rfl) rfl ?_
    exact ⟨none, 0, 0, none, 0, 0, rfl, OwnS.nil _ _, OwnS.nil _ _, (fun k hk => by cases hk), ((chain hb2 hb0).setCell (by show w.heap.size ≤ w.heap.size + 1; omega) _).setCell (by show w.heap.size ≤ w.heap.size + 1 + 1; omega) _⟩
  obtain ⟨k60, kne, k200⟩ := (checkR_iff l).1 hc0
  have hn60 : n ≤ 60 := by omega
  have ht := text_ok A n c B l hl hnc hz _ (r.below (hb0.mono hB)) (Nat.le_trans hB hb0.size) hc0
  have hTs : (⟨(txt l).toArray⟩ : ByteArray).size = (txt l).length := by simp [ByteArray.size]
  generalize (⟨(txt l).toArray⟩ : ByteArray) = T at *
  by_cases hbad : m < 0 ∨ ((txt l).length : Int) < m
  · have hE2 : E = 1 := by rw [hE]; unfold cutE; rw [if_neg (fun h => h hc0), if_pos hbad]
    obtain rfl : L1 = [] := by rw [hL1, hE2]; rfl
    obtain rfl : L2 = [] := by rw [hL2, hE2]; rfl
    clear hE hL1 hL2
    subst hE2
    have q : decide (m < 0) = true ∨ (decide (m < 0) = false ∧ decide ((T.size : Int) < m) = true) := by
      rcases hbad with h | h
      · exact .inl (decide_eq_true h)
      · exact .inr ⟨decide_eq_false (by omega), decide_eq_true (by omega)⟩
    have Ht := Lib.hid ht
    clear ht r hl hz hc0 k60 kne k200 hbad hTs
    rcases q with q1 | ⟨q1, q2⟩
    all_goals
      go_enter Try.func6, Try.ntmps6
      go_wp2_with fail
      refine Ht.out.mono ?_
      rintro e w2 ⟨rfl, hb2⟩
      have k1 := g1.after hb2
      have k2 := g2.after hb2
      have c1 : w2.cell? ⟨w.heap.size + 1, 0, none⟩ = some (.slice none 0 0) := k1.cell 0
      have c2 : w2.cell? ⟨w.heap.size + 1 + 1, 0, none⟩ = some (.slice none 0 0) := k2.cell 0
      have f1 : w2.frozen? ⟨w.heap.size + 1, 0, none⟩ = false := k1.frozen 0
      have f2 : w2.frozen? ⟨w.heap.size + 1 + 1, 0, none⟩ = false := k2.frozen 0
      go_wp2
      have x1 : ((w2.setCell ⟨w.heap.size + 1, 0, none⟩ (.slice none 0 0)).setCell ⟨w.heap.size + 1 + 1, 0, none⟩ (.slice none 0 0)).cell? ⟨w.heap.size + 1, 0, none⟩ = some (.slice none 0 0) := ((k1.set_ 0 (.slice none 0 0)).far (p := ⟨w.heap.size + 1 + 1, 0, none⟩) (by show w.heap.size + 1 ≠ w.heap.size + 1 + 1; omega) (.slice none 0 0)).cell 0
      have x2 : ((w2.setCell ⟨w.heap.size + 1, 0, none⟩ (.slice none 0 0)).setCell ⟨w.heap.size + 1 + 1, 0, none⟩ (.slice none 0 0)).cell? ⟨w.heap.size + 1 + 1, 0, none⟩ = some (.slice none 0 0) := ((k2.far (p := ⟨w.heap.size + 1, 0, none⟩) (by show w.heap.size + 1 + 1 ≠ w.heap.size + 1; omega) (.slice none 0 0)).set_ 0 (.slice none 0 0)).cell 0
      refine bodyPost_ret (by simp [results, Try.results6, go_sem, x1, x2]; try rfl) rfl ?_
      exact ⟨none, 0, 0, none, 0, 0, rfl, OwnS.nil _ _, OwnS.nil _ _, (fun k hk => by cases hk), ((chain hb2 hb0).setCell (by show w.heap.size ≤ w.heap.size + 1; omega) _).setCell (by show w.heap.size ≤ w.heap.size + 1 + 1; omega) _⟩
  obtain ⟨a, rfl⟩ : ∃ a : Nat, m = a := ⟨m.toNat, by omega⟩
  have hE2 : E = 0 := by rw [hE]; unfold cutE; rw [if_neg (fun h => h hc0), if_neg hbad]
  have HL1 : Hid (L1 = cutA a l) := Lib.hid (by rw [hL1, hE2]; rfl)
  have HL2 : Hid (L2 = cutB a l) := Lib.hid (by rw [hL2, hE2]; rfl)
  clear hE hL1 hL2
  subst hE2
  have q1 : decide ((a : Int) < 0) = false := decide_eq_false (by omega)
  have q2 : decide ((T.size : Int) < (a : Int)) = false := decide_eq_false (by omega)
  have q2' : decide (T.size < a) = false := decide_eq_false (by omega)
  have ha200 : a ≤ 200 := by omega
  have hzz : ∀ p ∈ l, p.size ≤ 200 := fun p hp => by
    have : p.size ≤ (txt l).length := by
      obtain ⟨a, b, rfl⟩ := List.append_of_mem hp
      rw [txt_append, txt_cons, List.length_append, List.length_append, dlen]; omega
    omega
  have Hz := Lib.hid hzz
  have Hl := Lib.hid hl
  have Ht := Lib.hid ht
  clear ht hl hz hc0 k60 kne k200 hbad hTs hzz
  go_enter Try.func6, Try.ntmps6
  go_wp2_with fail
  refine Ht.out.mono ?_
  rintro e w2 ⟨rfl, hb2⟩
  have k0 := g0.after hb2
  have k1 := g1.after hb2
  have k2 := g2.after hb2
  have c0 : w2.cell? ⟨w.heap.size, 0, none⟩ = some (.slice A n c) := k0.cell 0
  have c0' : ((w2.alloc (Obj.cells #[.slice none 0 0] 24)).alloc (Obj.cells #[.slice none 0 0] 24)).cell? ⟨w.heap.size, 0, none⟩ = some (.slice A n c) := ((k0.alloc _).alloc _).cell 0
  have hbw := chain hb2 hb0
  have hk2 := k2.lt
  have hS : CutSt ((w2.alloc (Obj.cells #[.slice none 0 0] 24)).alloc (Obj.cells #[.slice none 0 0] 24)) w2.heap.size none 0 0 [] none 0 0 [] := by
    refine ⟨(Blk.new w2 _ _).alloc _, ?_, OwnS.nil _ _, OwnS.nil _ _, fun k hk => by cases hk⟩
    have := Blk.new (w2.alloc (Obj.cells #[.slice none 0 0] 24)) 24 #[.slice none 0 0]
    rwa [show (w2.alloc (Obj.cells #[.slice none 0 0] 24)).heap.size = w2.heap.size + 1 from by simp] at this
  have hk3 : Kept (· < w2.heap.size) w2 ((w2.alloc (Obj.cells #[.slice none 0 0] 24)).alloc (Obj.cells #[.slice none 0 0] 24)) := Kept.of_below (((Below.refl _ _).alloc (Nat.le_refl _) _).alloc (by simp) _) (fun k hk => hk)
  clear hb2 hb0 g0 g1 g2 Ht
  go_wp2
  clear c0 c0'
  generalize ((w2.alloc (Obj.cells #[.slice none 0 0] 24)).alloc (Obj.cells #[.slice none 0 0] 24)) = w3 at *
  generalize w2.heap.size = h at *
  go_loopw [1, 12, 13, 37] (fun av pv nv iv wr => ∃ (k j : Nat) (Aa : Option Addr) (na ca : Nat) (la : List ByteArray) (Ab : Option Addr) (nb cb : Nat) (lb : List ByteArray), k ≤ n ∧ j ≤ 200 ∧ na ≤ k ∧ nb ≤ k ∧ av = .int .i64 j ∧ iv = .int .i64 k ∧ CutSt wr h Aa na ca la Ab nb cb lb ∧ Kept (· < h) w2 wr ∧ Hid (L1 = la ++ cutA j (l.drop k)) ∧ Hid (L2 = lb ++ cutB j (l.drop k))) (fun _ _ _ iv _ => n - (intOf iv).toNat)
  case atStart => exact ⟨0, a, none, 0, 0, [], none, 0, 0, [], Nat.zero_le _, ha200, Nat.zero_le _, Nat.zero_le _, rfl, rfl, hS, hk3, HL1, HL2⟩
  case round =>
    obtain ⟨k, j, Aa, na, ca, la, Ab, nb, cb, lb, hk, hj, hna, hnb, rfl, rfl, st, hkp, H1, H2⟩ := hrel
    have hbr : Below w.heap.size w wr := hbw.trans (hkp.weak (fun k hk => by omega)).below
    by_cases hlt : k < n
    · obtain ⟨b, o, rfl, hbB, hc⟩ := (r.below' hbr hB).2 (by omega)
      have c0 := hc (k * 1 + 0) (by rw [flat_length cStr 1 cStr_len, Hl.out]; omega)
      rw [flat_getD cStr 1 cStr_len ByteArray.empty l k _ (by rw [Hl.out]; omega) (by omega)] at c0
      simp only [cStr, List.getD_cons_zero, Nat.mul_one, Nat.add_zero] at c0
      have hd := drop_getD l k ByteArray.empty (by rw [Hl.out]; omega)
      have hmem : l.getD k ByteArray.empty ∈ l := by rw [getD_some _ _ _ (by rw [Hl.out]; omega)]; exact List.getElem_mem _
      have hts : (l.getD k ByteArray.empty).size ≤ 200 := Hz.out _ hmem
      have Hd := Lib.hid hd
      clear hc hd hmem
      generalize l.getD k ByteArray.empty = t at *
      obtain ⟨q, hq⟩ : ∃ q, q = min j t.size := ⟨_, rfl⟩
      have hmx : max (0 : Int) (min (j : Int) (t.size : Int)) = (q : Int) := by omega
      have hq1 : q ≤ t.size := by omega
      have hqj : q ≤ j := by omega
      have hqt : (q : Int) ≤ (t.size : Int) := by omega
      have hqj' : IntKind.i64.wrap ((j : Int) - (q : Int)) = ((j - q : Nat) : Int) := by rw [IntKind.wrap_i64] <;> omega
      have hA : cutA j (l.drop k) = (if 0 < q then [t.extract 0 q] else []) ++ cutA (j - q) (l.drop (k + 1)) := by
        rw [Hd.out, cutA, ← hq]; split <;> rfl
      have hB : cutB j (l.drop k) = (if q < t.size then [t.extract q t.size] else []) ++ cutB (j - q) (l.drop (k + 1)) := by
        rw [Hd.out, cutB, ← hq]; split <;> rfl
      rw [hA, ← List.append_assoc] at H1
      rw [hB, ← List.append_assoc] at H2
      clear hq hA hB
      by_cases hz1 : 0 < q
      · have p1 : decide ((0 : Int) < (q : Int)) = true := decide_eq_true (by omega)
        rw [if_pos hz1] at H1
        go_wp2
        have cX : wr.cell? ⟨h, 0, none⟩ = some (.slice Aa na ca) := st.x.cell 0
        have fX : wr.frozen? ⟨h, 0, none⟩ = false := st.x.frozen 0
        have hne : (Value.slice Aa na ca).ownBlock ≠ some h := st.a.ne_blk st.x (by decide)
        have hZ : Blk (wr.alloc (Obj.cells #[.string (t.extract 0 q)] 9)).drew h 24 #[.slice Aa na ca] := st.x.alloc (Obj.cells #[.string (t.extract 0 q)] 9)
        have hnw : (wr.alloc (Obj.cells #[.string (t.extract 0 q)] 9)).drew.cell? ⟨wr.heap.size, 0, none⟩ = some (.string (t.extract 0 q)) := by
          show (wr.alloc _).cell? _ = _
          rw [World.cell?_alloc_mark]; rfl
        have cZ : (wr.alloc (Obj.cells #[.string (t.extract 0 q)] 9)).cell? ⟨h, 0, none⟩ = some (.slice Aa na ca) := hZ.cell 0
        have hn8 : na ≤ 8000000000000 := by omega
        have hKl : ∀ k, k < h + 2 → k < (wr.alloc (Obj.cells #[.string (t.extract 0 q)] 9)).drew.heap.size := fun k hk => by have := st.y.lt; show k < (wr.alloc _).heap.size; simp; omega
        go_region_law ((refine step_append_S rfl (.tmp 49) (.tmp 53) 22 rfl (· < h + 2) infoStrE Try.underlying22 Aa na ca la (by simp [Act.eval]) (st.a.alloc _) ⟨wr.heap.size, 0, none⟩ 1 (t.extract 0 q) (by simp [Act.eval]) hnw rfl hn8 hKl ?_; intro A3 c3 w4 hown4 hg4 hp4; have y2 := (Blk.grown hZ hg4 hne).cell 0; have yf := (Blk.grown hZ hg4 hne).frozen 0))
        all_goals
          obtain ⟨st5, hk5⟩ := st.addA hg4 hown4 hp4
          have hkp5 := hkp.trans hk5
          have c05 : (w4.setCell ⟨h, 0, none⟩ (.slice A3 (na + 1) c3)).cell? ⟨b, o + k, none⟩ = some (.string t) := (hk5.below.cell (by show b < h; omega)).trans c0
          clear hZ hg4 hp4 hown4 y2 yf hnw hne cX fX cZ hn8 hKl hkp hk5 st
          generalize w4.setCell ⟨h, 0, none⟩ (.slice A3 (na + 1) c3) = w5 at *
          by_cases hz2 : q < t.size
          · have p2 : decide ((q : Int) < (t.size : Int)) = true := decide_eq_true (by omega)
            rw [if_pos hz2] at H2
            go_wp2
            have st := st5
            have cX : w5.cell? ⟨h + 1, 0, none⟩ = some (.slice Ab nb cb) := st.y.cell 0
            have fX : w5.frozen? ⟨h + 1, 0, none⟩ = false := st.y.frozen 0
            have hne : (Value.slice Ab nb cb).ownBlock ≠ some (h + 1) := st.b.ne_blk st.y (by decide)
            have hZ : Blk (w5.alloc (Obj.cells #[.string (t.extract q t.size)] 9)).drew (h + 1) 24 #[.slice Ab nb cb] := st.y.alloc (Obj.cells #[.string (t.extract q t.size)] 9)
            have hnw : (w5.alloc (Obj.cells #[.string (t.extract q t.size)] 9)).drew.cell? ⟨w5.heap.size, 0, none⟩ = some (.string (t.extract q t.size)) := by
              show (w5.alloc _).cell? _ = _
              rw [World.cell?_alloc_mark]; rfl
            have cZ : (w5.alloc (Obj.cells #[.string (t.extract q t.size)] 9)).cell? ⟨h + 1, 0, none⟩ = some (.slice Ab nb cb) := hZ.cell 0
            have hn8 : nb ≤ 8000000000000 := by omega
            have hKl : ∀ k, k < h + 2 → k < (w5.alloc (Obj.cells #[.string (t.extract q t.size)] 9)).drew.heap.size := fun k hk => by have := st.y.lt; show k < (w5.alloc _).heap.size; simp; omega
            go_region_law ((refine step_append_S rfl (.tmp 61) (.tmp 65) 22 rfl (· < h + 2) infoStrE Try.underlying22 Ab nb cb lb (by simp [Act.eval]) (st.b.alloc _) ⟨w5.heap.size, 0, none⟩ 1 (t.extract q t.size) (by simp [Act.eval]) hnw rfl hn8 hKl ?_; intro A3 c3 w4 hown4 hg4 hp4; have y2 := (Blk.grown hZ hg4 hne).cell 0; have yf := (Blk.grown hZ hg4 hne).frozen 0))
            all_goals
              obtain ⟨st6, hk6⟩ := st.addB hg4 hown4 hp4
              have hkp6 := hkp5.trans hk6
              clear hZ hg4 hp4 hown4 y2 yf hnw hne cX fX cZ hn8 hKl hkp5 hk6 st st5
              generalize w4.setCell ⟨h + 1, 0, none⟩ _ = w6 at *
              go_wp2
              go_roundw
              case rel => exact ⟨k + 1, j - q, _, _, _, _, _, _, _, _, by omega, by omega, by omega, by omega, by go_num, by go_num, st6, hkp6, H1, H2⟩
              case measure => simp only [intOf]; omega
          · have p2 : decide ((q : Int) < (t.size : Int)) = false := decide_eq_false (by omega)
            rw [if_neg hz2, List.append_nil] at H2
            go_wp2
            go_roundw
            case rel => exact ⟨k + 1, j - q, _, _, _, _, _, _, _, _, by omega, by omega, by omega, by omega, by go_num, by go_num, st5, hkp5, H1, H2⟩
            case measure => simp only [intOf]; omega
      · have p1 : decide ((0 : Int) < (q : Int)) = false := decide_eq_false (by omega)
        rw [if_neg hz1, List.append_nil] at H1
        by_cases hz2 : q < t.size
        · have p2 : decide ((q : Int) < (t.size : Int)) = true := decide_eq_true (by omega)
          rw [if_pos hz2] at H2
          go_wp2
          have cX : wr.cell? ⟨h + 1, 0, none⟩ = some (.slice Ab nb cb) := st.y.cell 0
          have fX : wr.frozen? ⟨h + 1, 0, none⟩ = false := st.y.frozen 0
          have hne : (Value.slice Ab nb cb).ownBlock ≠ some (h + 1) := st.b.ne_blk st.y (by decide)
          have hZ : Blk (wr.alloc (Obj.cells #[.string (t.extract q t.size)] 9)).drew (h + 1) 24 #[.slice Ab nb cb] := st.y.alloc (Obj.cells #[.string (t.extract q t.size)] 9)
          have hnw : (wr.alloc (Obj.cells #[.string (t.extract q t.size)] 9)).drew.cell? ⟨wr.heap.size, 0, none⟩ = some (.string (t.extract q t.size)) := by
            show (wr.alloc _).cell? _ = _
            rw [World.cell?_alloc_mark]; rfl
          have cZ : (wr.alloc (Obj.cells #[.string (t.extract q t.size)] 9)).cell? ⟨h + 1, 0, none⟩ = some (.slice Ab nb cb) := hZ.cell 0
          have hn8 : nb ≤ 8000000000000 := by omega
          have hKl : ∀ k, k < h + 2 → k < (wr.alloc (Obj.cells #[.string (t.extract q t.size)] 9)).drew.heap.size := fun k hk => by have := st.y.lt; show k < (wr.alloc _).heap.size; simp; omega
          go_region_law ((refine step_append_S rfl (.tmp 61) (.tmp 65) 22 rfl (· < h + 2) infoStrE Try.underlying22 Ab nb cb lb (by simp [Act.eval]) (st.b.alloc _) ⟨wr.heap.size, 0, none⟩ 1 (t.extract q t.size) (by simp [Act.eval]) hnw rfl hn8 hKl ?_; intro A3 c3 w4 hown4 hg4 hp4; have y2 := (Blk.grown hZ hg4 hne).cell 0; have yf := (Blk.grown hZ hg4 hne).frozen 0))
          all_goals
            obtain ⟨st6, hk6⟩ := st.addB hg4 hown4 hp4
            have hkp6 := hkp.trans hk6
            clear hZ hg4 hp4 hown4 y2 yf hnw hne cX fX cZ hn8 hKl hkp hk6 st
            generalize w4.setCell ⟨h + 1, 0, none⟩ _ = w6 at *
            go_wp2
            go_roundw
            case rel => exact ⟨k + 1, j - q, _, _, _, _, _, _, _, _, by omega, by omega, by omega, by omega, by go_num, by go_num, st6, hkp6, H1, H2⟩
            case measure => simp only [intOf]; omega
        · have p2 : decide ((q : Int) < (t.size : Int)) = false := decide_eq_false (by omega)
          rw [if_neg hz2, List.append_nil] at H2
          go_wp2
          go_roundw
          case rel => exact ⟨k + 1, j - q, _, _, _, _, _, _, _, _, by omega, by omega, by omega, by omega, by go_num, by go_num, st, hkp, H1, H2⟩
          case measure => simp only [intOf]; omega
    · obtain rfl : k = n := by omega
      have e1 : L1 = la := by rw [H1.out, List.drop_of_length_le (by rw [Hl.out]; exact Nat.le_refl _)]; simp [cutA]
      have e2 : L2 = lb := by rw [H2.out, List.drop_of_length_le (by rw [Hl.out]; exact Nat.le_refl _)]; simp [cutB]
      have E1 := Lib.hid e1
      have E2 := Lib.hid e2
      have z1 : Blk wr (w.heap.size + 1) 24 #[.slice none 0 0] := (hkp.block _ (by omega)).trans k1
      have z2 : Blk wr (w.heap.size + 1 + 1) 24 #[.slice none 0 0] := (hkp.block _ (by omega)).trans k2
      have f1 : wr.frozen? ⟨w.heap.size + 1, 0, none⟩ = false := z1.frozen 0
      have f2 : wr.frozen? ⟨w.heap.size + 1 + 1, 0, none⟩ = false := z2.frozen 0
      have cX : wr.cell? ⟨h, 0, none⟩ = some (.slice Aa na ca) := st.x.cell 0
      have cY : wr.cell? ⟨h + 1, 0, none⟩ = some (.slice Ab nb cb) := st.y.cell 0
      have ne1 : w.heap.size + 1 ≠ h + 1 := by omega
      have cY1 : (wr.setCell ⟨w.heap.size + 1, 0, none⟩ (.slice Aa na ca)).cell? ⟨h + 1, 0, none⟩ = some (.slice Ab nb cb) := (st.y.far (p := ⟨w.heap.size + 1, 0, none⟩) (by show h + 1 ≠ w.heap.size + 1; omega) _).cell 0
      have cX1 : (wr.setCell ⟨w.heap.size + 1 + 1, 0, none⟩ (.slice Ab nb cb)).cell? ⟨h, 0, none⟩ = some (.slice Aa na ca) := (st.x.far (p := ⟨w.heap.size + 1 + 1, 0, none⟩) (by show h ≠ w.heap.size + 1 + 1; omega) _).cell 0
      have d1 : wr.cell? ⟨w.heap.size + 1, 0, none⟩ = some (.slice none 0 0) := z1.cell 0
      have d2 : wr.cell? ⟨w.heap.size + 1 + 1, 0, none⟩ = some (.slice none 0 0) := z2.cell 0
      have d21 : (wr.setCell ⟨w.heap.size + 1, 0, none⟩ (.slice Aa na ca)).cell? ⟨w.heap.size + 1 + 1, 0, none⟩ = some (.slice none 0 0) := (z2.far (p := ⟨w.heap.size + 1, 0, none⟩) (by show w.heap.size + 1 + 1 ≠ w.heap.size + 1; omega) _).cell 0
      have d12 : (wr.setCell ⟨w.heap.size + 1 + 1, 0, none⟩ (.slice Ab nb cb)).cell? ⟨w.heap.size + 1, 0, none⟩ = some (.slice none 0 0) := (z1.far (p := ⟨w.heap.size + 1 + 1, 0, none⟩) (by show w.heap.size + 1 ≠ w.heap.size + 1 + 1; omega) _).cell 0
      clear k0 k1 k2 e1 e2
      go_wp2
      go_region
      have x1 : ((wr.setCell ⟨w.heap.size + 1, 0, none⟩ (.slice Aa na ca)).setCell ⟨w.heap.size + 1 + 1, 0, none⟩ (.slice Ab nb cb)).cell? ⟨w.heap.size + 1, 0, none⟩ = some (.slice Aa na ca) := ((z1.set_ 0 (.slice Aa na ca)).far (p := ⟨w.heap.size + 1 + 1, 0, none⟩) (by show w.heap.size + 1 ≠ w.heap.size + 1 + 1; omega) (.slice Ab nb cb)).cell 0
      have x2 : ((wr.setCell ⟨w.heap.size + 1, 0, none⟩ (.slice Aa na ca)).setCell ⟨w.heap.size + 1 + 1, 0, none⟩ (.slice Ab nb cb)).cell? ⟨w.heap.size + 1 + 1, 0, none⟩ = some (.slice Ab nb cb) := ((z2.far (p := ⟨w.heap.size + 1, 0, none⟩) (by show w.heap.size + 1 + 1 ≠ w.heap.size + 1; omega) (.slice Aa na ca)).set_ 0 (.slice Ab nb cb)).cell 0
      have za := z2.far (p := ⟨w.heap.size + 1, 0, none⟩) (by show w.heap.size + 1 + 1 ≠ w.heap.size + 1; omega) (.slice Aa na ca)
      go_wp2
      refine bodyPost_ret (by simp [results, Try.results6, go_sem, x1, x2]; try rfl) rfl ?_
      have ha1 := st.a.far (st.a.ne_blk z1 (by decide)) 0 (.slice Aa na ca)
      have ha2 := ha1.far (ha1.ne_blk za (by decide)) 0 (.slice Ab nb cb)
      have hb1 := st.b.far (st.b.ne_blk z1 (by decide)) 0 (.slice Aa na ca)
      have hb2 := hb1.far (hb1.ne_blk za (by decide)) 0 (.slice Ab nb cb)
      exact ⟨Aa, na, ca, Ab, nb, cb, rfl, by rw [E1.out]; exact (ha2.after (Below.refl _ _).drew).weak (fun k hk => by have this : ¬ k < _ := (st.a.lt k hk).1; show ¬ k < w.heap.size; omega), by rw [E2.out]; exact (hb2.after (Below.refl _ _).drew).weak (fun k hk => by have this : ¬ k < _ := (st.b.lt k hk).1; show ¬ k < w.heap.size; omega), st.apart, ((hbr.setCell (p := ⟨w.heap.size + 1, 0, none⟩) (by show w.heap.size ≤ w.heap.size + 1; omega) (.slice Aa na ca)).setCell (p := ⟨w.heap.size + 1 + 1, 0, none⟩) (by show w.heap.size ≤ w.heap.size + 1 + 1; omega) (.slice Ab nb cb)).drew⟩
theorem cut_any (A : Option Addr) (n c B : Nat) (l : List ByteArray) (m : Int) (hm : -9223372036854775808 ≤ m ∧ m ≤ 9223372036854775807) (hl : l.length = n) (hnc : n ≤ c) (hn : n ≤ 1000000000000000) (hz : ∀ p ∈ l, p.size ≤ 140737488355328) (w : World) (r : Reads w B A n 1 (l.flatMap cStr)) (hB : B ≤ w.heap.size) :
    Calls Try.prog 6 #[ropeV A n c, .int .i64 m] w fun e w' => ToldCut w e w' (if cutE l m = 0 then cutA m.toNat l else []) (if cutE l m = 0 then cutB m.toNat l else []) (cutE l m) :=
  (cut_own A n c B l m hm hl hnc hn hz w r hB).mono fun _ _ h => h.weak
end Go.Proofs.Ytkeeggklgdinhaa
