/- TrimSame's walk: the composed script has the same effect as the sequence of scripts. -/
import Derived.Test.YtookbaaicpapnaaTrimTwo
namespace Go.Proofs.Ytookbaaicpapnaa
open Go.RowKit
set_option linter.unusedVariables false

/-- The text after a script. -/
def apT (s : ByteArray) (l : List Ed) : ByteArray := ⟨(app s.data.toList 0 l).toArray⟩
/-- The text after all scripts, where each can be done. -/
def allT : ByteArray → List (List Ed) → Option ByteArray
  | s, [] => some s
  | s, es :: L => if checkE s.size es ≠ 0 then none else allT (apT s es) L
theorem allT_cells (s0 : List UInt8) : ∀ (L : List (List Ed)) (c : List Cell) (s : ByteArray), c.map (dec s0) = s.data.toList → (cellsE c L).1 = 0 → ∃ t, allT s L = some t ∧ t.data.toList = (cellsE c L).2.map (dec s0)
  | [], c, s, h, _ => ⟨s, rfl, h.symm⟩
  | es :: L, c, s, h, h0 => by
    have hsz : c.length = s.size := by
      have := congrArg List.length h
      rw [List.length_map] at this
      exact this
    rw [cellsE] at h0 ⊢
    rw [allT]
    rw [hsz] at h0 ⊢
    by_cases hk : checkE s.size es = 0
    · rw [if_neg (by simpa using hk)] at h0 ⊢
      rw [if_neg (by simpa using hk)]
      exact allT_cells s0 L (applyC c 0 es) (apT s es) (by rw [dec_apply, h]; rfl) h0
    · rw [if_pos hk] at h0; exact absurd h0 hk
theorem same_law (s : ByteArray) (L : List (List Ed)) (h : manyI s.size L = 0) : ∃ t, allT s L = some t ∧ checkE s.size (manyL s.size L) = 0 ∧ apT s (manyL s.size L) = t := by
  unfold manyI at h
  by_cases h1 : (s.size : Int) < 0 ∨ 200 < (s.size : Int)
  · rw [if_pos h1] at h; cases h
  rw [if_neg h1] at h
  by_cases h2 : 30 < L.length
  · rw [if_pos h2] at h; cases h
  rw [if_neg h2, Int.toNat_natCast] at h
  by_cases h3 : (cellsE (cells0 s.size) L).1 = 0
  · rw [if_neg (by simpa using h3)] at h
    have hs : s.data.toList.length = s.size := rfl
    have hc0 : (cells0 s.size).map (dec s.data.toList) = s.data.toList := dec_cells0 s.data.toList
    obtain ⟨t, ht, htl⟩ := allT_cells s.data.toList L (cells0 s.size) s hc0 h3
    refine ⟨t, ht, h, ?_⟩
    have hg := cellsE_good s.data.toList L (cells0 s.size) (sorted_cells0 s.size) h3
    have ha := scr_app s.data.toList (cellsE (cells0 s.size) L).2 0 0 [] hg (Nat.le_refl _) (Nat.zero_le _)
    rw [List.take_zero, List.drop_nil, List.nil_append, List.nil_append, ← htl] at ha
    have hm : manyL s.size L = scr 0 [] ((cellsE (cells0 s.size) L).2 ++ [((s.size : Int), (0 : UInt8))]) := by unfold manyL; rw [Int.toNat_natCast]
    have ha' : app s.data.toList 0 (manyL s.size L) = t.data.toList := by rw [hm]; exact ha
    unfold apT
    rw [ha']
  · rw [if_pos h3] at h; exact absurd h h3

set_option maxRecDepth 100000 in
set_option maxHeartbeats 2000000 in
theorem all_ok (A : Option Addr) (len cap B : Nat) (l : List EdRow) (hl : l.length = len) (hlen : len ≤ 1000000000000000) (s t : ByteArray) (ht : allT s (scrs l) = some t) (w : World) (rl : Reads w B A len 1 (l.flatMap cRow)) (hel : ∀ x ∈ l, RowOk w B x) (hB : B ≤ w.heap.size) :
    Calls Try.prog 31 #[.string s, .slice A len cap] w fun e w' => e = .returned (.tuple #[.string t, .bool true]) ∧ Below w.heap.size w w' := by
  have Hl := Lib.hid hl
  have Hel := Lib.hid hel
  have Ht := Lib.hid ht
  clear hl hel ht
  go_enter Try.func31, Try.ntmps31
  go_wp2
  go_loopw [0, 7, 8, 9, 12] (fun sv _ _ _ kv wr => ∃ (k : Nat) (u : ByteArray), k ≤ len ∧ kv = .int .i64 (k : Int) ∧ sv = .string u ∧ Hid (allT u (scrs (l.drop k)) = some t) ∧ Below w.heap.size w wr) (fun _ _ _ _ kv _ => len - (intOf kv).toNat)
  case atStart => exact ⟨0, s, Nat.zero_le _, rfl, rfl, Ht, Below.refl _ _⟩
  case round =>
    obtain ⟨k, u, hk, rfl, rfl, HT, hbr⟩ := hrel
    have hBr : B ≤ wr.heap.size := Nat.le_trans hB hbr.size
    by_cases hlt : k < len
    · obtain ⟨bx, o, hA0, hbB, hc⟩ := (rl.below (hbr.mono hB)).2 (by omega)
      have c0 := hc (k * 1 + 0) (by rw [flat_length cRow 1 cRow_len, Hl.out]; omega)
      have dR : EdRow := (none, 0, 0, [])
      rw [flat_getD cRow 1 cRow_len dR l k _ (by rw [Hl.out]; omega) (by omega)] at c0
      simp only [cRow, List.getD_cons_zero, Nat.mul_one, Nat.add_zero] at c0
      have hmem : l.getD k dR ∈ l := by rw [getD_some _ _ _ (by rw [Hl.out]; omega)]; exact List.getElem_mem _
      obtain ⟨x1, x2, x3, x4⟩ := Hel.out _ hmem
      have hs := HT.out
      have e : scrs (l.drop k) = (l.getD k dR).2.2.2 :: scrs (l.drop (k + 1)) := by rw [drop_getD l k dR (by rw [Hl.out]; omega)]; rfl
      rw [e, allT] at hs
      clear e
      generalize l.getD k dR = x at *
      obtain ⟨X, xl, xc, xs⟩ := x
      simp only at c0 x1 x2 x3 x4 hs
      have hE : checkE u.size xs = 0 := by
        by_cases h : checkE u.size xs = 0
        · exact h
        · rw [if_pos h] at hs; cases hs
      rw [if_neg (by simpa using hE)] at hs
      have Hs := Lib.hid hs
      have Hap := Lib.hid (apply_ok u X xl xc B xs x1 hE wr (x2.below (hbr.mono hB)) hBr)
      clear hmem hc hs x1 x2 x3 x4 HT hE
      subst hA0
      go_wp2_with fail
      refine Hap.out.mono ?_
      rintro e w3 ⟨rfl, hb3⟩
      go_wp2
      go_roundw
      case rel => exact ⟨k + 1, apT u xs, by omega, by go_num, rfl, Hs, chain hb3 hbr⟩
      case measure => simp only [intOf]; omega
    · have hs := HT.out
      have e : scrs (l.drop k) = [] := by rw [List.drop_of_length_le (by rw [Hl.out]; omega)]; rfl
      rw [e, allT] at hs
      injection hs with hs
      subst hs
      clear e HT
      go_wp2
      go_ret2
      exact ⟨rfl, hbr⟩

set_option maxRecDepth 100000 in
set_option maxHeartbeats 2000000 in
theorem trimSame_walk (s : ByteArray) (A : Option Addr) (len cap : Nat) (l : List EdRow) (hs : s.size ≤ 140737488351232) (w : World) (hl : EditssIn w A len cap l) :
    Calls Try.prog 8 #[.string s, .slice A len cap] w fun e w' => e = .returned (.bool true) ∧ Below w.heap.size w w' := by
  obtain ⟨hll, hrd, hlen, hok, hcap, hcapm, hnil⟩ := hl
  have hel : ∀ w1, Below w.heap.size w w1 → ∀ x ∈ l, RowOk w1 w.heap.size x := fun w1 hb x hx => by
    obtain ⟨x1, x2, x3, x4, _⟩ := hok x hx
    exact ⟨x1, x2.below hb, x4, by omega⟩
  have hmy : ∀ w1, Below w.heap.size w w1 → Calls Try.prog 23 #[.int .i64 (s.size : Int), .slice A len cap] w1 (ToldMany s.size (scrs l) w1) := fun w1 hb =>
    many_any s.size (by omega) A len cap w.heap.size l hll (by omega) w1 (hrd.below hb) (hel w1 hb) hb.size
  by_cases hI : manyI s.size (scrs l) = 0
  · obtain ⟨t, h1, h2, h3⟩ := same_law s (scrs l) hI
    have k1 : ∀ w1, Below w.heap.size w w1 → Calls Try.prog 23 #[.int .i64 (s.size : Int), .slice A len cap] w1 fun e w' => Below w1.heap.size w1 w' ∧ ∃ A1 c1, e = .returned (.tuple #[.slice A1 (manyL s.size (scrs l)).length c1, .int .i64 0]) ∧ Reads w' w'.heap.size A1 (manyL s.size (scrs l)).length 3 ((manyL s.size (scrs l)).flatMap cEdit) := fun w1 hb =>
      (hmy w1 hb).mono fun e w' h => many_good hI h
    have k2 : ∀ w1, Below w.heap.size w w1 → Calls Try.prog 31 #[.string s, .slice A len cap] w1 fun e w' => e = .returned (.tuple #[.string t, .bool true]) ∧ Below w1.heap.size w1 w' := fun w1 hb =>
      all_ok A len cap w.heap.size l hll (by omega) s t h1 w1 (hrd.below hb) (hel w1 hb) hb.size
    have k3 : ∀ (A1 : Option Addr) (c1 : Nat) (w1 : World), Reads w1 w1.heap.size A1 (manyL s.size (scrs l)).length 3 ((manyL s.size (scrs l)).flatMap cEdit) → Calls Try.prog 21 #[.string s, .slice A1 (manyL s.size (scrs l)).length c1] w1 fun e w' => e = .returned (.tuple #[.string t, .int .i64 0]) ∧ Below w1.heap.size w1 w' := fun A1 c1 w1 r => by
      have := apply_ok s A1 _ c1 w1.heap.size (manyL s.size (scrs l)) rfl h2 w1 r (Nat.le_refl _)
      rw [show (⟨(app s.data.toList 0 (manyL s.size (scrs l))).toArray⟩ : ByteArray) = t from h3] at this
      exact this
    generalize manyL s.size (scrs l) = M at *
    have K1 := Lib.hid k1
    have K2 := Lib.hid k2
    have K3 := Lib.hid k3
    have qs : (t.toList == t.toList) = true := by simp
    clear k1 k2 k3 hmy hel hI h1 h2 h3 hok hcap hcapm hnil hll
    go_enter Try.func8, Try.ntmps8
    go_wp2_with fail
    refine (trims_any _).mono ?_
    rintro e w1 ⟨rfl, hb1⟩
    go_wp2_with fail
    refine (edits_any _).mono ?_
    rintro e w2 ⟨rfl, hb2⟩
    have b2 := chain hb2 hb1
    go_wp2_with fail
    refine (K1.out w2 b2).mono ?_
    rintro e w3 ⟨hb3, A1, c1, rfl, r1⟩
    have b3 := chain hb3 b2
    go_wp2_with fail
    refine (K2.out w3 b3).mono ?_
    rintro e w4 ⟨rfl, hb4⟩
    have b4 := chain hb4 b3
    have r1 := r1.after hb4
    go_wp2_with fail
    refine (K3.out A1 c1 w4 r1).mono ?_
    rintro e w5 ⟨rfl, hb5⟩
    go_wp2
    go_ret
    exact ⟨by simp, chain hb5 b4⟩
  · have k1 := fun w1 hb => (hmy w1 hb).mono fun e w' h => many_wrong hI h
    generalize manyI s.size (scrs l) = I at *
    have q1 : (I != 0) = true := by simpa using hI
    have K1 := Lib.hid k1
    clear k1 hmy hel hI hok hcap hcapm hnil hll
    go_enter Try.func8, Try.ntmps8
    go_wp2_with fail
    refine (trims_any _).mono ?_
    rintro e w1 ⟨rfl, hb1⟩
    go_wp2_with fail
    refine (edits_any _).mono ?_
    rintro e w2 ⟨rfl, hb2⟩
    have b2 := chain hb2 hb1
    go_wp2_with fail
    refine (K1.out w2 b2).mono ?_
    rintro e w3 ⟨hb3, rfl⟩
    go_wp2
    go_ret
    exact ⟨by simp, chain hb3 b2⟩
end Go.Proofs.Ytookbaaicpapnaa
