/- UndoNew's walk: a new step after an undo discards the steps to redo and can be undone itself. -/
import Derived.Test.YtookbaaicpapnaaUndoBack
namespace Go.Proofs.Ytookbaaicpapnaa
open Go.RowKit
set_option linter.unusedVariables false

/-- A Do after steps back: it fails and nothing turns, or nothing can be redone, and the text before it is the last that is kept. -/
theorem do_back (g : Nat) (T : List ByteArray) (x : Nat) (K : Nat → Prop) (w : World) (hK : ∀ k, K k → k < w.heap.size) (hT : GoodT T) (hx : x < T.length) (hD : T.length - 31 ≤ x) (h : EdT w K g T x) (A : Option Addr) (len c B0 : Nat) (l : List Ed) (hl : l.length = len) (hlen : len ≤ 4398046511104)
    (ho : ∀ x ∈ l, (-9223372036854775808 ≤ x.1 ∧ x.1 ≤ 9223372036854775807) ∧ (-9223372036854775808 ≤ x.2.1 ∧ x.2.1 ≤ 9223372036854775807) ∧ (x.2.2).size ≤ 140737488351232) (hr : Reads w B0 A len 3 (l.flatMap cEdit)) (hB0 : B0 ≤ w.heap.size) :
    (∃ E, (E != 0) = true ∧ Calls Try.prog 43 #[.pointer (some ⟨g, 0, none⟩), .slice A len c] w fun e w' => e = .returned (.int .i64 E) ∧ EdT w' K g T x ∧ Kept K w w') ∨
    Calls Try.prog 43 #[.pointer (some ⟨g, 0, none⟩), .slice A len c] w fun e w' => e = .returned (.int .i64 0) ∧ (∃ R B', B'.length ≤ 30 ∧ EdAt w' K g R (B' ++ [T.getD x ByteArray.empty]) []) ∧ Kept K w w' := by
  by_cases hE : checkE (T.getD x ByteArray.empty).size l = 0
  · by_cases hn : l = []
    · subst hn
      obtain rfl : len = 0 := hl.symm
      exact .inl ⟨5, rfl, (do_nil g _ (hT.getD _) _ _ K w h A c).mono fun e w' hw => ⟨hw.1, EdAt.after h hw.2, Kept.of_below hw.2 hK⟩⟩
    · refine .inr ((do_yes g _ _ _ K w hK ?_ h A len c B0 l hl hE (by rw [← hl]; exact List.length_pos_iff.2 hn) hr hB0).mono fun e w' hw => ?_)
      · rw [List.length_drop, List.length_take]; omega
      · obtain ⟨h1, h2, h3⟩ := hw
        rw [List.drop_append_of_le_length (by rw [List.length_drop, List.length_take]; omega)] at h2
        exact ⟨h1, ⟨_, _, by rw [List.length_drop, List.length_drop, List.length_take]; omega, h2⟩, h3⟩
  · exact .inl ⟨_, by simpa using hE, (do_no g _ (by have := hT.getD x; omega) _ _ K w h A len c B0 l hlen hl ho _ rfl hE hr hB0).mono fun e w' hw => ⟨hw.1, EdAt.after h hw.2, Kept.of_below hw.2 hK⟩⟩

set_option maxRecDepth 100000 in
set_option maxHeartbeats 4000000 in
theorem undoNew_core (s : ByteArray) (A : Option Addr) (len cap : Nat) (l : List EdRow) (k : Int) (X : Option Addr) (xl xc : Nat) (xs : List Ed) (w : World) (hl : EditssIn w A len cap l) (hxs : EditsIn w X xl xc xs) (hs : s.size ≤ 200) :
    Calls Try.prog 13 #[.string s, .slice A len cap, .int .i64 k, .slice X xl xc] w fun e w' => e = .returned (.bool true) ∧ Below w.heap.size w w' := by
  obtain ⟨hll, hrd, hlen, hok, hcap, hcapm, hnil⟩ := hl
  obtain ⟨x1, x2, x3, x4, x5, x6, x7⟩ := hxs
  obtain ⟨B, hB⟩ : ∃ B, B = w.heap.size := ⟨_, rfl⟩
  have hty : ∀ w1, Below B w w1 → Calls Try.prog 38 #[.string s, .slice A len cap] w1 fun e w' => ∃ g n A' c, e = .returned (.tuple #[.pointer (some ⟨g, 0, none⟩), .slice A' n c]) ∧ OwnS w' (· < B) A' n c (textsE s (scripts l)) ∧ EdT w' (fun k => k < B ∨ (Value.slice A' n c).ownBlock = some k) g (textsE s (scripts l)) ((textsE s (scripts l)).length - 1) ∧ Below B w w' := fun w1 hb =>
    (typed_ok s hs A len cap B l hll (by omega) w w1 hB (by rw [hB]; exact hrd) hok hb).mono fun e w' ⟨g, A', c, h1, h2, h3, h4⟩ => ⟨g, _, A', c, h1, h2, h3, hb.trans h4⟩
  have hgood := goodT_texts hs (scripts l)
  have htl := texts_len s (scripts l)
  rw [List.length_map, hll] at htl
  generalize textsE s (scripts l) = T at *
  rw [← hB] at x2
  have HX1 := Lib.hid x1
  have HX4 := Lib.hid x4
  have hxl : xl ≤ 4398046511104 := by omega
  have HTY := Lib.hid hty
  clear x1 x3 x4 x5 x6 x7
  have HB := Lib.hid hB
  have HG := Lib.hid hgood
  have hpos := hgood.pos
  obtain ⟨z, hz⟩ : ∃ z, z + 1 = T.length := ⟨T.length - 1, by omega⟩
  have hz9 : z ≤ 5864062014634 := by omega
  have HZ := Lib.hid hz
  clear hll hrd hlen hok hcap hcapm hnil hty hB hgood htl hpos hz
  go_enter Try.func13, Try.ntmps13
  go_wp2_with fail
  refine (editors_any _).mono ?_
  rintro e w1 ⟨rfl, hb1⟩
  rw [← HB.out] at hb1
  go_wp2_with fail
  refine (HTY.out _ hb1).mono ?_
  rintro e w2 ⟨g, n, A', c', rfl, hown, hed, hb2⟩
  obtain rfl : n = z + 1 := by rw [← hown.1, HZ.out]
  have hx : EdT w2 (fun k => k < B ∨ (Value.slice A' (z + 1) c').ownBlock = some k) g T z := by
    have := hed
    rw [show T.length - 1 = z from by rw [← HZ.out]; rfl] at this
    exact this
  obtain ⟨tb, to, rfl, htb⟩ := hown.shape (by omega)
  obtain ⟨K, hKd⟩ : ∃ K : Nat → Prop, K = fun k => k < B ∨ (Value.slice (some ⟨tb, to, none⟩) (z + 1) c').ownBlock = some k := ⟨_, rfl⟩
  rw [← hKd] at hx
  have hKB : ∀ k, k < B → K k := fun k hk => by rw [hKd]; exact .inl hk
  have hKt : ∀ k, (Value.slice (some ⟨tb, to, none⟩) (z + 1) c').ownBlock = some k → K k := fun k hk => by rw [hKd]; exact .inr hk
  have hKlt : ∀ k, K k → k < w2.heap.size := fun k hk => by
    rw [hKd] at hk
    rcases hk with hk | hk
    · have := hb2.size; have := HB.out; omega
    · exact (hown.lt k hk).2
  have HKB := Lib.hid hKB
  have HKt := Lib.hid hKt
  have HKlt := Lib.hid hKlt
  obtain ⟨N, hN⟩ : ∃ N, N = z - (z - 30) := ⟨_, rfl⟩
  have hN30 : N ≤ 30 := by omega
  have hNz : N ≤ z := by omega
  have hNd : z - N = z - 30 := by omega
  have hst := steps_T HZ.out (Nat.le_refl z) hx
  rw [← hN, Nat.sub_self] at hst
  obtain ⟨q, hq⟩ : ∃ q : Nat, k % ((N : Int) + 1) = q := ⟨(k % ((N : Int) + 1)).toNat, by rw [Int.toNat_of_nonneg (Int.emod_nonneg _ (by omega))]⟩
  have hqN : q ≤ N := by have := Int.emod_lt_of_pos k (show (0 : Int) < (N : Int) + 1 by omega); omega
  have hwi : ∀ w, Calls Try.prog 24 #[.int .i64 k, .int .i64 ((N : Int) + 1)] w fun e w' => e = .returned (.int .i64 (q : Int)) ∧ w = w' := fun w => by
    have := within_any k ((N : Int) + 1) (by omega) (by omega) w
    rw [hq] at this
    exact this
  have HWI := Lib.hid hwi
  have HND := Lib.hid hNd
  clear hb1 hed hKd hKB hKt hKlt hN hq hwi hNd
  go_wp2_with fail
  refine hst.mono ?_
  rintro e w3 ⟨rfl, hb3⟩
  have hx := EdAt.after hx hb3
  have hk3 : Kept K w2 w3 := Kept.of_below hb3 HKlt.out
  clear hst hb3
  go_wp2_with fail
  refine (HWI.out _).mono ?_
  rintro e w4 ⟨rfl, rfl⟩
  go_wp2
  have hx : EdT w3 K g T z := hx
  go_loopw [41] (fun iv wr => ∃ j x : Nat, j ≤ q ∧ x + j = z ∧ iv = .int .i64 (j : Int) ∧ EdT wr K g T x ∧ Kept K w2 wr) (fun iv _ => q - (intOf iv).toNat)
  case atStart => exact ⟨0, z, Nat.zero_le _, rfl, rfl, hx, hk3⟩
  case round =>
    clear hx hk3
    obtain ⟨j, x, hjq, hxj, rfl, hx, hkr⟩ := hrel
    have HXJ := Lib.hid hxj
    by_cases hlt : j < q
    · obtain ⟨y, rfl⟩ : ∃ y, x = y + 1 := ⟨x - 1, by omega⟩
      have hKr : ∀ k, K k → k < wr.heap.size := hkr.lt HKlt.out
      have HU := Lib.hid (undo_T g T y K wr hKr (by have := HZ.out; omega) (by have := HZ.out; have := HND.out; omega) hx)
      clear hxj hx
      go_wp2_with fail
      refine HU.out.mono ?_
      rintro e w5 ⟨rfl, hed5, hk5⟩
      go_wp2
      go_roundw
      case rel => exact ⟨j + 1, y, by omega, by have := HXJ.out; omega, by go_num, hed5, hkr.trans hk5⟩
      case measure => simp only [intOf]; omega
    · obtain rfl : j = q := by omega
      have hKr : ∀ k, K k → k < wr.heap.size := hkr.lt HKlt.out
      have hBr : B ≤ wr.heap.size := by have := hb2.size; have := HB.out; have := hkr.size; omega
      have hown5 := hown.keep (w' := wr) (fun k _ hq _ => hkr.block k (HKt.out k hq))
      have ct := hown5.cell x (by omega)
      have hdo := do_back g T x K wr hKr HG.out (by have := HZ.out; omega) (by have := HZ.out; have := HND.out; omega) hx X xl xc B xs HX1.out hxl HX4.out ((x2.below hb2).below (hkr.weak HKB.out).below) hBr
      have htx := text_T hx
      generalize hgt : T.getD x ByteArray.empty = t at *
      have Hgt := Lib.hid hgt
      have Htx := Lib.hid htx
      have Hdo := Lib.hid hdo
      have wa : IntKind.i64.wrap ((z : Int) + 1 - 1) = (z : Int) := by rw [IntKind.wrap_i64]; omega
      have wb : IntKind.i64.wrap ((z : Int) - (j : Int)) = (x : Int) := by rw [IntKind.wrap_i64]; omega
      have hxz : (z : Int) - (j : Int) = (x : Int) := by omega
      have hxi : (x : Int) < (z : Int) + 1 := by omega
      have q1 : (t.toList == t.toList) = true := by simp
      have q2 : (t.toList != t.toList) = false := by simp
      clear hgt htx hdo
      go_wp2_with fail
      refine Htx.out.mono ?_
      rintro e w5 ⟨rfl, rfl⟩
      go_wp2_with fail
      rcases Hdo.out with ⟨E, hE, hcall⟩ | hcall
      · refine hcall.mono ?_
        rintro e w5 ⟨rfl, hed5, hk5⟩
        have hst := steps_T HZ.out (show x ≤ z by omega) hed5
        rw [show z - x = j from by omega] at hst
        have hB5 : B ≤ w5.heap.size := Nat.le_trans hBr hk5.size
        have q3 : ((j : Int) == (j : Int)) = true := by simp
        clear hcall Hdo
        go_wp2_with fail
        refine hst.mono ?_
        rintro e w6 ⟨rfl, hb6⟩
        have htx6 := text_T (EdAt.after hed5 hb6)
        rw [Hgt.out] at htx6
        go_wp2_with fail
        refine htx6.mono ?_
        rintro e w7 ⟨rfl, rfl⟩
        go_wp2
        go_ret
        exact ⟨by simp, by rw [← HB.out]; exact hb2.trans (((hkr.trans hk5).weak HKB.out).below.trans (hb6.mono hB5))⟩
      · refine hcall.mono ?_
        rintro e w5 ⟨rfl, ⟨R, B', hB', hed5⟩, hk5⟩
        have hB5 : B ≤ w5.heap.size := Nat.le_trans hBr hk5.size
        clear hcall Hdo
        go_wp2_with fail
        refine (redo_no g R _ K w5 hed5).mono ?_
        rintro e w6 ⟨rfl, hb6⟩
        have hed6 := EdAt.after hed5 hb6
        have hk6 := hkr.trans (hk5.trans (Kept.of_below hb6 (hk5.lt hKr)))
        go_wp2_with fail
        refine (undo_yes g R B' [] t K w6 (hk6.lt HKlt.out) (by simp) (by omega) hed6).mono ?_
        rintro e w7 ⟨rfl, hed7, hk7⟩
        have htx7 := text_any g t _ _ K w7 hed7
        go_wp2_with fail
        refine htx7.mono ?_
        rintro e w8 ⟨rfl, rfl⟩
        go_wp2
        go_ret
        exact ⟨by simp, by rw [← HB.out]; exact hb2.trans ((hk6.trans hk7).weak HKB.out).below⟩

theorem undoNew_walk (s : ByteArray) (A : Option Addr) (len cap : Nat) (l : List EdRow) (k : Int) (X : Option Addr) (xl xc : Nat) (xs : List Ed) (hs : s.size ≤ 140737488351232) (w : World) (hl : EditssIn w A len cap l) (hk : (Lit.int .i64 k).wf = true) (hxs : EditsIn w X xl xc xs) :
    Calls Try.prog 13 #[.string s, .slice A len cap, .int .i64 k, .slice X xl xc] w fun e w' => e = .returned (.bool true) ∧ Below w.heap.size w w' := by
  by_cases h : s.size ≤ 200
  · exact undoNew_core s A len cap l k X xl xc xs w hl hxs h
  · have q1 : decide (200 < (s.size : Int)) = true := decide_eq_true (by omega)
    have q1' : decide (200 < s.size) = true := decide_eq_true (by omega)
    go_enter Try.func13, Try.ntmps13
    go_wp2_with fail
    refine (editors_any _).mono ?_
    rintro e w1 ⟨rfl, hb1⟩
    go_wp2_with fail
    refine (typed_no s (by omega) A len cap w1).mono ?_
    rintro e w2 ⟨rfl, hb2⟩
    go_wp2
    go_ret
    exact ⟨rfl, chain hb2 hb1⟩
end Go.Proofs.Ytookbaaicpapnaa
