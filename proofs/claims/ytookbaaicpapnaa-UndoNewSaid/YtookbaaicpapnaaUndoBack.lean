/- UndoBack's walk: all kept steps are undone one by one and redone. -/
import Derived.Test.YtookbaaicpapnaaTyped
import Derived.Test.YtookbaaicpapnaaKeep
import Derived.Test.YtookbaaicpapnaaRegionFront
namespace Go.Proofs.Ytookbaaicpapnaa
open Go.RowKit
set_option linter.unusedVariables false

theorem goodT_texts {s : ByteArray} (hs : s.size ≤ 200) (L : List (List Ed)) : GoodT (textsE s L) := by
  have : ∀ (L : List (List Ed)) (T : List ByteArray), GoodT T → GoodT (L.foldl stepT T) := by
    intro L
    induction L with
    | nil => exact fun T h => h
    | cons x L ih => exact fun T h => ih _ (h.step x)
  exact this L _ (goodT_one hs)
theorem texts_len (s : ByteArray) (L : List (List Ed)) : (textsE s L).length ≤ L.length + 1 := by
  have : ∀ (L : List (List Ed)) (T : List ByteArray), (L.foldl stepT T).length ≤ T.length + L.length := by
    intro L
    induction L with
    | nil => exact fun T => Nat.le_refl _
    | cons x L ih => 
      intro T
      have h1 := ih (stepT T x)
      have h2 : (stepT T x).length ≤ T.length + 1 := by unfold stepT; split <;> simp
      rw [List.foldl_cons, List.length_cons]
      omega
  have := this L [s]
  simpa [textsE, Nat.add_comm] using this

set_option maxRecDepth 100000 in
set_option maxHeartbeats 4000000 in
theorem undoBack_core (s : ByteArray) (A : Option Addr) (len cap : Nat) (l : List EdRow) (k : Int) (w : World) (hl : EditssIn w A len cap l) (hs : s.size ≤ 200) :
    Calls Try.prog 12 #[.string s, .slice A len cap, .int .i64 k] w fun e w' => e = .returned (.bool true) ∧ Below w.heap.size w w' := by
  obtain ⟨hll, hrd, hlen, hok, hcap, hcapm, hnil⟩ := hl
  obtain ⟨B, hB⟩ : ∃ B, B = w.heap.size := ⟨_, rfl⟩
  have hty : ∀ w1, Below B w w1 → Calls Try.prog 38 #[.string s, .slice A len cap] w1 fun e w' => ∃ g n A' c, e = .returned (.tuple #[.pointer (some ⟨g, 0, none⟩), .slice A' n c]) ∧ OwnS w' (· < B) A' n c (textsE s (scripts l)) ∧ EdT w' (fun k => k < B ∨ (Value.slice A' n c).ownBlock = some k) g (textsE s (scripts l)) ((textsE s (scripts l)).length - 1) ∧ Below B w w' := fun w1 hb =>
    (typed_ok s hs A len cap B l hll (by omega) w w1 hB (by rw [hB]; exact hrd) hok hb).mono fun e w' ⟨g, A', c, h1, h2, h3, h4⟩ => ⟨g, _, A', c, h1, h2, h3, hb.trans h4⟩
  have hgood := goodT_texts hs (scripts l)
  have htl := texts_len s (scripts l)
  rw [List.length_map, hll] at htl
  generalize textsE s (scripts l) = T at *
  have HTY := Lib.hid hty
  have HB := Lib.hid hB
  have HG := Lib.hid hgood
  have hpos := hgood.pos
  obtain ⟨z, hz⟩ : ∃ z, z + 1 = T.length := ⟨T.length - 1, by omega⟩
  have hz9 : z ≤ 5864062014634 := by omega
  have HZ := Lib.hid hz
  clear hll hrd hlen hok hcap hcapm hnil hty hB hgood htl hpos hz
  go_enter Try.func12, Try.ntmps12
  go_wp2_with fail
  refine (editors_any _).mono ?_
  rintro e w1 ⟨rfl, hb1⟩
  rw [← HB.out] at hb1
  go_wp2_with fail
  refine (HTY.out _ hb1).mono ?_
  rintro e w2 ⟨g, n, A', c', rfl, hown, hed, hb2⟩
  obtain rfl : n = z + 1 := by rw [← hown.1, HZ.out]
  have hx : EdT w2 (fun k => k < B ∨ (Value.slice A' (z + 1) c').ownBlock = some k) g T z := by
    have := hed
    rw [show T.length - 1 = z from by rw [← HZ.out]; rfl] at this
    exact this
  obtain ⟨tb, to, rfl, htb⟩ := hown.shape (by omega)
  obtain ⟨K, hKd⟩ : ∃ K : Nat → Prop, K = fun k => k < B ∨ (Value.slice (some ⟨tb, to, none⟩) (z + 1) c').ownBlock = some k := ⟨_, rfl⟩
  rw [← hKd] at hx
  have hKB : ∀ k, k < B → K k := fun k hk => by rw [hKd]; exact .inl hk
  have hKt : ∀ k, (Value.slice (some ⟨tb, to, none⟩) (z + 1) c').ownBlock = some k → K k := fun k hk => by rw [hKd]; exact .inr hk
  have hKlt : ∀ k, K k → k < w2.heap.size := fun k hk => by
    rw [hKd] at hk
    rcases hk with hk | hk
    · have := hb2.size; have := HB.out; omega
    · exact (hown.lt k hk).2
  have HKB := Lib.hid hKB
  have HKt := Lib.hid hKt
  have HKlt := Lib.hid hKlt
  obtain ⟨N, hN⟩ : ∃ N, N = z - (z - 30) := ⟨_, rfl⟩
  have hN30 : N ≤ 30 := by omega
  have hNz : N ≤ z := by omega
  have hNd : z - N = z - 30 := by omega
  have hst := steps_T HZ.out (Nat.le_refl z) hx
  rw [← hN, Nat.sub_self] at hst
  have hM : ∀ (ats : Array TypeId) (t : TypeId) (w : World), (Builtin.min_ ats t #[.int .i64 (z : Int), .int .i64 30]).run Try.prog w = .ok (.int .i64 (N : Int)) w := fun ats t w => by
    rw [run_min_int2]; congr 2; omega
  obtain ⟨q, hq⟩ : ∃ q : Nat, k % ((N : Int) + 1) = q := ⟨(k % ((N : Int) + 1)).toNat, by rw [Int.toNat_of_nonneg (Int.emod_nonneg _ (by omega))]⟩
  have hqN : q ≤ N := by have := Int.emod_lt_of_pos k (show (0 : Int) < (N : Int) + 1 by omega); omega
  have hwi : ∀ w, Calls Try.prog 24 #[.int .i64 k, .int .i64 ((N : Int) + 1)] w fun e w' => e = .returned (.int .i64 (q : Int)) ∧ w = w' := fun w => by
    have := within_any k ((N : Int) + 1) (by omega) (by omega) w
    rw [hq] at this
    exact this
  have HWI := Lib.hid hwi
  have HND := Lib.hid hNd
  clear hb1 hed hKd hKB hKt hKlt hN hq hwi hNd
  go_wp2_with fail
  refine hst.mono ?_
  rintro e w3 ⟨rfl, hb3⟩
  have hx := EdAt.after hx hb3
  have hk3 : Kept K w2 w3 := Kept.of_below hb3 HKlt.out
  clear hst hb3
  go_wp2_with fail
  refine (HWI.out _).mono ?_
  rintro e w4 ⟨rfl, rfl⟩
  go_wp2
  have hx : EdT w3 K g T z := hx
  go_loopw [11, 48] (fun _ iv wr => ∃ j x : Nat, j ≤ q ∧ x + j = z ∧ iv = .int .i64 (j : Int) ∧ EdT wr K g T x ∧ Kept K w2 wr) (fun _ iv _ => q - (intOf iv).toNat)
  case atStart => exact ⟨0, z, Nat.zero_le _, rfl, rfl, hx, hk3⟩
  case round =>
    clear hx hk3
    obtain ⟨j, x, hjq, hxj, rfl, hx, hkr⟩ := hrel
    have HXJ := Lib.hid hxj
    by_cases hlt : j < q
    · obtain ⟨y, rfl⟩ : ∃ y, x = y + 1 := ⟨x - 1, by omega⟩
      have hyz : y + 1 ≤ z := by omega
      have hKr : ∀ k, K k → k < wr.heap.size := hkr.lt HKlt.out
      have hund := undo_T g T y K wr.drew hKr (by have := HZ.out; omega) (by have := HZ.out; have := HND.out; omega) (EdAt.after hx (Below.refl wr.heap.size wr).drew)
      have wa : IntKind.i64.wrap ((z : Int) + 1 - 2) = (z : Int) - 1 := by rw [IntKind.wrap_i64]; omega
      have wb : IntKind.i64.wrap ((z : Int) - 1 - (j : Int)) = (y : Int) := by rw [IntKind.wrap_i64]; omega
      have hyi : (y : Int) < (z : Int) + 1 := by omega
      have hyi0 : (0 : Int) ≤ (y : Int) := by omega
      have HU := Lib.hid hund
      clear hund hxj hx
      go_wp2
      refine wp_region_front 16 (by kernel_rfl) rfl ?_
      refine front_step 0 (by kernel_rfl) rfl ?_
      intro K' hK'; go_simp; refine hK' _ _ ?_; clear hK' K'
      refine front_step 1 (by kernel_rfl) rfl ?_
      intro K' hK'; go_simp
      refine HU.out.mono ?_
      rintro e w5 ⟨rfl, hed5, hk5⟩
      go_simp; refine hK' _ _ ?_; clear hK' K'
      refine front_step 2 (by kernel_rfl) rfl ?_
      intro K' hK'; go_simp; refine hK' _ _ ?_; clear hK' K'
      refine front_step 3 (by kernel_rfl) rfl ?_
      intro K' hK'; go_simp; refine hK' _ _ ?_; clear hK' K'
      have hown5 := hown.keep (w' := w5) (fun k _ hq _ => (hkr.drew.trans hk5).block k (HKt.out k hq))
      have ct := hown5.cell y (by omega)
      have htx : ∀ n, Calls Try.prog 41 #[.pointer (some ⟨g, 0, none⟩)] (w5.drewN n) fun e w' => e = .returned (.string (T.getD y ByteArray.empty)) ∧ w' = w5.drewN n := fun n => (text_T (EdAt.after hed5 (below_drewN (Below.refl _ _) n))).mono fun e w' h => ⟨h.1, h.2.symm⟩
      generalize T.getD y ByteArray.empty = t at ct htx
      have q1 : (t.toList == t.toList) = true := by simp
      have q2 : (t.toList != t.toList) = false := by simp
      have Htx := Lib.hid htx
      have Hed5 := Lib.hid hed5
      have Hk5 := Lib.hid (hkr.drew.trans hk5)
      clear htx hed5 hk5 hkr hKr hown5
      refine front_quiet 4 _ rfl rfl (by kernel_rfl) (by kernel_rfl) ?_
      simp only [List.drop_succ_cons, List.drop_zero]
      repeat (go_big_quiet_step (exact Calls.quiet_of_same (Htx.out _)))
      refine wpQuiet_nil ?_
      rintro _ ⟨nq, rfl⟩
      go_wp2
      go_roundw
      case rel => exact ⟨j + 1, y, by omega, by have := HXJ.out; omega, by go_num, EdAt.after Hed5.out (below_drewN (Below.refl _ _) nq), Hk5.out.drewN nq⟩
      case measure => simp only [intOf]; omega
    · obtain rfl : j = q := by omega
      go_wp2
      obtain ⟨x0, hx0⟩ : ∃ x0, x0 = x := ⟨_, rfl⟩
      have HX0 := Lib.hid hx0
      rw [← hx0] at hx
      obtain ⟨wo, hwo⟩ : ∃ wo, wo = wr := ⟨_, rfl⟩
      subst hwo
      clear hx0 hxj hjq hlt
      go_loopw [12, 69] (fun _ iv wr => ∃ i x : Nat, i ≤ j ∧ x + j = z + i ∧ iv = .int .i64 (i : Int) ∧ EdT wr K g T x ∧ Kept K w2 wr) (fun _ iv _ => j - (intOf iv).toNat)
      case atStart => exact ⟨0, x0, Nat.zero_le _, by have := HXJ.out; have := HX0.out; omega, rfl, hx, hkr⟩
      case round =>
        clear hx hkr
        obtain ⟨i, x, hij, hxi, rfl, hx, hkr⟩ := hrel
        have HXI := Lib.hid hxi
        by_cases hlt : i < j
        · have hyz : x + 1 ≤ z := by omega
          have hKr : ∀ k, K k → k < wr.heap.size := hkr.lt HKlt.out
          have hred := redo_T g T x K wr.drew hKr (by have := HZ.out; omega) (by have := HZ.out; have := HND.out; omega) (EdAt.after hx (Below.refl wr.heap.size wr).drew)
          have wa : IntKind.i64.wrap ((z : Int) + 1 - (j : Int)) = (z : Int) + 1 - (j : Int) := by rw [IntKind.wrap_i64]; omega
          have wb : IntKind.i64.wrap ((z : Int) + 1 - (j : Int) + (i : Int)) = (x : Int) + 1 := by rw [IntKind.wrap_i64]; omega
          have hyi : (x : Int) + 1 < (z : Int) + 1 := by omega
          have hyi0 : (0 : Int) ≤ (x : Int) + 1 := by omega
          have hyi1 : ((x : Int) + 1).toNat = x + 1 := by omega
          have HR := Lib.hid hred
          clear hred hxi hx
          go_wp2
          refine wp_region_front 17 (by kernel_rfl) rfl ?_
          refine front_step 0 (by kernel_rfl) rfl ?_
          intro K' hK'; go_simp; refine hK' _ _ ?_; clear hK' K'
          refine front_step 1 (by kernel_rfl) rfl ?_
          intro K' hK'; go_simp
          refine HR.out.mono ?_
          rintro e w5 ⟨rfl, hed5, hk5⟩
          go_simp; refine hK' _ _ ?_; clear hK' K'
          refine front_step 2 (by kernel_rfl) rfl ?_
          intro K' hK'; go_simp; refine hK' _ _ ?_; clear hK' K'
          refine front_step 3 (by kernel_rfl) rfl ?_
          intro K' hK'; go_simp; refine hK' _ _ ?_; clear hK' K'
          have hown5 := hown.keep (w' := w5) (fun k _ hq _ => (hkr.drew.trans hk5).block k (HKt.out k hq))
          have ct := hown5.cell (x + 1) (by omega)
          have htx : ∀ n, Calls Try.prog 41 #[.pointer (some ⟨g, 0, none⟩)] (w5.drewN n) fun e w' => e = .returned (.string (T.getD (x + 1) ByteArray.empty)) ∧ w' = w5.drewN n := fun n => (text_T (EdAt.after hed5 (below_drewN (Below.refl _ _) n))).mono fun e w' h => ⟨h.1, h.2.symm⟩
          generalize T.getD (x + 1) ByteArray.empty = t at ct htx
          have q1 : (t.toList == t.toList) = true := by simp
          have q2 : (t.toList != t.toList) = false := by simp
          have Htx := Lib.hid htx
          have Hed5 := Lib.hid hed5
          have Hk5 := Lib.hid (hkr.drew.trans hk5)
          clear htx hed5 hk5 hkr hKr hown5
          refine front_quiet 4 _ rfl rfl (by kernel_rfl) (by kernel_rfl) ?_
          simp only [List.drop_succ_cons, List.drop_zero]
          repeat (go_big_quiet_step (exact Calls.quiet_of_same (Htx.out _)))
          refine wpQuiet_nil ?_
          rintro _ ⟨nq, rfl⟩
          go_wp2
          go_roundw
          case rel => exact ⟨i + 1, x + 1, by omega, by have := HXI.out; omega, by go_num, EdAt.after Hed5.out (below_drewN (Below.refl _ _) nq), Hk5.out.drewN nq⟩
          case measure => simp only [intOf]; omega
        · obtain rfl : i = j := by omega
          have hxz : x = z := by omega
          rw [hxz] at hx
          have hst := steps_T HZ.out (Nat.le_refl z) hx
          rw [Nat.sub_self, show z - (z - 30) = N from by have := HND.out; omega] at hst
          have hBr : B ≤ wr.heap.size := by have := hb2.size; have := HB.out; have := hkr.size; omega
          clear hxi hxz hij hlt
          go_wp2_with fail
          refine hst.mono ?_
          rintro e w5 ⟨rfl, hb5⟩
          have hx5 : EdT w5 K g T z := EdAt.after hx hb5
          go_wp2_with fail
          refine (redo_T_no g T z K w5 (by have := HZ.out; omega) hx5).mono ?_
          rintro e w6 ⟨rfl, hed6, hb6⟩
          go_wp2
          go_ret
          exact ⟨rfl, by rw [← HB.out]; exact hb2.trans ((hkr.weak HKB.out).below.trans ((hb5.mono hBr).trans (hb6.mono (Nat.le_trans hBr hb5.size))))⟩

theorem undoBack_walk (s : ByteArray) (A : Option Addr) (len cap : Nat) (l : List EdRow) (k : Int) (hs : s.size ≤ 140737488351232) (w : World) (hl : EditssIn w A len cap l) (hk : (Lit.int .i64 k).wf = true) :
    Calls Try.prog 12 #[.string s, .slice A len cap, .int .i64 k] w fun e w' => e = .returned (.bool true) ∧ Below w.heap.size w w' := by
  by_cases h : s.size ≤ 200
  · exact undoBack_core s A len cap l k w hl h
  · have q1 : decide (200 < (s.size : Int)) = true := decide_eq_true (by omega)
    have q1' : decide (200 < s.size) = true := decide_eq_true (by omega)
    go_enter Try.func12, Try.ntmps12
    go_wp2_with fail
    refine (editors_any _).mono ?_
    rintro e w1 ⟨rfl, hb1⟩
    go_wp2_with fail
    refine (typed_no s (by omega) A len cap w1).mono ?_
    rintro e w2 ⟨rfl, hb2⟩
    go_wp2
    go_ret
    exact ⟨rfl, chain hb2 hb1⟩
end Go.Proofs.Ytookbaaicpapnaa
