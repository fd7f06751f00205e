/- The walk of same.table: the table of how much what is left of both has in common. -/
import Derived.Test.YtigbnldmjafgmaaDoorCheck
import Derived.Test.YtigbnldmjafgmaaDoorPlaces
import Derived.Deep.QuietTactic
import Derived.BigQuiet
import Derived.StillTailTactics
namespace Go.Proofs.YtigbnldmjafgmaaDoor
open Go.RowKit
set_option linter.unusedVariables false

/-- Rows of whole numbers in blocks of their own. -/
structure GridAt (w : World) (g n m : Nat) (f : Nat → Nat → Nat) : Prop where
  lt : g + 1 + n < w.heap.size
  row : ∀ i, i ≤ n → w.cell? ⟨g, i, none⟩ = some (.slice (some ⟨g + 1 + i, 0, none⟩) (m + 1) (m + 1))
  cell : ∀ i k, i ≤ n → k ≤ m → w.cell? ⟨g + 1 + i, k, none⟩ = some (.int .i64 (f i k : Nat))
  free : ∀ i k, i ≤ n → k ≤ m → w.frozen? ⟨g + 1 + i, k, none⟩ = false
theorem GridAt.below {w w' : World} {g n m B : Nat} {f : Nat → Nat → Nat} (h : GridAt w g n m f) (hb : Below B w w') (hB : g + 1 + n < B) : GridAt w' g n m f :=
  ⟨Nat.lt_of_lt_of_le h.lt hb.size, fun i hi => (hb.cell (p := ⟨g, i, none⟩) (by show g < B; omega)).trans (h.row i hi), fun i k hi hk => (hb.cell (p := ⟨g + 1 + i, k, none⟩) (by show g + 1 + i < B; omega)).trans (h.cell i k hi hk),
    fun i k hi hk => (hb.frozen (p := ⟨g + 1 + i, k, none⟩) (by show g + 1 + i < B; omega)).trans (h.free i k hi hk)⟩
theorem GridAt.drewN {w : World} {g n m : Nat} {f : Nat → Nat → Nat} (h : GridAt w g n m f) (j : Nat) : GridAt (w.drewN j) g n m f := ⟨h.lt, h.row, h.cell, h.free⟩
theorem GridAt.congr {w : World} {g n m : Nat} {f f' : Nat → Nat → Nat} (h : GridAt w g n m f) (he : ∀ i k, i ≤ n → k ≤ m → f i k = f' i k) : GridAt w g n m f' :=
  ⟨h.lt, h.row, fun i k hi hk => by rw [h.cell i k hi hk, he i k hi hk], h.free⟩
theorem GridAt.set {w : World} {g n m : Nat} {f : Nat → Nat → Nat} (h : GridAt w g n m f) (i k x : Nat) (hi : i ≤ n) (hk : k ≤ m) :
    GridAt (w.setCell ⟨g + 1 + i, k, none⟩ (.int .i64 (x : Nat))) g n m (fun r c => if r = i ∧ c = k then x else f r c) := by
  refine ⟨by rw [size_setCell]; exact h.lt, fun r hr => ?_, fun r c hr hc => ?_, fun r c hr hc => (World.frozen?_setCell _ _ _ _).trans (h.free r c hr hc)⟩
  · rw [World.cell?_setCell_other _ _ _ _ (by intro e; injection e with e _; omega)]
    exact h.row r hr
  · by_cases e : r = i ∧ c = k
    · obtain ⟨rfl, rfl⟩ := e
      rw [World.cell?_setCell_same _ _ _ (h.cell r c hr hc), if_pos ⟨rfl, rfl⟩]
    · rw [World.cell?_setCell_other _ _ _ _ (by intro e'; injection e' with e1 e2; exact e ⟨by omega, e2.symm⟩), if_neg e]
      exact h.cell r c hr hc

theorem infoIntT : (Tryd.prog.info? 3).map (fun i => (i.zero, i.size, i.bytes)) = some (some (.int .i64 0), 1, 8) := by kernel_rfl
theorem infoRowT : (Tryd.prog.info? 100).map (fun i => (i.zero, i.size, i.bytes)) = some (some (.slice none 0 0), 1, 24) := by kernel_rfl
theorem make_rows {P : Program} (t e : TypeId) (ht : P.underlying t = some (.slice e)) (hi : (P.info? e).map (fun i => (i.zero, i.size, i.bytes)) = some (some (.slice none 0 0), 1, 24))
    (n : Nat) (x : Int) (hx : x = n) (h : n ≤ 8796093022208) (w : World) :
    (Instr.makeSlice t (.int .i64 x) (.int .i64 x)).run P w = .ok (.slice (some ⟨w.heap.size, 0, none⟩) n n) (w.alloc (.cells (List.replicate n (Value.slice none 0 0)).toArray e)) := by
  obtain ⟨i0, hi, hz0, hz1, hz2⟩ := info_parts hi
  have := run_make_rowN t e i0 (.slice none 0 0) ht hi hz0 .i64 .i64 n n (Nat.le_refl _) (by rw [hz2]; omega) (by omega) w
  rw [hz1, Nat.mul_one] at this
  subst hx
  have e1 : madeCells (Value.slice none 0 0).cells n = (List.replicate n (Value.slice none 0 0)).toArray := Array.toList_inj.1 (toList_madeCells_one (.slice none 0 0) n)
  rw [e1] at this
  exact this

set_option maxRecDepth 100000 in
set_option maxHeartbeats 4000000 in
theorem table_ok (a b : ByteArray) (ha : a.size ≤ 200) (hb : b.size ≤ 200) (w : World) :
    Calls Tryd.prog 81 #[.string a, .string b] w fun e w' => e = .returned (.slice (some ⟨w.heap.size, 0, none⟩) (a.size + 1) (a.size + 1)) ∧
      GridAt w' w.heap.size a.size b.size (pl a.data.toList b.data.toList) ∧ Below w.heap.size w w' := by
  have hmk1 := fun w : World => make_rows (P := Tryd.prog) 119 100 Tryd.underlying119 infoRowT (a.size + 1) ((a.size : Int) + 1) (by omega) (by omega) w
  obtain ⟨Z, hZ⟩ : ∃ Z, Z = List.replicate (a.size + 1) (Value.slice none 0 0) := ⟨_, rfl⟩
  rw [← hZ] at hmk1
  have HZ := Lib.hid hZ
  clear hZ
  have hmk2 := fun w : World => make_ints (P := Tryd.prog) 100 3 Tryd.underlying100 infoIntT (b.size + 1) ((b.size : Int) + 1) (by omega) (by omega) w
  go_enter Tryd.func81, Tryd.ntmps81
  go_wp2
  have hB := Blk.new w 100 Z.toArray
  have hbw := (Below.refl w.heap.size w).alloc (Nat.le_refl _) (.cells Z.toArray 100)
  have hsz : (w.alloc (.cells Z.toArray 100)).heap.size = w.heap.size + 1 := by simp
  generalize w.alloc (.cells Z.toArray 100) = W at *
  generalize hg : w.heap.size = g at *
  have Hg := Lib.hid hg
  have Hsz := Lib.hid hsz
  clear hmk1 hg hsz
  go_loopw [6, 15] (fun _ iv wr => ∃ (r : Nat) (ρ : List Value), r ≤ a.size + 1 ∧ iv = .int .i64 r ∧ Hid (wr.heap.size = g + 1 + r) ∧ Hid (ρ.length = a.size + 1) ∧ Blk wr g 100 ρ.toArray ∧
      Hid (∀ i, i < r → ρ[i]? = some (.slice (some ⟨g + 1 + i, 0, none⟩) (b.size + 1) (b.size + 1)) ∧ IntsAt wr (g + 1 + i) (List.replicate (b.size + 1) 0)) ∧ Below g w wr) (fun _ iv _ => a.size + 1 - (intOf iv).toNat)
  case atStart => exact ⟨0, Z, Nat.zero_le _, rfl, Hsz, Lib.hid (by rw [HZ.out, List.length_replicate]), hB, Lib.hid (fun i hi => by omega), hbw⟩
  case round =>
    clear hB hbw
    obtain ⟨r, ρ, hr, rfl, Hs, Hl, hB, Hrow, hbr⟩ := hrel
    by_cases hlt : r < a.size + 1
    · have hc : wr.cell? ⟨g, r, none⟩ = some (ρ.getD r undef) := by rw [hB.cell r, List.getElem?_toArray, getElem?_of_getD ρ undef r (by rw [Hl.out]; exact hlt)]
      have hf := hB.frozen r
      have hgl := hB.lt
      generalize ρ.getD r undef = u0 at *
      have hv : wr.heap.size = g + 1 + r := Hs.out
      have Hv := Lib.hid hv
      obtain ⟨ib, is_, ia⟩ := ints_made (wr.setCell ⟨g, r, none⟩ (.slice (some ⟨wr.heap.size, 0, none⟩) (b.size + 1) (b.size + 1))) (b.size + 1) 3
      have Is := Lib.hid is_
      have Ia := Lib.hid ia
      clear hv is_ ia
      go_wp2
      go_roundw
      case rel =>
        refine ⟨r + 1, ρ.set r (.slice (some ⟨g + 1 + r, 0, none⟩) (b.size + 1) (b.size + 1)), by omega, by go_num, Lib.hid ?_, Lib.hid (by rw [List.length_set]; exact Hl.out), ?_, Lib.hid fun i hi => ?_, ?_⟩
        · have := Is.out
          rw [size_setCell, Hv.out] at this
          rw [Hv.out]; omega
        · have h1 := hB.set_ r (.slice (some ⟨wr.heap.size, 0, none⟩) (b.size + 1) (b.size + 1))
          rw [List.setIfInBounds_toArray] at h1
          have h2 := h1.below ib h1.lt
          rw [Hv.out] at h2 ⊢
          exact h2
        · rw [List.getElem?_set]
          by_cases e : r = i
          · subst e
            rw [if_pos rfl, if_pos (by rw [Hl.out]; exact hlt)]
            have := Ia.out
            rw [size_setCell, Hv.out] at this
            rw [Hv.out]
            exact ⟨rfl, this⟩
          · rw [if_neg e]
            obtain ⟨h1, h2⟩ := Hrow.out i (by omega)
            refine ⟨h1, ?_⟩
            have h3 := h2.far (p := ⟨g, r, none⟩) (by show g ≠ _; omega) (.slice (some ⟨wr.heap.size, 0, none⟩) (b.size + 1) (b.size + 1))
            exact h3.below ib (by rw [size_setCell, Hv.out]; omega)
        · exact (hbr.setCell (Nat.le_refl _) _).trans (ib.mono (by rw [size_setCell]; omega))
      case measure => simp [intOf]; omega
    · obtain rfl : r = a.size + 1 := by omega
      have hgrid : GridAt wr g a.size b.size (fun i k => if a.size ≤ i then pl a.data.toList b.data.toList i k else 0) := by
        refine ⟨by rw [Hs.out]; omega, fun i hi => ?_, fun i k hi hk => ?_, fun i k hi hk => ?_⟩
        · rw [hB.cell i, List.getElem?_toArray]; exact (Hrow.out i (by omega)).1
        · have h2 := ((Hrow.out i (by omega)).2.2 k (by rw [List.length_replicate]; omega)).1
          rw [h2, getD_some _ _ _ (by rw [List.length_replicate]; omega), List.getElem_replicate]
          by_cases e : a.size ≤ i
          · rw [if_pos e, pl_end_left _ _ _ _ e]; rfl
          · rw [if_neg e]; rfl
        · exact ((Hrow.out i (by omega)).2.2 k (by rw [List.length_replicate]; omega)).2
      clear hB Hrow Hl Hs hmk2 HZ Hsz
      go_wp2
      go_loopw [7, 8] (fun iv _ wr => ∃ q : Nat, q ≤ a.size ∧ iv = .int .i64 ((q : Int) - 1) ∧ GridAt wr g a.size b.size (fun i k => if q ≤ i then pl a.data.toList b.data.toList i k else 0) ∧ Below g w wr) (fun iv _ _ => (intOf iv + 1).toNat)
      case atStart => exact ⟨a.size, Nat.le_refl _, rfl, hgrid, hbr⟩
      case round =>
        clear hgrid hbr
        obtain ⟨q, hq, rfl, hgrid, hbr⟩ := hrel
        rcases Nat.eq_zero_or_pos q with hq0 | hq0
        · subst hq0
          go_wp2
          go_ret
          exact ⟨by rw [Hg.out]; rfl, by rw [Hg.out]; exact hgrid.congr fun i k _ _ => if_pos (Nat.zero_le _), by rw [Hg.out]; exact hbr⟩
        · obtain ⟨q', rfl⟩ : ∃ q', q = q' + 1 := ⟨q - 1, by omega⟩
          have e1 : (((q' + 1 : Nat) : Int)) - 1 = (q' : Int) := by omega
          rw [e1]
          clear e1 hq0
          go_wp2
          go_loopw [8] (fun kv wr => ∃ c : Nat, c ≤ b.size ∧ kv = .int .i64 ((c : Int) - 1) ∧ GridAt wr g a.size b.size (fun i k => if q' + 1 ≤ i ∨ (i = q' ∧ c ≤ k) then pl a.data.toList b.data.toList i k else 0) ∧ Below g w wr) (fun kv _ => (intOf kv + 1).toNat)
          case atStart =>
            refine ⟨b.size, Nat.le_refl _, rfl, hgrid.congr fun i k hi hk => ?_, hbr⟩
            by_cases h1 : q' + 1 ≤ i
            · rw [if_pos h1, if_pos (.inl h1)]
            · rw [if_neg h1]
              by_cases h2 : i = q' ∧ b.size ≤ k
              · rw [if_pos (.inr h2), pl_end_right _ _ _ _ h2.2]
              · rw [if_neg (by rintro (h | h); exact h1 h; exact h2 h)]
          case round =>
            clear hgrid hbr
            obtain ⟨c, hc, rfl, hgrid, hbr⟩ := hrel
            rcases Nat.eq_zero_or_pos c with hc0 | hc0
            · subst hc0
              go_wp2
              go_roundw
              case rel =>
                refine ⟨q', by omega, by go_num, hgrid.congr fun i k hi hk => ?_, hbr⟩
                by_cases h1 : q' ≤ i
                · rw [if_pos h1, if_pos (by omega)]
                · rw [if_neg h1, if_neg (by omega)]
              case measure => simp [intOf] <;> omega
            · obtain ⟨c', rfl⟩ : ∃ c', c = c' + 1 := ⟨c - 1, by omega⟩
              have e1 : (((c' + 1 : Nat) : Int)) - 1 = (c' : Int) := by omega
              rw [e1]
              clear e1 hc0
              have hqa : q' < a.size := by omega
              have hcb : c' < b.size := by omega
              have hst := pl_step a.data.toList b.data.toList q' c' hqa hcb
              rw [getD_bytes a q' hqa, getD_bytes b c' hcb] at hst
              have hne : ∀ h : ¬ a[q'] = b[c'], ((a[q'].toNat : Int) == (b[c'].toNat : Int)) = false := fun h => by
                rw [beq_eq_false_iff_ne]; intro h2; exact h (UInt8.toNat_inj.1 (by omega))
              have heq' : ∀ h : a[q'] = b[c'], ((a[q'].toNat : Int) == (b[c'].toNat : Int)) = true := fun h => by rw [h]; simp
              have Hst := Lib.hid hst
              have Hne := Lib.hid hne
              have Heq' := Lib.hid heq'
              clear hst hne heq'
              obtain ⟨z, hz⟩ : ∃ z, ((a[q'].toNat : Int) == (b[c'].toNat : Int)) = z := ⟨_, rfl⟩
              go_wp2
              go_quiet (fail)
              generalize hW : World.drewN _ _ = W
              have hg2 : GridAt W g a.size b.size (fun i k => if q' + 1 ≤ i ∨ (i = q' ∧ c' + 1 ≤ k) then pl a.data.toList b.data.toList i k else 0) := by rw [← hW]; exact hgrid.drewN _
              have hb2 : Below g w W := by rw [← hW]; exact below_drewN hbr _
              clear hW hgrid hbr
              have r0 := hg2.row q' (by omega)
              have r1 := hg2.row (q' + 1) (by omega)
              have c00 := hg2.cell q' c' (by omega) (by omega)
              have f00 := hg2.free q' c' (by omega) (by omega)
              have c01 := hg2.cell q' (c' + 1) (by omega) (by omega)
              have c10 := hg2.cell (q' + 1) c' (by omega) (by omega)
              have c11 := hg2.cell (q' + 1) (c' + 1) (by omega) (by omega)
              rw [if_pos (.inr ⟨rfl, Nat.le_refl _⟩)] at c01
              rw [if_pos (.inl (Nat.le_refl _))] at c10 c11
              have hgs := hg2.set q' c' (pl a.data.toList b.data.toList q' c') (by omega) (by omega)
              have hgn := hgs.congr (f' := fun i k => if q' + 1 ≤ i ∨ (i = q' ∧ c' ≤ k) then pl a.data.toList b.data.toList i k else 0) (fun i k hi hk => by
                by_cases h1 : i = q' ∧ k = c'
                · rw [if_pos h1, if_pos (.inr ⟨h1.1, by omega⟩), h1.1, h1.2]
                · rw [if_neg h1]
                  by_cases h2 : q' + 1 ≤ i ∨ (i = q' ∧ c' + 1 ≤ k)
                  · rw [if_pos h2, if_pos (by omega)]
                  · rw [if_neg h2, if_neg (by omega)])
              have hbn := hb2.setCell (p := ⟨g + 1 + q', c', none⟩) (by show g ≤ g + 1 + q'; omega) (.int .i64 (pl a.data.toList b.data.toList q' c' : Nat))
              have Hgn := Lib.hid hgn
              have Hbn := Lib.hid hbn
              have l11 := pl_le a.data.toList b.data.toList (q' + 1) (c' + 1)
              have l10 := pl_le a.data.toList b.data.toList (q' + 1) c'
              have l01 := pl_le a.data.toList b.data.toList q' (c' + 1)
              have hal : a.data.toList.length = a.size := rfl
              rw [hal] at l11 l10 l01
              clear hgs hgn hbn hg2 hb2 hal
              obtain ⟨Q, hQ⟩ : ∃ Q, q' + 1 = Q := ⟨_, rfl⟩
              obtain ⟨C, hC⟩ : ∃ C, c' + 1 = C := ⟨_, rfl⟩
              rw [hQ] at r1 c10 c11 l10 l11
              rw [hC] at c01 c11 l01 l11
              rw [hQ, hC] at Hst
              have wq : IntKind.i64.wrap ((q' : Int) + 1) = (Q : Int) := by rw [IntKind.wrap_i64]; omega
              have wc : IntKind.i64.wrap ((c' : Int) + 1) = (C : Int) := by rw [IntKind.wrap_i64]; omega
              have bq : (Q : Int) < a.size + 1 := by omega
              have bc : (C : Int) < b.size + 1 := by omega
              have dq : (q' : Int) < a.size + 1 := by omega
              have dc : (c' : Int) < b.size + 1 := by omega
              have dq' : q' < a.size + 1 := by omega
              have dc' : c' < b.size + 1 := by omega
              have bq' : Q < a.size + 1 := by omega
              have bc' : C < b.size + 1 := by omega
              have HQ := Lib.hid hQ
              have HC := Lib.hid hC
              clear hQ hC
              generalize hN : pl a.data.toList b.data.toList q' c' = N at Hst Hgn Hbn
              generalize pl a.data.toList b.data.toList Q C = P11 at *
              generalize pl a.data.toList b.data.toList Q c' = P10 at *
              generalize pl a.data.toList b.data.toList q' C = P01 at *
              clear hN
              generalize (if q' + 1 ≤ q' ∨ (q' = q' ∧ c' + 1 ≤ c') then pl a.data.toList b.data.toList q' c' else 0) = v00 at *
              by_cases heq : a[q'] = b[c']
              · have hzt : z = true := by rw [← hz]; exact Heq'.out heq
                subst hzt
                have hn : N = P11 + 1 := by have := Hst.out; rwa [if_pos heq] at this
                have wn : IntKind.i64.wrap ((P11 : Int) + 1) = (N : Int) := by rw [IntKind.wrap_i64]; omega
                clear heq hz hn
                go_wp2
                go_still_tail 16, (by kernel_rfl)
                change wpList _ _ _ _ _ W.drew
                go_wp2
                go_roundw
                case rel =>
                  repeat apply Exists.intro
                  exact ⟨⟨c', by omega, by go_num, ⟨Hgn.out.lt, Hgn.out.row, Hgn.out.cell, Hgn.out.free⟩, Hbn.out.drew⟩, rfl⟩
                case measure => simp [intOf] <;> omega
              · have hzt : z = false := by rw [← hz]; exact Hne.out heq
                subst hzt
                have hn : N = max P10 P01 := by have := Hst.out; rwa [if_neg heq] at this
                have hmax : ∀ (ats : Array TypeId) (t : TypeId) (w : World), (Builtin.max_ ats t #[.int .i64 (P10 : Int), .int .i64 (P01 : Int)]).run Tryd.prog w = .ok (.int .i64 (N : Int)) w := fun ats t w => by
                  rw [run_max_int2]; congr 2; omega
                clear heq hz hn
                go_wp2
                go_still_tail 23, (by kernel_rfl)
                change wpList _ _ _ _ _ W.drew
                go_wp2
                go_roundw
                case rel =>
                  repeat apply Exists.intro
                  exact ⟨⟨c', by omega, by go_num, ⟨Hgn.out.lt, Hgn.out.row, Hgn.out.cell, Hgn.out.free⟩, Hbn.out.drew⟩, rfl⟩
                case measure => simp [intOf] <;> omega

end Go.Proofs.YtigbnldmjafgmaaDoor
