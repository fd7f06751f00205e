/- The walk of phrase.Get, at phrases that tell texts. -/
import Derived.Test.YtccbfhaoepomnaaPhraseWalk
import Derived.RegionTactic
import Derived.ChangeAlike
namespace Go.Proofs.Ytccbfhaoepomnaa
open Go.RowKit
set_option linter.unusedVariables false

/-- 'string([]byte{x})', in whatever world holds it. -/
theorem one_byte_at {P : Program} (w : World) (src dst e : TypeId) (g : Nat) (x : UInt8) (hs : P.underlying src = some (.slice e)) (he : P.underlying e = some (.int .u8)) (hd : P.underlying dst = some .string) (hc : w.cell? ⟨g, 0, none⟩ = some (.int .u8 (x.toNat : Int))) :
    (convert src dst (.slice (some ⟨g, 0, none⟩) 1 1)).run P w = .ok (.string ⟨#[x]⟩) w := by
  refine run_string_of w src dst e ⟨g, 0, none⟩ 1 1 [x] rfl hs he hd fun j hj => ?_
  have : j = 0 := by simp at hj; omega
  subst this
  rw [add_zero]; exact hc
/-- The phrases tell these texts. -/
structure TellsP (L : List (Int × UInt8)) (T : List (List UInt8)) : Prop where
  len : T.length = L.length + 1
  zero : T.getD 0 [] = []
  tells : ∀ j, j < L.length → 0 ≤ (L.getD j (0, 0)).1 ∧ (L.getD j (0, 0)).1 ≤ (j : Int) ∧ T.getD (j + 1) [] = T.getD ((L.getD j (0, 0)).1).toNat [] ++ [(L.getD j (0, 0)).2]
theorem TellsP.of_inv {s : List UInt8} {x : PhS} (h : InvP s x) : TellsP x.1 x.2.1 := ⟨h.len, h.zero, h.tells⟩
theorem TellsP.take {L : List (Int × UInt8)} {T : List (List UInt8)} (h : TellsP L T) (k : Nat) (hk : k ≤ L.length) : TellsP (L.take k) (T.take (k + 1)) := by
  refine ⟨by rw [List.length_take, List.length_take, h.len]; omega, by rw [getD_take _ _ _ _ (by omega)]; exact h.zero, fun j hj => ?_⟩
  rw [List.length_take] at hj
  obtain ⟨h1, h2, h3⟩ := h.tells j (by omega)
  rw [getD_take _ _ _ _ (by omega), getD_take _ _ _ _ (by omega), getD_take _ _ _ _ (by omega)]
  exact ⟨h1, h2, h3⟩
theorem flatten_take_le (T : List (List UInt8)) (k : Nat) : (T.take k).flatten.length ≤ T.flatten.length := by
  conv => rhs; rw [← List.take_append_drop k T]
  rw [List.flatten_append, List.length_append]; omega
theorem flatten_snoc (T : List (List UInt8)) (t : List UInt8) : (T ++ [t]).flatten = T.flatten ++ t := by simp

set_option maxHeartbeats 4000000 in
theorem phraseGet_ok (A : Option Addr) (n c B0 : Nat) (L : List (Int × UInt8)) (T : List (List UInt8)) (rest : ByteArray) (hn : n ≤ 200) (hl : L.length = n) (hT : TellsP L T) (hsum : T.flatten.length + rest.size ≤ 200) (w : World)
    (h : Reads w B0 A n 2 (L.flatMap cPhrase)) (hB0 : B0 ≤ w.heap.size) :
    Calls Try.prog 37 #[.slice A n c, .string rest] w fun e w' => e = .returned (.tuple #[.string (ba (T.flatten ++ rest.data.toList)), .int .i64 0]) ∧ Below w.heap.size w w' := by
  have Hl := Lib.hid hl
  have HT := Lib.hid hT
  have q1 : decide ((200 : Int) < (n : Int)) = false := decide_eq_false (by omega)
  clear hl hT
  go_enter Try.func37, Try.ntmps37
  go_wp2_with fail
  refine (wordCheck_ok rest (by omega) _).mono ?_
  rintro e w1 ⟨rfl, rfl⟩
  go_wp2
  have hT0 := World.ownsRow_lit (base := w.heap.size) (e := 9) (size := 1) w #[.string ⟨#[]⟩] 1 (Nat.le_refl _) (by unfold maxLen; omega) rfl
  have hb0 := (Below.refl w.heap.size w).alloc (Nat.le_refl _) (.cells #[.string ⟨#[]⟩] 9)
  generalize hB : w.heap.size = B at *
  have hBw : B ≤ w.heap.size := by omega
  generalize w.alloc (.cells #[.string ⟨#[]⟩] 9) = W0 at *
  have HB := Lib.hid hB
  clear hB
  go_loopw [7, 8, 9, 10, 11, 23] (fun tv ov _ _ _ iv wr => ∃ (k : Nat) (A' : Option Addr) (c' : Nat), k ≤ n ∧ iv = .int .i64 k ∧ tv = .slice A' (k + 1) c' ∧ ov = .string (ba (T.take (k + 1)).flatten) ∧
      wr.ownsRow B 9 1 (.slice A' (k + 1) c') (k + 1) ((T.take (k + 1)).map cS) ∧ Below B w wr) (fun _ _ _ _ _ iv _ => n - (intOf iv).toNat)
  case atStart =>
    have e : T.take (0 + 1) = [[]] := by
      have h1 := HT.out.len
      have h2 := HT.out.zero
      cases T with
      | nil => simp at h1
      | cons t T => simp at h2; simp [h2]
    exact ⟨0, _, 1, Nat.zero_le _, rfl, rfl, by rw [e]; rfl, by rw [e]; exact hT0, hb0⟩
  case round =>
    clear hT0 hb0
    obtain ⟨k, A', c', hk, rfl, rfl, rfl, hown, hbr⟩ := hrel
    have hfl := flatten_take_le T (k + 1)
    by_cases hlt : k < n
    · have h := h.below (hbr.mono hB0)
      obtain ⟨b, o, rfl, hbB, hc⟩ := h.2 (by omega)
      have c0 := hc (k * 2 + 0) (by rw [flat_length cPhrase 2 cPhrase_len, Hl.out]; omega)
      have c1 := hc (k * 2 + 1) (by rw [flat_length cPhrase 2 cPhrase_len, Hl.out]; omega)
      rw [flat_getD cPhrase 2 cPhrase_len (0, 0) L k _ (by rw [Hl.out]; omega) (by omega)] at c0 c1
      simp only [cPhrase, List.getD_cons_zero, List.getD_cons_succ, Nat.add_zero, ← Nat.add_assoc] at c0 c1
      obtain ⟨t1, t2, t3⟩ := HT.out.tells k (by rw [Hl.out]; exact hlt)
      have hts := take_succ_getD T (k + 1) [] (by rw [HT.out.len, Hl.out]; omega)
      have hfl2 := flatten_take_le T (k + 1 + 1)
      rw [hts, flatten_snoc, List.length_append] at hfl2
      obtain ⟨g, rfl⟩ : ∃ g, A' = some ⟨g, 0, none⟩ := by
        obtain ⟨A2, c2, hA, hA2⟩ := own_shape hown
        obtain ⟨g, hg, _⟩ := hA2 (by omega)
        injection hA with e1 _ _
        exact ⟨g, by rw [e1, hg]⟩
      generalize L.getD k (0, 0) = x at *
      obtain ⟨m0, ch⟩ := x
      simp only at c0 c1 t1 t2 t3
      obtain ⟨m, rfl⟩ : ∃ m : Nat, m0 = m := ⟨m0.toNat, by omega⟩
      rw [Int.toNat_natCast] at t3
      have hmk : m ≤ k := by omega
      have hcm := (hown.cellAt m (by omega)).trans (cS_at (T.take (k + 1)) m (by rw [List.length_take, HT.out.len, Hl.out]; omega))
      rw [getD_take _ _ _ _ (by omega)] at hcm
      rw [t3, List.length_append, List.length_singleton] at hfl2
      have Ht3 := Lib.hid t3
      have Hts := Lib.hid hts
      clear hc t1 t2 t3 hts
      rw [← ba_size] at hfl2
      rw [← ba_size (T.getD m [])] at hfl2
      rw [← ba_size] at hfl
      have hX : ba (T.take (k + 1 + 1)).flatten = ba (T.take (k + 1)).flatten ++ (ba (T.getD m []) ++ ⟨#[ch]⟩) := ba_ext (by
        rw [Hts.out, flatten_snoc, Ht3.out]
        try simp [ba, ByteArray.data_append])
      have hY : cS (T.getD (k + 1) []) = .string (ba (T.getD m []) ++ ⟨#[ch]⟩) := by
        unfold cS; rw [Ht3.out]; exact congrArg Value.string (ba_ext (by simp [ba, ByteArray.data_append]))
      have HX := Lib.hid hX
      have HY := Lib.hid hY
      clear hX hY
      generalize ba (T.getD m []) = tm at *
      generalize hou : ba (T.take (k + 1)).flatten = ou at *
      have Hou := Lib.hid hou
      clear hou
      have hx1 : (ByteArray.mk #[ch]).size = 1 := rfl
      have q2 : decide ((m : Int) < 0) = false := decide_eq_false (by omega)
      have q3 : decide (k < m) = false := decide_eq_false (by omega)
      have q3' : decide ((k : Int) < (m : Int)) = false := decide_eq_false (by omega)
      go_wp2
      generalize hW : World.alloc _ _ = W
      have f1 : Blk W wr.heap.size 80 #[.int .i64 (m : Int), .int .u8 (ch.toNat : Int)] := by rw [← hW]; exact Blk.new wr _ _
      have hown2 : W.ownsRow B 9 1 (.slice (some ⟨g, 0, none⟩) (k + 1) c') (k + 1) ((T.take (k + 1)).map cS) := by rw [← hW]; exact hown.alloc _
      have hbr2 : Below B w W := by rw [← hW]; exact hbr.alloc (by have := hbr.size; omega) _
      have hcm2 : W.cell? ⟨g, m, none⟩ = some (.string tm) := by rw [← hW, World.cell?_alloc_lt _ _ _ (by have := (hown.lt g rfl).2; exact this)]; exact hcm
      clear hW hcm hown hbr c0 c1
      have g0 := f1.cell 0
      have g1 := f1.cell 1
      have hgl := f1.lt
      have hgl2 := (hown2.lt g rfl).2
      simp only [List.getElem?_toArray, List.getElem?_cons_zero, List.getElem?_cons_succ] at g0 g1
      generalize wr.heap.size = gp at *
      have hcvA := one_byte_at (P := Try.prog) (W.drew.alloc (.cells #[.int .u8 (ch.toNat : Int)] 5)) 27 9 5 W.heap.size ch Try.underlying27 Try.underlying5 Try.underlying9 (by rw [show W.heap.size = W.drew.heap.size from rfl, World.cell?_alloc_mark]; rfl)
      have hcvB := one_byte_at (P := Try.prog) (W.alloc (.cells #[.int .u8 (ch.toNat : Int)] 5)).drew 27 9 5 W.heap.size ch Try.underlying27 Try.underlying5 Try.underlying9 (by show (W.alloc _).cell? _ = _; rw [World.cell?_alloc_mark]; rfl)
      have hmi : (m : Int) < (k : Int) + 1 := by omega
      have hmi' : m < k + 1 := by omega
      have hsz : tm.size + 1 ≤ 9223372036854775807 := by omega
      go_region
      generalize hW2 : World.drew _ = W2
      have hown3 : W2.ownsRow B 9 1 (.slice (some ⟨g, 0, none⟩) (k + 1) c') (k + 1) ((T.take (k + 1)).map cS) := by rw [← hW2]; exact (hown2.alloc _).drew
      have hbr3 : Below B w W2 := by rw [← hW2]; exact (hbr2.alloc (by have := hbr2.size; omega) _).drew
      clear hW2 hcvA hcvB hcm2 g0 g1 f1 hown2 hbr2 hgl hgl2
      have hsz2 : ou.size + (tm.size + 1) ≤ 9223372036854775807 := by omega
      have q4 : decide ((200 : Int) < (ou.size : Int) + ((tm.size : Int) + 1)) = false := decide_eq_false (by omega)
      go_wp2_with (first | (at_builtin; go_must (refine wpList_append_new W2 51 (.tmp 47) (.tmp 49) ?_ ?_ B 9 infoStr Try.underlying51 ?_ ?_ (some ⟨g, 0, none⟩) (k + 1) c' _ ?_ hown3 #[.string (tm ++ ⟨#[ch]⟩)] 1 ?_ ?_ ?_ ?_ ?_ ?_ ?_; rfl; rfl; rfl; decide; (simp [Act.eval]); (simp [Act.eval]); rfl; (simp [Value.oneCell']); (unfold maxLen; omega); omega; (have := hbr3.size; omega)); intro A3 c3 w3 hown4 hb4 hg4))
      go_roundw
      case rel =>
        refine ⟨k + 1, A3, c3, by omega, by go_num, rfl, by rw [HX.out], ?_, hbr3.trans hb4⟩
        rw [Hts.out, List.map_append, List.map_singleton, HY.out]
        exact hown4
      case measure => simp [intOf]; omega
    · obtain rfl : k = n := by omega
      have e : T.take (k + 1) = T := List.take_of_length_le (by rw [HT.out.len, Hl.out]; omega)
      rw [e] at hown hfl ⊢
      have hX : ba (T.flatten ++ rest.data.toList) = ba T.flatten ++ rest := ba_ext (by simp [ba, ByteArray.data_append])
      have HX := Lib.hid hX
      rw [← ba_size] at hsum
      clear hX e hfl
      generalize ba T.flatten = F at *
      have hsz : F.size + rest.size ≤ 9223372036854775807 := by omega
      have q4 : decide ((200 : Int) < (F.size : Int) + (rest.size : Int)) = false := decide_eq_false (by omega)
      go_wp2
      go_ret2
      exact ⟨by rw [HX.out]; rfl, by rw [HB.out]; exact hbr⟩

end Go.Proofs.Ytccbfhaoepomnaa
