/- TurnBack's walk: a word is told by its transform, and the transform's bytes are the word's own. -/
import Derived.Test.YtpnpalbdlhlnkaaTurnGet
import Derived.Test.YtpnpalbdlhlnkaaTurnBackP
import Derived.Test.YtpnpalbdlhlnkaaEqual
import Derived.Test.YtpnpalbdlhlnkaaTail
import Derived.Test.YtpnpalbdlhlnkaaBs12
namespace Go.Proofs.Ytpnpalbdlhlnkaa
open Go.RowKit
set_option linter.unusedVariables false

theorem putT_size {s : ByteArray} (h : s.size ≤ 200) : (putT s).size = s.size := by
  unfold putT
  rw [if_pos h]
  show (tOf s.data.toList).length = s.size
  rw [tOf_len]; rfl
/-- The transform is inverted. -/
theorem put_back {s : ByteArray} (h : s.size ≤ 200) : getOk (putT s) (putA s) ∧ candB (putT s) (putA s).toNat = s := by
  have hsz := putT_size h
  have hA : putA s = (atOf s.data.toList : Int) := by unfold putA; rw [if_pos h]
  have hT : (putT s).data.toList = lastB s.data.toList (ordOf s.data.toList) := by unfold putT; rw [if_pos h]; rfl
  have hl : s.data.toList.length = s.size := rfl
  have hcand : candB (putT s) (putA s).toNat = s ∧ putA s < max 1 (s.size : Int) := by
    rcases Nat.eq_zero_or_pos s.size with h0 | h0
    · have es : s = ⟨#[]⟩ := str_ext (List.length_eq_zero_iff.1 (by rw [hl]; exact h0))
      rw [es, putT_nil.1, putT_nil.2]
      refine ⟨?_, by decide⟩
      unfold candB
      rfl
    · obtain ⟨e1, e2⟩ := turn_back (s := s.data.toList) (o := ordOf s.data.toList) (l := ordB (lastB s.data.toList (ordOf s.data.toList))) (by omega) (ordOf_is _) (ordB_is _)
      refine ⟨?_, by rw [hA]; unfold atOf; omega⟩
      refine str_ext ?_
      unfold candB
      rw [hT, hsz, hA]
      show stepsG _ _ ((atOf s.data.toList : Int)).toNat s.size = _
      rw [Int.toNat_natCast]
      exact e1
  refine ⟨⟨⟨by omega, by rw [hA]; omega, by rw [hsz]; exact hcand.2⟩, by rw [hcand.1], by rw [hcand.1]⟩, hcand.1⟩
/-- Its bytes are the word's. -/
theorem putT_perm {s : ByteArray} (h : s.size ≤ 200) : s.data.toList.Perm (putT s).data.toList := by
  have hT : (putT s).data.toList = lastB s.data.toList (ordOf s.data.toList) := by unfold putT; rw [if_pos h]; rfl
  rw [hT]
  exact (last_perm (ordOf_is _)).symm

theorem OwnB.holds8 {w : World} {base g c : Nat} {e : TypeId} {s : ByteArray} (h : OwnB w base e (some ⟨g, 0, none⟩) s.size c s.data.toList) : Sort.Holds c8 w g 0 s.data := fun j hj => by
  have hj' : j < s.size := hj
  refine ⟨?_, ?_⟩
  · rw [Nat.zero_add, h.cell j hj']
    have e1 : s.data.toList.getD j 0 = s.data[j]! := by
      rw [List.getD_eq_getElem?_getD, getElem!_pos s.data j hj, List.getElem?_eq_getElem (by simpa using hj)]
      rfl
    rw [e1]
  · rw [Nat.zero_add]; exact h.frozen j hj'
theorem reads8 {w : World} {g B : Nat} {d : Array UInt8} (h : Sort.Holds c8 w g 0 d) (hB : g < B) : Reads w B (some ⟨g, 0, none⟩) d.size 1 (d.toList.flatMap cByte) := by
  refine ⟨by rw [flat_length cByte 1 cByte_len]; simp, fun _ => ⟨g, 0, rfl, hB, fun j hj => ?_⟩⟩
  have hj' : j < d.size := by rw [flat_length cByte 1 cByte_len] at hj; simpa using hj
  rw [(h j hj').1]
  have e := flat_getD cByte 1 cByte_len 0 d.toList j 0 (by simpa using hj') (by omega)
  simp only [Nat.mul_one, Nat.add_zero] at e
  rw [e]
  have e1 : d.toList.getD j 0 = d[j]! := by
    rw [List.getD_eq_getElem?_getD, getElem!_pos d j hj', List.getElem?_eq_getElem (by simpa using hj')]
    rfl
  rw [e1]
  rfl

set_option maxHeartbeats 3200000 in
set_option maxRecDepth 100000 in
theorem turnBack_walk (s : ByteArray) (hs0 : s.size ≤ 140737488351232) (w : World) :
    Calls Try.prog 3 #[.string s] w fun e w' => e = .returned (.bool true) ∧ Below w.heap.size w w' := by
  have H1 := Lib.hid (turnPut_any s)
  by_cases hs : s.size ≤ 200
  · obtain ⟨hok, hcb⟩ := put_back hs
    have hpm := putT_perm hs
    have hts := putT_size hs
    have hE : putE s = 0 := by unfold putE; rw [if_pos hs]
    have hG := turnGet_any (putT s) (putA s) (by omega)
    have HG := Lib.hid (fun w => (hG w).mono (R' := fun e w' => Below w.heap.size w w' ∧ e = .returned (.tuple #[.string s, .int .i64 0])) fun e w' ⟨hb, h⟩ => by
      rcases h with ⟨_, h⟩ | ⟨hno, _⟩
      · exact ⟨hb, by rw [h, hcb]⟩
      · exact absurd hok hno)
    have HS := Lib.hid (sort8_eq s.data (putT s).data hpm)
    have H2 := H1
    rw [hE] at H2
    have ht200 : (putT s).size ≤ 200 := by omega
    clear hG hok hcb hpm hE H1 hts
    generalize putT s = t at *
    generalize putA s = a at *
    have hcv := fun w s => run_bytes_of_string (P := Try.prog) w 9 28 5 s Try.underlying9 Try.underlying28 Try.underlying5
    have q1 : (s.toList == s.toList) = true := by simp
    go_enter Try.func3, Try.ntmps3
    go_wp2_with fail
    refine (turns_any _).mono ?_
    rintro e w1 ⟨rfl, hb1⟩
    go_wp2_with fail
    refine (H2.out _).mono ?_
    rintro e w2 ⟨rfl, hb2⟩
    have hb2 := chain hb2 hb1
    go_wp2_with fail
    refine (HG.out _).mono ?_
    rintro e w3 ⟨hb3, rfl⟩
    have hb3 := chain hb3 hb2
    clear hb1 hb2
    obtain ⟨c1, hc1⟩ : ∃ c1, c1 = grownCap w3 s.size 0 5 := ⟨_, rfl⟩
    obtain ⟨W1, hW1⟩ : ∃ W1, W1 = w3.drew.alloc (.cells (bytesRow s c1) 5 ((bytesRow s c1).size, (bytesRow s c1).size + 1)) := ⟨_, rfl⟩
    have hcv1 := hcv w3 s
    rw [← hc1, ← hW1] at hcv1
    obtain ⟨c2, hc2⟩ : ∃ c2, c2 = grownCap W1 t.size 0 5 := ⟨_, rfl⟩
    obtain ⟨W2, hW2⟩ : ∃ W2, W2 = W1.drew.alloc (.cells (bytesRow t c2) 5 ((bytesRow t c2).size, (bytesRow t c2).size + 1)) := ⟨_, rfl⟩
    have hcv2 := hcv W1 t
    rw [← hc2, ← hW2] at hcv2
    have o1 := OwnB.made (base := w3.heap.size) s c1 (by rw [hc1]; exact grownCap_ge _ _ _ _) (by rw [hc1]; exact grownCap_le_maxLen _ _ _ _ (by unfold maxLen; omega)) 5 w3 W1 hW1.symm (Nat.le_refl _)
    have o2 := OwnB.made (base := W1.heap.size) t c2 (by rw [hc2]; exact grownCap_ge _ _ _ _) (by rw [hc2]; exact grownCap_le_maxLen _ _ _ _ (by unfold maxLen; omega)) 5 W1 W2 hW2.symm (Nat.le_refl _)
    obtain ⟨hbA, hzA, _⟩ := bytes_at s c1 (by rw [hc1]; exact grownCap_ge _ _ _ _) 5 w3 W1 hW1.symm
    obtain ⟨hbB, hzB, _⟩ := bytes_at t c2 (by rw [hc2]; exact grownCap_ge _ _ _ _) 5 W1 W2 hW2.symm
    have hbC := chain hbB (chain hbA hb3)
    have h1 := o1.below hbB
    have k1 := h1.holds8
    have k2 := o2.holds8
    have z1 : w3.heap.size < W2.heap.size := by omega
    have z2 : W1.heap.size < W2.heap.size := by omega
    have zne : w3.heap.size ≠ W1.heap.size := by omega
    have zb : w.heap.size ≤ w3.heap.size := hb3.size
    have zb1 : w.heap.size ≤ W1.heap.size := by omega
    clear hc1 hc2 hW1 hW2 o1 o2 hbA hbB h1 hcv hb3 hzA hzB
    have hS1 := bSort w3.heap.size 0 c1 s.data W2 k1 z1 (by show s.size < _; omega)
    have HS1 := Lib.hid hS1
    clear hS1
    go_wp2_with fail
    refine (HS1.out).mono ?_
    rintro e W3 ⟨rfl, hA1⟩
    have g1 := At.grown8 hA1
    have k3 := Holds.grown8 g1 k2 (fun e => zne e.symm) z2
    have k4 := (hA1.holds k1 (sort8_size _) z1).1
    have hbD := hbC.grown g1 (by omega) fun k hk => by injection hk with hk; omega
    have z4 : W1.heap.size < W3.heap.size := Nat.lt_of_lt_of_le z2 g1.size
    have z3 : w3.heap.size < W3.heap.size := Nat.lt_of_lt_of_le z1 g1.size
    have hS2 := bSort W1.heap.size 0 c2 t.data W3 k3 z4 (by show t.size < _; omega)
    have HS2 := Lib.hid hS2
    clear hS2 hA1
    go_wp2_with fail
    refine (HS2.out).mono ?_
    rintro e W4 ⟨rfl, hA2⟩
    have g2 := At.grown8 hA2
    have k5 := Holds.grown8 g2 k4 zne z3
    have k6 := (hA2.holds k3 (sort8_size _) z4).1
    have hbE := hbD.grown g2 (by omega) fun k hk => by injection hk with hk; omega
    have z5 : W1.heap.size < W4.heap.size := Nat.lt_of_lt_of_le z4 g2.size
    have z6 : w3.heap.size < W4.heap.size := Nat.lt_of_lt_of_le z3 g2.size
    have r1 := reads8 k5 z6
    have r2 := reads8 k6 z5
    have hq := equalByte_any (some ⟨w3.heap.size, 0, none⟩) (some ⟨W1.heap.size, 0, none⟩) s.size t.size c1 c2 W4.heap.size W4.heap.size (Sort.sort lt8 s.data).toList (Sort.sort lt8 t.data).toList W4 (by omega) (by omega)
      (by rw [Array.length_toList, sort8_size]; rfl) (by rw [Array.length_toList, sort8_size]; rfl) (by rw [sort8_size] at r1; exact r1) (by rw [sort8_size] at r2; exact r2)
    rw [HS.out, decide_eq_true rfl] at hq
    have HQ := Lib.hid hq
    clear hq hA2 r1 r2 k1 k2 k3 k4 k5 k6 HS HS1 HS2 HG H2 hcv1 hcv2
    go_wp2_with (go_at_call 8; refine (HQ.out).mono ?_; rintro e W5 ⟨rfl, hbF⟩)
    go_ret
    exact ⟨by simp, chain hbF hbE⟩
  · have hE : putE s = 2 := by unfold putE; rw [if_neg hs]
    have hT : putT s = ⟨#[]⟩ := by unfold putT; rw [if_neg hs]
    have hA : putA s = 0 := by unfold putA; rw [if_neg hs]
    have H2 := H1
    rw [hE, hT, hA] at H2
    clear H1 hE hT hA
    go_enter Try.func3, Try.ntmps3
    go_wp2_with fail
    refine (turns_any _).mono ?_
    rintro e w1 ⟨rfl, hb1⟩
    go_wp2_with fail
    refine (H2.out _).mono ?_
    rintro e w2 ⟨rfl, hb2⟩
    have hb2 := chain hb2 hb1
    go_wp2_with fail
    go_ret
    exact ⟨by simp, hb2⟩
end Go.Proofs.Ytpnpalbdlhlnkaa
