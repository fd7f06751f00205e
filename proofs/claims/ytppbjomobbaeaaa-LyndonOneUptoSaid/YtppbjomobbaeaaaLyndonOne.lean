/- LyndonOne: the factorization into non-increasing Lyndon words is unique. -/
import Derived.Test.YtppbjomobbaeaaaLyndonLaws
import Derived.Test.YtppbjomobbaeaaaJoinAny
import Derived.Test.YtppbjomobbaeaaaArgs
namespace Go.Proofs.Ytppbjomobbaeaaa
open Go.RowKit Go.Deep
set_option linter.unusedVariables false

theorem bulk_pos {H : Type} : ∀ d : DataW H, 1 ≤ Rows.uptoBulk d
  | .lit l => by cases l <;> simp [Rows.uptoBulk]
  | .nil => by simp [Rows.uptoBulk]
  | .ptr _ => by simp [Rows.uptoBulk]
  | .slice _ _ => by simp [Rows.uptoBulk]
  | .agg _ => by simp [Rows.uptoBulk]
  | .iface _ _ => by simp [Rows.uptoBulk]
  | .map _ => by simp [Rows.uptoBulk]
  | .held _ => by simp [Rows.uptoBulk]
theorem bulk_all {H : Type} : ∀ l : List (DataW H), l.length ≤ Rows.uptoBulkAll l
  | [] => Nat.zero_le _
  | d :: l => by
    have := bulk_pos d
    have := bulk_all l
    simp only [Rows.uptoBulkAll, List.length_cons]; omega
theorem slice_bulk {P : Program} {H : Type} {enc : TypeId × Value → H} {w : World} {sp : Nat → Bool} {held : Bool} {t e : TypeId} {A : Option Addr} {len cap : Nat} {d : DataW H} {p : List MemPlace} (ht : P.underlying t = some (.slice e))
    (h : DataW.Trod enc P w 0 sp held t (.slice A len cap) d p) : len ≤ Rows.uptoBulk d := by
  obtain ⟨fuel, hf'⟩ := h
  rcases open_slice ht hf' with ⟨hcs, hx⟩ | ⟨a, len', cap', m, n, D, Pl, hcs, _, hl, hm, hmm, hx, hall⟩
  · simp [Value.cells] at hcs
    omega
  · simp [Value.cells] at hcs
    obtain ⟨rfl, rfl, rfl⟩ := hcs
    simp only [Prod.mk.injEq] at hx
    obtain ⟨rfl, rfl⟩ := hx
    have := bulk_all ((List.range len).map D)
    rw [List.length_map, List.length_range] at this
    simp only [Rows.uptoBulk]
    omega

/-- The words so far: each a Lyndon word of no more than 200 bytes, none less than the next one. -/
def Falls (F : List (List UInt8)) : Prop := (∀ f ∈ F, f.length ≤ 200 ∧ Lyn f) ∧ F.Pairwise fun a b => lle b a
theorem falls_nil : Falls [] := ⟨by simp, List.Pairwise.nil⟩
theorem falls_one {t : List UInt8} (h1 : t.length ≤ 200) (h2 : Lyn t) : Falls [t] := ⟨fun f hf => by rw [List.mem_singleton.1 hf]; exact ⟨h1, h2⟩, by simp⟩
theorem falls_snoc {F : List (List UInt8)} {f t : List UInt8} (h : Falls (F ++ [f])) (h1 : t.length ≤ 200) (h2 : Lyn t) (h3 : lle t f) : Falls (F ++ [f] ++ [t]) := by
  refine ⟨fun g hg => ?_, ?_⟩
  · rcases List.mem_append.1 hg with hg | hg
    · exact h.1 g hg
    · rw [List.mem_singleton.1 hg]; exact ⟨h1, h2⟩
  · refine List.pairwise_append.2 ⟨h.2, by simp, fun a ha b hb => ?_⟩
    rw [List.mem_singleton.1 hb]
    rcases List.mem_append.1 ha with ha | ha
    · exact lle_trans h3 ((List.pairwise_append.1 h.2).2.2 a ha f (by simp))
    · rw [List.mem_singleton.1 ha]; exact h3
theorem falls_sum : ∀ {F : List (List UInt8)}, (∀ f ∈ F, f.length ≤ 200) → F.flatten.length ≤ 200 * F.length
  | [], _ => by simp
  | f :: F, h => by
    have h1 := h f (List.mem_cons_self ..)
    have h2 := falls_sum fun g hg => h g (List.mem_cons_of_mem _ hg)
    rw [List.flatten_cons, List.length_append, List.length_cons, Nat.mul_add]
    omega
theorem tx_map (l : List ByteArray) : (l.map (·.data.toList)).map tx = l := by
  rw [List.map_map]
  conv => rhs; rw [← List.map_id l]
  exact List.map_congr_left fun x _ => rfl

set_option maxRecDepth 100000 in
set_option maxHeartbeats 8000000 in
theorem lyndonOne_walk (A : Option Addr) (n c : Nat) (l : List ByteArray) {w : World} (hin : StrsIn w A n c l) (hn : n ≤ 1048576) :
    Calls Try.prog 7 #[.slice A n c] w fun e w' => e = .returned (.bool true) ∧ Below w.heap.size w w' := by
  obtain ⟨hl, r, _, hz, hnc, _, _⟩ := hin
  have Hl := Lib.hid hl
  have Hz := Lib.hid hz
  clear hl hz
  have hL := Lib.hid (lyndons_any w)
  go_enter Try.func7, Try.ntmps7
  go_wp2_with fail
  refine hL.out.mono ?_
  rintro e w1 ⟨rfl, hb1⟩
  clear hL
  go_wp2
  go_loopw [3, 4, 5, 6, 13] (fun _ _ _ _ kv wr => ∃ k : Nat, k ≤ n ∧ kv = .int .i64 k ∧ Below w.heap.size w wr ∧ Hid (Falls ((l.take k).map (·.data.toList)))) (fun _ _ _ _ kv _ => n - (intOf kv).toNat)
  case atStart => exact ⟨0, Nat.zero_le _, rfl, hb1, Lib.hid (by rw [List.take_zero]; exact falls_nil)⟩
  case round =>
    obtain ⟨k, hk, rfl, hbr, Hf⟩ := hrel
    by_cases hlt : k < n
    · obtain ⟨b, o, rfl, hbB, hc⟩ := (r.below hbr).2 (by omega)
      have cells : ∀ j, j < n → wr.cell? ⟨b, o + j, none⟩ = some (.string (l.getD j ByteArray.empty)) := fun j hj => by
        have c0 := hc (j * 1 + 0) (by rw [flat_length cStr 1 cStr_len, Hl.out]; omega)
        rw [flat_getD cStr 1 cStr_len ByteArray.empty l j _ (by rw [Hl.out]; omega) (by omega)] at c0
        simpa only [cStr, List.getD_cons_zero, Nat.mul_one, Nat.add_zero] using c0
      have c0 := cells k hlt
      have hsnoc : (l.take (k + 1)).map (·.data.toList) = (l.take k).map (·.data.toList) ++ [(l.getD k ByteArray.empty).data.toList] := by
        rw [take_succ_getD l k ByteArray.empty (by rw [Hl.out]; exact hlt), List.map_append]; rfl
      have hzt : (l.getD k ByteArray.empty).size ≤ 140737488351232 := Hz.out _ (by rw [getD_some _ _ _ (by rw [Hl.out]; omega)]; exact List.getElem_mem _)
      have Hsnoc := Lib.hid hsnoc
      have Cells := Lib.hid cells
      clear hc cells hsnoc
      generalize l.getD k ByteArray.empty = t at *
      by_cases ht : t.size ≤ 200
      case neg =>
        have hI := Lib.hid (is_no t (by omega))
        go_wp2_with fail
        refine (hI.out wr).mono ?_
        rintro e w2 ⟨rfl, rfl⟩
        go_wp2
        go_ret
        exact ⟨rfl, hbr⟩
      have hI := Lib.hid (is_ok t ht)
      go_wp2_with fail
      refine (hI.out wr).mono ?_
      rintro e w2 ⟨bt, hbt, rfl, hb2⟩
      have hbw2 := chain hb2 hbr
      cases bt with
      | false =>
        go_wp2
        go_ret
        exact ⟨rfl, hbw2⟩
      | true =>
        have hLt := hbt.1 rfl
        rcases Nat.eq_zero_or_pos k with hk0 | hk0
        · subst hk0
          have hnew : Falls ((l.take (0 + 1)).map (·.data.toList)) := by
            rw [Hsnoc.out, List.take_zero]
            exact falls_one ht hLt
          have Hnew := Lib.hid hnew
          clear hnew hLt hbt hb2 hbr Hf Cells Hsnoc
          go_wp2
          go_roundw
          case rel => exact ⟨0 + 1, by omega, by go_num, hbw2, Hnew⟩
          case measure => simp only [intOf]; omega
        · obtain ⟨j, rfl⟩ : ∃ j, k = j + 1 := ⟨k - 1, by omega⟩
          have c1 : w2.cell? ⟨b, o + j, none⟩ = some (.string (l.getD j ByteArray.empty)) := by
            have h1 := (Cells.out j (by omega))
            exact (hb2.cell (by show b < wr.heap.size; have := hbr.size; omega)).trans h1
          have hsn2 : (l.take (j + 1)).map (·.data.toList) = (l.take j).map (·.data.toList) ++ [(l.getD j ByteArray.empty).data.toList] := by
            rw [take_succ_getD l j ByteArray.empty (by rw [Hl.out]; omega), List.map_append]; rfl
          generalize l.getD j ByteArray.empty = f at *
          have q0 : decide ((0 : Int) < (j : Int) + 1) = true := decide_eq_true (by omega)
          have q0' : decide (0 < j + 1) = true := decide_eq_true (by omega)
          have wj : IntKind.i64.wrap ((j : Int) + 1 - 1) = (j : Int) := by rw [IntKind.wrap_i64] <;> omega
          have hjn : (j : Int) < (n : Int) := by omega
          by_cases hft : llt f.data.toList t.data.toList = true
          · have q1 : Op.bytesLess f.toList t.toList = true := less_is hft
            clear hLt hbt hb2 hbr Hf Cells Hsnoc hsn2 hft
            go_wp2
            go_ret
            exact ⟨rfl, hbw2⟩
          · have hft' : llt f.data.toList t.data.toList = false := by simpa using hft
            have q1 : Op.bytesLess f.toList t.toList = false := less_is hft'
            have hnew : Falls ((l.take (j + 1 + 1)).map (·.data.toList)) := by
              have h1 := Hf.out
              rw [hsn2] at h1
              rw [Hsnoc.out, hsn2]
              exact falls_snoc h1 ht hLt hft'
            have Hnew := Lib.hid hnew
            clear hnew hLt hbt hb2 hbr Hf Cells Hsnoc hsn2 hft hft'
            go_wp2
            go_roundw
            case rel => exact ⟨j + 1 + 1, by omega, by go_num, hbw2, Hnew⟩
            case measure => simp only [intOf]; omega
    · obtain rfl : k = n := by omega
      have hF := Hf.out
      rw [List.take_of_length_le (by rw [Hl.out]; exact Nat.le_refl _)] at hF
      have hsum := falls_sum fun f hf => (hF.1 f hf).1
      rw [List.length_map, Hl.out] at hsum
      have hj := joinAll_any A k c w.heap.size l Hl.out hnc (by omega) (by omega) wr (r.below hbr) hbr.size
      have hcf : Cfl (l.map (·.data.toList)).flatten (l.map (·.data.toList)) := ⟨rfl, fun f hf => (hF.1 f hf).2, hF.2⟩
      obtain ⟨S, hS⟩ : ∃ S : ByteArray, S = ⟨(l.map (·.data.toList)).flatten.toArray⟩ := ⟨_, rfl⟩
      have hSd : S.data.toList = (l.map (·.data.toList)).flatten := by rw [hS]
      rw [← hS] at hj
      rw [← hSd] at hcf
      have Hj := Lib.hid hj
      have Hcf := Lib.hid hcf
      clear hj hcf hSd hS hsum hF Hf
      go_wp2_with fail
      refine Hj.out.mono ?_
      rintro e w2 ⟨rfl, hb2⟩
      have hbw2 := chain hb2 hbr
      clear hb2 hbr Hj
      by_cases hs2 : S.size ≤ 200
      case neg =>
        have hI := Lib.hid (split_no S (by omega))
        go_wp2_with fail
        refine (hI.out w2).mono ?_
        rintro e w3 ⟨rfl, rfl⟩
        go_wp2
        go_ret
        exact ⟨rfl, hbw2⟩
      have hI := Lib.hid (split_ok S hs2)
      go_wp2_with fail
      refine (hI.out w2).mono ?_
      rintro e w3 ⟨F, A3, c3, hF, rfl, hr3, hb3, hc3⟩
      have hbw3 := chain hb3 hbw2
      have hFe := cfl_eq hF Hcf.out
      have hmap : F.map tx = l := by rw [hFe]; exact tx_map l
      have hFl : F.length = k := by rw [← Hl.out, ← hmap, List.length_map]
      rw [hmap, hFl] at hr3
      rw [hFl]
      have heq := equalStr_any A A3 k k c c3 w.heap.size w3.heap.size l l w3 (by omega) (by omega) Hl.out Hl.out (r.below hbw3) hr3
      rw [decide_eq_true rfl] at heq
      have Heq := Lib.hid heq
      clear heq hr3 hF hFe hmap hFl hb3 hbw2 hI Hcf hc3
      go_wp2_with fail
      refine Heq.out.mono ?_
      rintro e w4 ⟨rfl, hb4⟩
      have hbw4 := chain hb4 hbw3
      go_wp2
      go_ret
      exact ⟨rfl, hbw4⟩
end Go.Proofs.Ytppbjomobbaeaaa
