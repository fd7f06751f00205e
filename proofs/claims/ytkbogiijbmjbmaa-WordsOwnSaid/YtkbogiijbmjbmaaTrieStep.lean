/- The walk of step: from a node along a byte. -/
import Derived.Test.YtkbogiijbmjbmaaTrieLead
import Derived.IntWalk
namespace Go.Proofs.Ytkbogiijbmjbmaa
open Go.RowKit Go.Sort
set_option linter.unusedVariables false

theorem Tree.edges_le {T : List Nd} {W : List (List UInt8)} (h : Tree T W) {i : Nat} (hi : i < W.length) : (T.getD i nd0).next.length ≤ W.length := by
  have h1 := nodup_lt (h.e3 i hi) (fun t ht => by
    obtain ⟨x, hx, rfl⟩ := List.mem_map.1 ht
    exact (h.e1 i hi x hx).1)
  rwa [List.length_map] at h1
theorem LongIn.below {W : List (List UInt8)} {x : List UInt8} {r : Nat} (h : LongIn W x r) : lenW W r ≤ x.length := h.suf.length_le

set_option maxRecDepth 100000 in
set_option maxHeartbeats 2000000 in
theorem step_any (A : Option Addr) (c B : Nat) (L : List NV) (W : List (List UInt8)) (a0 : Nat) (b : UInt8) (x : List UInt8) (w : World) (hT : TrieAt w B A c L) (hBw : B ≤ w.heap.size) (ht : Tree (nds L) W) (hs : StepAt W x b a0)
    (hf : ∀ u, u < W.length → u ≠ 0 → lenW W u ≤ lenW W a0 → FailOk (nds L) W u) (hm : L.length ≤ 1000) :
    Calls Try.prog 30 #[.slice A L.length c, .int .i64 (a0 : Int), .int .u8 (b.toNat : Int)] w fun e w' => (∃ r : Nat, e = .returned (.int .i64 (r : Int)) ∧ LongIn W (x ++ [b]) r) ∧ Below w.heap.size w w' := by
  have hlW : L.length = W.length := by rw [← nds_len, ht.len]
  have HlW := Lib.hid hlW
  have Hs := Lib.hid hs
  have Hf := Lib.hid hf
  have Ht := Lib.hid ht
  clear hs hf ht hlW
  go_enter Try.func30, Try.ntmps30
  go_wp2
  go_loopw [1, 7] (fun av _ wr => ∃ a : Nat, av = .int .i64 a ∧ Hid (StepAt W x b a ∧ lenW W a ≤ lenW W a0) ∧ Below w.heap.size w wr) (fun av _ _ => lenW W (intOf av).toNat)
  case atStart => exact ⟨a0, rfl, Lib.hid ⟨Hs.out, Nat.le_refl _⟩, Below.refl _ _⟩
  case round =>
    obtain ⟨a, rfl, Ha, hbr⟩ := hrel
    have hTr := hT.after hbr
    have haW := Ha.out.1.lt
    have haL : a < L.length := by rw [HlW.out]; exact haW
    obtain ⟨g, o, rfl, hg, hgB, c0, c1, c2, f0, f1, f2⟩ := hTr.cells haL
    have hkid := (hTr.kid _ (hTr.mem haL)).toReads
    have hkl := hTr.kidLen haL
    have hk1 : (L.getD a nv0).x.next.length ≤ 1000 := by
      have := Ht.out.edges_le haW
      rw [nds_getD] at this
      have := HlW.out
      omega
    have hno0 : ∀ u, u < W.length → u ≠ 0 → lenW W u ≤ lenW W a0 → FailOk (nds L) W u := Hf.out
    have hnd := nds_getD L a
    have hyes := fun hn => step_yes Ht.out Ha.out.1 hn
    have hroot := fun (e : a = 0) hn => step_root (T := nds L) Ht.out (e ▸ Ha.out.1) hn
    have hfail := fun (e : a ≠ 0) hn => And.intro (step_fail Ht.out Ha.out.1 hn (Hf.out a haW e Ha.out.2)) (Hf.out a haW e Ha.out.2).short
    rw [hnd] at hyes hfail
    have HL := Lib.hid (lead_any (L.getD a nv0).A (L.getD a nv0).m (L.getD a nv0).c wr.heap.size (L.getD a nv0).x.next (L.getD a nv0).x.fail (L.getD a nv0).x.ends b wr hkl (by omega) hkid (Nat.le_refl _))
    have hHnd := Lib.hid hnd
    have Hyes := Lib.hid hyes
    have Hroot := Lib.hid hroot
    have Hfail := Lib.hid hfail
    clear hkid hkl hk1 hno0 hnd hyes hroot hfail f0 f1 f2
    have ia : (a : Int) < (L.length : Int) := by omega
    obtain ⟨t, ht⟩ : ∃ t, t = leadE (L.getD a nv0).x.next b := ⟨_, rfl⟩
    rw [← ht] at HL
    generalize hv : L.getD a nv0 = v at *
    obtain ⟨vA, vm, vc, ⟨vn, vf, ve⟩⟩ := v
    simp only at *
    go_wp2_with fail
    refine HL.out.mono ?_
    rintro e w2 ⟨rfl, hb2⟩
    have hb3 := chain hb2 hbr
    by_cases h0 : t = 0
    · subst h0
      by_cases ha0 : a = 0
      · subst ha0
        have hfin := Hroot.out rfl (by rw [hHnd.out]; exact ht.symm)
        have Hfin := Lib.hid hfin
        clear hfin ht
        go_wp2
        go_ret
        exact ⟨⟨0, rfl, Hfin.out⟩, hb3⟩
      · obtain ⟨hn1, hn2⟩ := Hfail.out ha0 ht.symm
        have Hn1 := Lib.hid hn1
        have hn2' : lenW W vf < lenW W a := hn2
        have c1' : w2.cell? ⟨g, o + a * 3 + 1, none⟩ = some (.int .i64 (vf : Int)) := by rw [hb2.cell (by show g < wr.heap.size; exact hg)]; exact c1
        have q1 : ((a : Int) == 0) = false := by rw [beq_eq_false_iff_ne]; omega
        have hle := Ha.out.2
        clear hn1 hn2 ht c1
        go_wp2
        go_roundw
        case rel => exact ⟨vf, rfl, Lib.hid ⟨Hn1.out, by omega⟩, hb3⟩
        case measure => simp only [intOf, Int.toNat_natCast]; exact hn2'
    · have hfin := Hyes.out (by rw [← ht]; exact h0)
      rw [← ht] at hfin
      have Hfin := Lib.hid hfin
      have q1 : decide ((0 : Int) < (t : Int)) = true := decide_eq_true (by omega)
      have q1' : decide (0 < t) = true := decide_eq_true (by omega)
      clear hfin ht
      go_wp2
      go_ret
      exact ⟨⟨t, rfl, Hfin.out⟩, hb3⟩
end Go.Proofs.Ytkbogiijbmjbmaa
