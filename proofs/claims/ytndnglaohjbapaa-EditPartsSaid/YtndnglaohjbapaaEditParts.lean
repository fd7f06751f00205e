/- EditParts' walk: edits can be applied one by one or in two groups with shifted positions. -/
import Derived.Test.YtndnglaohjbapaaApply
import Derived.Test.YtndnglaohjbapaaArgs
import Derived.Test.YtndnglaohjbapaaSlice
import Derived.Test.YtndnglaohjbapaaKeep
namespace Go.Proofs.Ytndnglaohjbapaa
open Go.RowKit
set_option linter.unusedVariables false

theorem edits_hello : checkE 5 [(0, 1, ⟨#[74]⟩), (5, 0, ⟨#[33]⟩)] = 0 ∧ app [104, 101, 108, 108, 111] 0 [(0, 1, ⟨#[74]⟩), (5, 0, ⟨#[33]⟩)] = [74, 101, 108, 108, 111, 33] := by decide +kernel

set_option maxHeartbeats 1000000 in
theorem edits_any (w : World) : Calls Try.prog 24 #[] w fun e w' => e = .returned (.bool true) ∧ Below w.heap.size w w' := by
  have c1 : ∀ w A c, Reads w w.heap.size A 2 3 [.int .i64 0, .int .i64 1, .string ⟨#[74]⟩, .int .i64 5, .int .i64 0, .string ⟨#[33]⟩] → Calls Try.prog 25 #[.string ⟨#[104, 101, 108, 108, 111]⟩, .slice A 2 c] w fun e w' => e = .returned (.tuple #[.string ⟨#[74, 101, 108, 108, 111, 33]⟩, .int .i64 0]) ∧ Below w.heap.size w w' := fun w A c h => by
    have := apply_ok ⟨#[104, 101, 108, 108, 111]⟩ A 2 c w.heap.size [(0, 1, ⟨#[74]⟩), (5, 0, ⟨#[33]⟩)] rfl edits_hello.1 w h (Nat.le_refl _)
    have e := edits_hello.2
    have e1 : (ByteArray.mk #[104, 101, 108, 108, 111]).data.toList = [104, 101, 108, 108, 111] := rfl
    rw [e1, e] at this
    exact this
  have C1 := Lib.hid c1
  clear c1
  have hbd := buildEdit
  go_enter Try.func24, Try.ntmps24
  go_wp2_with fail
  refine (C1.out _ _ _ (Reads.made w #[.int .i64 0, .int .i64 1, .string ⟨#[74]⟩, .int .i64 5, .int .i64 0, .string ⟨#[33]⟩] _ 2 3 rfl)).mono ?_
  rintro e w1 ⟨rfl, hb1⟩
  go_wp2
  go_ret
  exact ⟨rfl, ((Below.refl _ _).alloc (Nat.le_refl _) _).trans (hb1.mono (by simp))⟩

theorem sizeEdit (w : World) : (sizeOf (Try.prog.elem 38)).run Try.prog w = .ok 3 w := by
  rw [show Try.prog.elem 38 = 42 from by kernel_rfl]
  exact Try.sizeOf42 w

theorem infoEdit : (Try.prog.info? 42).map (fun i => (i.zero, i.size, i.bytes)) = some (some (.agg #[.int .i64 0, .int .i64 0, .string ⟨#[]⟩]), 3, 32) := by kernel_rfl

set_option maxHeartbeats 8000000 in
theorem editParts_walk (s : ByteArray) (A : Option Addr) (len cap : Nat) (l : List Ed) (k0 : Int) (hs : s.size ≤ 140737488351232) (w : World) (hl : EditsIn w A len cap l) (hk0 : (Lit.int .i64 k0).wf = true) :
    Calls Try.prog 8 #[.string s, .slice A len cap, .int .i64 k0] w fun e w' => e = .returned (.bool true) ∧ Below w.heap.size w w' := by
  obtain ⟨hll, hrd, hlen, hok, hcap, hcapm, hnil⟩ := hl
  go_enter Try.func8, Try.ntmps8
  go_wp2_with fail
  refine (edits_any _).mono ?_
  rintro e w1 ⟨rfl, hb1⟩
  have hrd1 := hrd.below hb1
  by_cases hE : checkE s.size l = 0
  · have hpl := edit_parts s.data.toList l
    obtain ⟨h0, h1, h2, h3, h4⟩ := checkE_ok hE
    go_wp2_with fail
    refine (apply_ok s A len cap w.heap.size l hll hE w1 hrd1 hb1.size).mono ?_
    rintro e w2 ⟨rfl, hb2⟩
    have hbw2 := chain hb2 hb1
    clear hb1 hb2 hrd1
    obtain ⟨k, hk, hkl⟩ : ∃ k : Nat, k0 % ((len : Int) + 1) = k ∧ k < len + 1 := by
      have h1 := Int.emod_nonneg k0 (show ((len : Int) + 1) ≠ 0 by omega)
      have h2 := Int.emod_lt_of_pos k0 (show 0 < ((len : Int) + 1) by omega)
      exact ⟨(k0 % ((len : Int) + 1)).toNat, by omega, by omega⟩
    have hw1 : ∀ w, Calls Try.prog 19 #[.int .i64 k0, .int .i64 ((len : Int) + 1)] w fun e w' => e = .returned (.int .i64 (k : Int)) ∧ w = w' := fun w => by
      have := within_any k0 ((len : Int) + 1) (by omega) (by omega) w
      rwa [hk] at this
    have Hw1 := Lib.hid hw1
    clear hw1 hk
    have hpk := hpl k hE
    have hst : s.data.toList.length = s.size := rfl
    rw [hst] at hpk
    clear hpl
    have hkl' : k ≤ len := by omega
    have hlen20 : len ≤ 20 := by omega
    have hotake : ∀ x ∈ l.take k, OkEdit x := fun x hx => hok x (List.mem_of_mem_take hx)
    have hoks : ∀ M : Int, -200 ≤ M → M ≤ 200 → ∀ x ∈ shiftE M (l.drop k), OkEdit x := shift_bounds (by omega) h3 k
    have key : ∃ (u : ByteArray) (F : Int), u.size ≤ 200 ∧ (∀ w A, Reads w w.heap.size A k 3 ((l.take k).flatMap cEdit) → Calls Try.prog 25 #[.string s, .slice A k cap] w fun e w' => e = .returned (.tuple #[.string u, .int .i64 F]) ∧ Below w.heap.size w w') ∧
        (∀ w A' c', Reads w w.heap.size A' (len - k) 3 ((shiftE ((u.size : Int) - s.size) (l.drop k)).flatMap cEdit) → Calls Try.prog 25 #[.string u, .slice A' (len - k) c'] w fun e w' => (∃ v g, e = .returned (.tuple #[.string v, .int .i64 g]) ∧ (F = 11 ∨ (F = 0 ∧ g = 0 ∧ v = ⟨(app s.data.toList 0 l).toArray⟩))) ∧ Below w.heap.size w w') := by
      have hlt : (l.take k).length = k := by rw [List.length_take]; omega
      have hld : ∀ M : Int, (shiftE M (l.drop k)).length = len - k := fun M => by rw [shift_length, List.length_drop]; omega
      rcases hpk with hf | ⟨hf1, hf2, hf3⟩
      · refine ⟨⟨#[]⟩, 11, by decide, fun w A h => apply_no s (by omega) A k cap w.heap.size (l.take k) (by omega) hlt hotake 11 hf (by decide) w h (Nat.le_refl _), fun w A' c' h => ?_⟩
        have hb := hoks (((⟨#[]⟩ : ByteArray).size : Int) - s.size) (by have : (ByteArray.mk #[]).size = 0 := rfl; omega) (by have : (ByteArray.mk #[]).size = 0 := rfl; omega)
        by_cases hg : checkE ((⟨#[]⟩ : ByteArray).size : Int) (shiftE (((⟨#[]⟩ : ByteArray).size : Int) - s.size) (l.drop k)) = 0
        · exact (apply_ok ⟨#[]⟩ A' (len - k) c' w.heap.size _ (hld _) hg w h (Nat.le_refl _)).mono fun e w' ⟨he, hb⟩ => ⟨⟨_, _, he, .inl rfl⟩, hb⟩
        · exact (apply_no ⟨#[]⟩ (by decide) A' (len - k) c' w.heap.size _ (by omega) (hld _) hb _ rfl hg w h (Nat.le_refl _)).mono fun e w' ⟨he, hb⟩ => ⟨⟨_, _, he, .inl rfl⟩, hb⟩
      · have hu : ((ByteArray.mk (app s.data.toList 0 (l.take k)).toArray).size : Int) = (app s.data.toList 0 (l.take k)).length := rfl
        have hu2 := (checkE_ok hf2).2.1
        refine ⟨⟨(app s.data.toList 0 (l.take k)).toArray⟩, 0, by omega, fun w A h => apply_ok s A k cap w.heap.size (l.take k) hlt hf1 w h (Nat.le_refl _), fun w A' c' h => ?_⟩
        rw [hu] at h
        exact (apply_ok ⟨(app s.data.toList 0 (l.take k)).toArray⟩ A' (len - k) c' w.heap.size _ (hld _) hf2 w h (Nat.le_refl _)).mono fun e w' ⟨he, hb⟩ => ⟨⟨_, _, he, .inr ⟨rfl, rfl, by
          have e1 : (ByteArray.mk (app s.data.toList 0 (l.take k)).toArray).data.toList = app s.data.toList 0 (l.take k) := rfl
          rw [e1, hf3]⟩⟩, hb⟩
    obtain ⟨u, F, hu, hc1, hc2⟩ := key
    have hrd2 := hrd.below hbw2
    obtain ⟨A1, hs1, hfr⟩ := slice_front 38 (by kernel_rfl) sizeEdit cEdit_len (hrd2.more hbw2.size) hll hkl' hcap
    have HC1 := Lib.hid hc1
    have HC2 := Lib.hid hc2
    have Hll := Lib.hid hll
    have hrb : ∀ x ∈ l.drop k, 0 ≤ x.1 ∧ x.1 ≤ 200 := fun x hx => by have := ok_all (by omega) h3 x (List.mem_of_mem_drop hx); omega
    clear hc1 hc2 hpk hst h3 hE hll hotake hoks h2
    generalize app s.data.toList 0 l = T at *
    go_wp2_with fail
    refine (Hw1.out _).mono ?_
    rintro e w3 ⟨rfl, rfl⟩
    go_wp2_with fail
    refine (HC1.out _ _ hfr).mono ?_
    rintro e w3 ⟨rfl, hb3⟩
    have hbw3 := chain hb3 hbw2
    clear hbw2 hb3 hfr
    have hrd3 := hrd.below hbw3
    obtain ⟨A2, c2, hkc2, hs2, hrd4⟩ := slice_back 38 (by kernel_rfl) sizeEdit cEdit_len (hrd3.more hbw3.size) Hll.out hkl' hcap
    have hrd4' : Reads w3 w3.heap.size A2 (len - k) 3 ((l.drop k).flatMap cEdit) := hrd4
    obtain ⟨d, hd⟩ : ∃ d, d = len - k := ⟨_, rfl⟩
    rw [← hd] at HC2 hkc2 hs2 hrd4'
    have hd20 : d ≤ 20 := by omega
    have Hd : Hid ((l.drop k).length = d) := by rw [List.length_drop, Hll.out, hd]; exact Lib.hid rfl
    clear hrd3 hrd4 hd
    generalize l.drop k = r at *
    go_wp2
    have hM1 : -200 ≤ (u.size : Int) - s.size := by omega
    have hM2 : (u.size : Int) - s.size ≤ 200 := by omega
    generalize (u.size : Int) - s.size = M at *
    have hsz3 := hbw3.size
    go_loopw [12, 14, 51] (fun rv _ i wr => ∃ (q : Nat) (A' : Option Addr) (c' : Nat), q ≤ d ∧ i = .int .i64 q ∧ rv = .slice A' q c' ∧ wr.ownsRow w3.heap.size 42 3 (.slice A' q c') q ((shiftE M (r.take q)).flatMap cEdit) ∧ Below w3.heap.size w3 wr)
      (fun _ _ i _ => d - (intOf i).toNat)
    case atStart => exact ⟨0, none, 0, Nat.zero_le _, rfl, rfl, World.ownsRow_nil _ _ _ _, Below.refl _ _⟩
    case round =>
      obtain ⟨q, A', c', hq, rfl, rfl, hown, hbr⟩ := hrel
      by_cases hlt : q < d
      · have h := hrd4'.below' hbr (Nat.le_refl _)
        obtain ⟨b, o, rfl, hbB, hc⟩ := h.2 (by omega)
        have c0 := hc (q * 3 + 0) (by rw [flat_length cEdit 3 cEdit_len, Hd.out]; omega)
        have c1 := hc (q * 3 + 1) (by rw [flat_length cEdit 3 cEdit_len, Hd.out]; omega)
        have c2 := hc (q * 3 + 2) (by rw [flat_length cEdit 3 cEdit_len, Hd.out]; omega)
        have dE : Ed := (0, 0, ByteArray.empty)
        rw [flat_getD cEdit 3 cEdit_len dE r q _ (by rw [Hd.out]; omega) (by omega)] at c0 c1 c2
        simp only [cEdit, List.getD_cons_zero, List.getD_cons_succ, Nat.add_zero, ← Nat.add_assoc] at c0 c1 c2
        have hx := hrb (r.getD q dE) (by rw [getD_some _ _ _ (by rw [Hd.out]; omega)]; exact List.getElem_mem _)
        have htake := congrArg (shiftE M) (take_succ_getD r q dE (by rw [Hd.out]; omega))
        have Htake := Lib.hid htake
        clear htake hc
        generalize r.getD q dE = x at *
        obtain ⟨at_, del, ins⟩ := x
        simp only at c0 c1 c2 hx
        have hbB' : b < wr.heap.size := by have := hbr.size; omega
        rcases Nat.eq_zero_or_pos q with k0 | k0
        · subst k0
          simp only [Nat.zero_mul, Nat.add_zero] at c0 c1 c2
          go_wp2_with (first | (at_builtin; go_must (refine wpList_append_new _ 38 (.tmp 60) (.tmp 62) rfl rfl w3.heap.size 42 infoEdit Try.underlying38 rfl (by decide) _ _ _ _ rfl (hown.alloc _) #[.int .i64 (at_ + M), .int .i64 del, .string ins] 1 (by rw [show ∀ o : Obj, (wr.alloc o).heap.size = wr.heap.size + 1 from fun o => by simp]; rfl) rfl (by simp [Value.oneCell']) (by unfold maxLen; omega) (by omega) (by have := hbr.size; simp; omega) ?_); intro A3 c3 w4 hown4 hb4 hg4))
          go_roundw
          case rel =>
            refine ⟨0 + 1, A3, c3, by omega, by go_num, rfl, ?_, (hbr.alloc hbr.size _).trans hb4⟩
            have e : shiftE M (r.take (0 + 1)) = shiftE M (r.take 0) ++ [(at_ + M, del, ins)] := by rw [Htake.out]; simp [shiftE]
            rw [e, flat_snoc]
            exact hown4
          case measure => simp only [intOf]; omega
        · go_wp2_with (first | (at_builtin; go_must (refine wpList_append_new _ 38 (.tmp 60) (.tmp 62) rfl rfl w3.heap.size 42 infoEdit Try.underlying38 rfl (by decide) _ _ _ _ rfl (hown.alloc _) #[.int .i64 (at_ + M), .int .i64 del, .string ins] 1 (by rw [show ∀ o : Obj, (wr.alloc o).heap.size = wr.heap.size + 1 from fun o => by simp]; rfl) rfl (by simp [Value.oneCell']) (by unfold maxLen; omega) (by omega) (by have := hbr.size; simp; omega) ?_); intro A3 c3 w4 hown4 hb4 hg4))
          go_roundw
          case rel =>
            refine ⟨q + 1, A3, c3, by omega, by go_num, rfl, ?_, (hbr.alloc hbr.size _).trans hb4⟩
            have e : shiftE M (r.take (q + 1)) = shiftE M (r.take q) ++ [(at_ + M, del, ins)] := by rw [Htake.out]; simp [shiftE]
            rw [e, flat_snoc]
            exact hown4
          case measure => simp only [intOf]; omega
      · obtain rfl : q = d := by omega
        have e : r.take q = r := List.take_of_length_le (by rw [Hd.out]; omega)
        rw [e] at hown
        have hrest := Reads.of_own hown
        have hbw4 := chain hbr hbw3
        go_wp2_with fail
        refine (HC2.out _ _ _ hrest).mono ?_
        rintro e w5 ⟨⟨v, g, rfl, hvg⟩, hb5⟩
        have hbw5 := chain hb5 hbw4
        rcases hvg with rfl | ⟨rfl, rfl, rfl⟩
        · go_wp2
          go_ret
          exact ⟨rfl, hbw5⟩
        · have q9 : (T == T) = true := by simp
          go_wp2
          go_ret
          exact ⟨rfl, hbw5⟩
  · go_wp2_with fail
    refine (apply_no s (by omega) A len cap w.heap.size l (by omega) hll hok (checkE s.size l) rfl hE w1 hrd1 hb1.size).mono ?_
    rintro e w2 ⟨rfl, hb2⟩
    have q5 : (checkE s.size l != 0) = true := by simpa using hE
    go_wp2
    go_ret
    exact ⟨rfl, chain hb2 hb1⟩

end Go.Proofs.Ytndnglaohjbapaa
