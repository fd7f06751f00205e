/- PhraseBack's walk: decompression inverts compression, and all phrase strings are distinct. -/
import Derived.Test.YtccbfhaoepomnaaPhraseLaws
import Derived.Test.YtccbfhaoepomnaaPhraseGet
import Derived.Test.YtccbfhaoepomnaaPrefix
import Derived.Test.YtccbfhaoepomnaaContains
import Derived.Test.YtccbfhaoepomnaaGood
import Derived.Test.YtccbfhaoepomnaaSlice
namespace Go.Proofs.Ytccbfhaoepomnaa
open Go.RowKit
set_option linter.unusedVariables false

/-- What is left is nothing, or one of the texts. -/
theorem rest_is (s : List UInt8) : s.drop (putP s).2.2 = [] ∨ ∃ j, j + 1 < (putP s).2.1.length ∧ (putP s).2.1.getD (j + 1) [] = s.drop (putP s).2.2 := by
  obtain ⟨n, h1, h2, h3, h4⟩ := putP_ends s
  have hinv := putP_inv s
  rw [← h3] at h2
  have hle := lenOf_le hinv
  have hat := hinv.at_le
  have hge : ¬ (putP s).2.2 + lenOf s (putP s) < s.length := h2
  have hb := best_is hinv
  rw [List.take_of_length_le (by rw [List.length_drop]; omega)] at hb
  have hlt := best_lt hinv
  rcases Nat.eq_zero_or_pos (bestOf s (putP s)) with h0 | h0
  · left
    rw [h0, hinv.zero] at hb
    exact hb.symm
  · right
    exact ⟨bestOf s (putP s) - 1, by omega, by rw [show bestOf s (putP s) - 1 + 1 = bestOf s (putP s) from by omega]; exact hb⟩
theorem nodup_getD {α : Type} [DecidableEq α] {T : List α} {d : α} (h : T.Nodup) {i j : Nat} (hi : i < T.length) (hj : j < T.length) (e : T.getD i d = T.getD j d) : i = j := by
  rw [getD_some _ _ _ hi, getD_some _ _ _ hj] at e
  have h1 := h.idxOf_getElem i hi
  have h2 := h.idxOf_getElem j hj
  rw [e] at h1
  omega

set_option maxRecDepth 100000 in
set_option maxHeartbeats 4000000 in
theorem phraseBack_walk (s : ByteArray) (hs0 : s.size ≤ 140737488351232) (w : World) :
    Calls Try.prog 14 #[.string s] w fun e w' => e = .returned (.bool true) ∧ Below w.heap.size w w' := by
  by_cases hs : s.size ≤ 200
  case neg =>
    go_enter Try.func14, Try.ntmps14
    go_wp2_with fail
    refine (phrases_any _).mono ?_
    rintro e w1 ⟨rfl, hb1⟩
    go_wp2_with fail
    refine (phrasePut_no s (by omega) _).mono ?_
    rintro e w2 ⟨rfl, rfl⟩
    go_wp2
    go_ret
    exact ⟨rfl, hb1⟩
  have hinv := putP_inv s.data.toList
  have hT := TellsP.of_inv hinv
  have hrest := rest_is s.data.toList
  have hmany := hinv.many
  have hat := hinv.at_le
  have hfl := hinv.flat
  have hnd := hinv.nodup
  have hTl := hinv.len
  rw [show s.data.toList.length = s.size from rfl] at hat
  have hput := phrasePut_ok s hs
  generalize (putP s.data.toList).1 = L at *
  generalize (putP s.data.toList).2.1 = T at *
  generalize (putP s.data.toList).2.2 = at_ at *
  have hLn : L.length ≤ 200 := by omega
  have hTs : T.flatten.length = at_ := by rw [hfl, List.length_take]; show min at_ s.size = _; omega
  have hwhole : ∀ A c B0 w, Reads w B0 A L.length 2 (L.flatMap cPhrase) → B0 ≤ w.heap.size → Calls Try.prog 37 #[.slice A L.length c, .string (ba (s.data.toList.drop at_))] w fun e w' => e = .returned (.tuple #[.string s, .int .i64 0]) ∧ Below w.heap.size w w' := fun A c B0 w h hB => by
    have := phraseGet_ok A L.length c B0 L T (ba (s.data.toList.drop at_)) hLn rfl hT (by rw [hTs, ba_size, List.length_drop]; show at_ + (s.size - at_) ≤ _; omega) w h hB
    rw [ba_list, hfl, List.take_append_drop] at this
    rw [show ba s.data.toList = s from ba_of s] at this
    exact this
  have hfront : ∀ k, k ≤ L.length → ∀ A c B0 w, Reads w B0 A k 2 ((L.take k).flatMap cPhrase) → B0 ≤ w.heap.size → Calls Try.prog 37 #[.slice A k c, .string ByteArray.empty] w fun e w' => e = .returned (.tuple #[.string (ba (T.take (k + 1)).flatten), .int .i64 0]) ∧ Below w.heap.size w w' := fun k hk A c B0 w h hB => by
    have h1 := flatten_take_le T (k + 1)
    have := phraseGet_ok A k c B0 (L.take k) (T.take (k + 1)) ByteArray.empty (by omega) (by rw [List.length_take]; omega) (hT.take k hk) (by rw [hTs] at h1; show _ + 0 ≤ 200; omega) w h hB
    rw [show ByteArray.empty.data.toList = [] from rfl, List.append_nil] at this
    exact this
  have hsteps : ∀ k, k < L.length → (ba (T.take (k + 1)).flatten).size ≤ (ba (T.take (k + 1 + 1)).flatten).size ∧ (ba (T.take (k + 1 + 1)).flatten).size ≤ 200 ∧ preB (ba (T.take (k + 1 + 1)).flatten) (ba (T.take (k + 1)).flatten) = true ∧
      (ba (T.take (k + 1 + 1)).flatten).extract (ba (T.take (k + 1)).flatten).size (ba (T.take (k + 1 + 1)).flatten).size = ba (T.getD (k + 1) []) := fun k hk => by
    have hts := take_succ_getD T (k + 1) [] (by omega)
    have e1 : (T.take (k + 1 + 1)).flatten = (T.take (k + 1)).flatten ++ T.getD (k + 1) [] := by rw [hts, flatten_snoc]
    have h1 := flatten_take_le T (k + 1 + 1)
    refine ⟨?_, ?_, ?_, ?_⟩
    · rw [e1, ba_size, ba_size, List.length_append]; omega
    · rw [ba_size]; omega
    · rw [preB_iff, e1]; exact List.prefix_append _ _
    · rw [ba_rest, e1, ba_list, ba_size, List.drop_left]
  have hnew : ∀ k, k < L.length → ba (T.getD (k + 1) []) ∉ ((T.drop 1).map ba).take k := fun k hk hm => by
    rw [← List.map_take] at hm
    obtain ⟨t, ht, he⟩ := List.mem_map.1 hm
    have he := ba_inj he
    obtain ⟨j, hj, e⟩ := mem_getD (d := []) ht
    rw [List.length_take, List.length_drop] at hj
    rw [getD_take _ _ _ _ (by omega), getD_drop] at e
    have := nodup_getD hnd (d := []) (i := 1 + j) (j := k + 1) (by omega) (by omega) (by rw [e, he])
    omega
  have hadd : ∀ k, k < L.length → ((T.drop 1).map ba).take (k + 1) = ((T.drop 1).map ba).take k ++ [ba (T.getD (k + 1) [])] := fun k hk => by
    rw [take_succ_getD _ k (ba []) (by rw [List.length_map, List.length_drop]; omega), getD_map, getD_drop, Nat.add_comm 1 k]
  have hlast : s.data.toList.drop at_ ≠ [] → ba (s.data.toList.drop at_) ∈ (T.drop 1).map ba := fun hne => by
    rcases hrest with h | ⟨j, hj, h⟩
    · exact absurd h hne
    · refine List.mem_map.2 ⟨_, ?_, rfl⟩
      rw [← h, Nat.add_comm j 1, ← getD_drop]
      exact getD_mem' (by rw [List.length_drop]; omega)
  have htl : ((T.drop 1).map ba).length = L.length := by rw [List.length_map, List.length_drop]; omega
  have hr0 : (ba (s.data.toList.drop at_)).toList = s.data.toList.drop at_ := by rw [ByteArray.toList_eq]; rfl
  generalize hTx : (T.drop 1).map ba = Tx at *
  have Hput := Lib.hid hput
  have Hwhole := Lib.hid hwhole
  have Hfront := Lib.hid hfront
  have Hsteps := Lib.hid hsteps
  have Hnew := Lib.hid hnew
  have Hadd := Lib.hid hadd
  have Hlast := Lib.hid hlast
  have Htl := Lib.hid htl
  have Hr0 := Lib.hid hr0
  clear hput hwhole hfront hsteps hnew hadd hlast htl hTx hinv hT hrest hmany hat hfl hnd hTl hTs hr0
  go_enter Try.func14, Try.ntmps14
  go_wp2_with fail
  refine (phrases_any _).mono ?_
  rintro e w1 ⟨rfl, hb1⟩
  go_wp2_with fail
  refine (Hput.out _).mono ?_
  rintro e w2 ⟨A, c, rfl, hr2, hb2, hc2⟩
  go_wp2_with fail
  refine (Hwhole.out A c _ _ hr2 (Nat.le_refl _)).mono ?_
  rintro e w3 ⟨rfl, hb3⟩
  have hr3 := hr2.after hb3
  have hbw := chain hb3 (chain hb2 hb1)
  clear hb1 hb2 hb3 hr2
  go_wp2
  go_loopw [8, 39] (fun tv iv wr => ∃ (k : Nat) (A' : Option Addr) (c' : Nat), k ≤ L.length ∧ iv = .int .i64 k ∧ tv = .slice A' k c' ∧ wr.ownsRow w3.heap.size 9 1 (.slice A' k c') k ((Tx.take k).flatMap cStr) ∧ Below w3.heap.size w3 wr) (fun _ iv _ => L.length - (intOf iv).toNat)
  case atStart => exact ⟨0, none, 0, Nat.zero_le _, rfl, rfl, World.ownsRow_nil _ _ _ _, Below.refl _ _⟩
  case round =>
    obtain ⟨k, A', c', hk, rfl, rfl, hown, hbr⟩ := hrel
    have hrr := hr3.below hbr
    by_cases hlt : k < L.length
    · obtain ⟨A1, hs1, hf1⟩ := slice_front 58 (by kernel_rfl) sizePhrase cPhrase_len hrr rfl hk hc2
      obtain ⟨A2, hs2, hf2⟩ := slice_front 58 (by kernel_rfl) sizePhrase cPhrase_len hrr rfl (show k + 1 ≤ L.length from hlt) hc2
      have hk1 : ((k : Int) + 1) = ((k + 1 : Nat) : Int) := by omega
      rw [← hk1] at hs2
      have Hk1 := Lib.hid hk1
      clear hk1
      obtain ⟨s1, s2, s3, s4⟩ := Hsteps.out k hlt
      have hnew := Hnew.out k hlt
      have hadd := Hadd.out k hlt
      have hg1 := Hfront.out k hk
      have hg2 := Hfront.out (k + 1) hlt
      have G1 := Lib.hid hg1
      have G2 := Lib.hid hg2
      have Hnew2 := Lib.hid hnew
      have Hadd2 := Lib.hid hadd
      have S3 := Lib.hid s3
      have S4 := Lib.hid s4
      clear hg1 hg2 hnew hadd s3 s4
      generalize ba (T.getD (k + 1) []) = nt at *
      generalize ba (T.take (k + 1 + 1)).flatten = bb at *
      generalize ba (T.take (k + 1)).flatten = aa at *
      go_wp2_with fail
      refine (G1.out _ _ _ _ hf1 hbr.size).mono ?_
      rintro e w4 ⟨rfl, hb4⟩
      have hf2' := hf2.below' hb4 hbr.size
      have hown4 := hown.kept (row := none) ⟨hb4.os, hb4.tape, hb4.output, hb4.size, fun k hk _ => hb4.block k hk⟩ (by cases A' <;> simp [Value.ownBlock])
      have hbr4 := chain hb4 hbr
      clear hf1 hf2 hown hrr
      go_wp2_with fail
      refine (G2.out _ _ _ _ hf2' (Nat.le_trans hbr.size hb4.size)).mono ?_
      rintro e w5 ⟨rfl, hb5⟩
      have hown5 := hown4.kept (row := none) ⟨hb5.os, hb5.tape, hb5.output, hb5.size, fun k hk _ => hb5.block k hk⟩ (by cases A' <;> simp [Value.ownBlock])
      have hbr5 := chain hb5 hbr4
      clear hf2' hown4 hb5 hbr4
      go_wp2_with fail
      refine (good_fresh [0, 0] 2 2 rfl (by decide) _ _).mono ?_
      rintro e w6 ⟨rfl, hb6⟩
      have q0 : ([0, 0] : List Int).all (· == 0) = true := by decide
      have hown6 := hown5.kept (row := none) ⟨hb6.os, hb6.tape, hb6.output, hb6.size, fun k hk _ => hb6.block k hk⟩ (by cases A' <;> simp [Value.ownBlock])
      have hbr6 := chain hb6 hbr5
      have hpr : ∀ w, Calls Try.prog 38 #[.string bb, .string aa] w fun e w' => e = .returned (.bool true) ∧ w = w' := fun w => by
        have := hasPrefix_any bb aa (by omega) (by omega) w
        rwa [S3.out] at this
      have Hpr := Lib.hid hpr
      have hcn : Calls Try.prog 39 #[.slice A' k c', .string nt] w6 fun e w' => e = .returned (.bool false) ∧ w6 = w' := by
        have := containsStr_any nt A' k c' _ (Tx.take k) w6 (by omega) (by rw [List.length_take, Htl.out]; omega) (Reads.of_own hown6)
        rwa [hasB_no.2 Hnew2.out] at this
      rw [← S4.out] at hcn
      have Hcn := Lib.hid hcn
      have s1' : (aa.size : Int) ≤ bb.size := by omega
      clear hown5 hb6 hbr5 hpr hcn
      go_wp2_with fail
      refine (Hpr.out _).mono ?_
      rintro e w7 ⟨rfl, rfl⟩
      go_wp2_with fail
      refine Hcn.out.mono ?_
      rintro e w7 ⟨rfl, rfl⟩
      go_wp2_with (first | (at_builtin; go_must (refine wpList_append_new _ 51 (.tmp 76) (.tmp 81) rfl rfl w3.heap.size 9 infoStr Try.underlying51 rfl (by decide) _ _ _ _ rfl hown6 #[.string (bb.extract aa.size bb.size)] 1 rfl rfl (by simp [Value.oneCell']) (by unfold maxLen; omega) (by omega) hbr6.size ?_); intro A3 c3 w8 hown8 hb8 hg8))
      go_roundw
      case rel =>
        refine ⟨k + 1, A3, c3, by omega, by go_num, rfl, ?_, hbr6.trans hb8⟩
        rw [Hadd2.out, flat_snoc, ← S4.out]; exact hown8
      case measure => simp [intOf]; omega
    · obtain rfl : k = L.length := by omega
      have e : Tx.take L.length = Tx := List.take_of_length_le (by rw [Htl.out]; omega)
      rw [e] at hown
      have hro := Reads.of_own hown
      have q1 : (s.toList == s.toList) = true := by simp
      by_cases hr : s.data.toList.drop at_ = []
      · have q2 : (ba (s.data.toList.drop at_)).toList = [] := by rw [Hr0.out, hr]
        have q3 : (!(ba (s.data.toList.drop at_)).toList.isEmpty) = false := by rw [q2]; rfl
        have q4 : ((ba (s.data.toList.drop at_)).toList == []) = true := by rw [q2]; rfl
        clear hr
        generalize ba (s.data.toList.drop at_) = rs at *
        go_wp2
        go_ret
        exact ⟨rfl, chain hbr hbw⟩
      · have hin := Hlast.out hr
        have q2 : (ba (s.data.toList.drop at_)).toList.isEmpty = false := by rw [Hr0.out, List.isEmpty_eq_false_iff]; exact hr
        have q4 : ((ba (s.data.toList.drop at_)).toList == []) = false := by rw [Hr0.out, beq_eq_false_iff_ne]; exact hr
        have hcn : Calls Try.prog 39 #[.slice A' L.length c', .string (ba (s.data.toList.drop at_))] wr fun e w' => e = .returned (.bool true) ∧ wr = w' := by
          have := containsStr_any (ba (s.data.toList.drop at_)) A' L.length c' _ Tx wr (by omega) Htl.out hro
          rwa [hasB_iff.2 hin] at this
        have Hcn := Lib.hid hcn
        clear hr hin hcn
        generalize ba (s.data.toList.drop at_) = rs at *
        go_wp2_with fail
        refine Hcn.out.mono ?_
        rintro e w9 ⟨rfl, rfl⟩
        go_wp2
        go_ret
        exact ⟨rfl, chain hbr hbw⟩

end Go.Proofs.Ytccbfhaoepomnaa
