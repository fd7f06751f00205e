/- TrieEach's walk: searching for several patterns finds what separate searches find. -/
import Derived.Test.YtoacgeipcooljaaTries
import Derived.Test.YtoacgeipcooljaaSeekWalk
import Derived.Test.YtoacgeipcooljaaContainsHit
import Derived.Test.YtoacgeipcooljaaArgs
import Derived.BigQuiet
import Derived.OpenShut
namespace Go.Proofs.Ytoacgeipcooljaa
open Go.RowKit Go.Sort
set_option linter.unusedVariables false

/-- What the first k separate searches find. -/
def eachTo (s : List UInt8) (P : List (List UInt8)) (k : Nat) : List (Nat × Nat) := (List.range k).flatMap fun k => (findOf s (P.getD k [])).map fun a => (a, k)
theorem eachTo_succ (s : List UInt8) (P : List (List UInt8)) (k : Nat) : (eachTo s P (k + 1)).length = (eachTo s P k).length + (findOf s (P.getD k [])).length := by
  unfold eachTo
  rw [List.range_succ, List.flatMap_append]
  simp
theorem findOf_le (s p : List UInt8) : (findOf s p).length ≤ s.length := foundOf_length s p _
theorem eachTo_le (s : List UInt8) (P : List (List UInt8)) : ∀ k, (eachTo s P k).length ≤ k * s.length
  | 0 => by simp [eachTo]
  | k + 1 => by
    have h1 := eachTo_le s P k
    have h2 := findOf_le s (P.getD k [])
    rw [eachTo_succ, Nat.succ_mul]
    omega
theorem occ_pre {s p : List UInt8} (hp : p ≠ []) (a : Nat) : Occ s p a ↔ p <+: s.drop a := by
  rcases Nat.lt_or_ge s.length a with h | h
  · constructor
    · intro ho
      have := ho.1
      omega
    · intro hpre
      have hl := hpre.length_le
      rw [List.length_drop] at hl
      exact absurd (List.eq_nil_of_length_eq_zero (by omega)) hp
  · exact occ_prefix s p a h
theorem each_mem {s : List UInt8} {P : List (List UInt8)} {H : List (Nat × Nat)} (h : IsHits s P H) (hP : ∀ p ∈ P, p ≠ []) {a k : Nat} (hk : k < P.length) (ha : a ∈ findOf s (P.getD k [])) : (a, k) ∈ H := by
  have hne := hP (P.getD k []) (by rw [getD_some _ _ _ hk]; exact List.getElem_mem _)
  have hpos : 0 < (P.getD k []).length := by
    rcases Nat.eq_zero_or_pos (P.getD k []).length with h0 | h0
    · exact absurd (List.eq_nil_of_length_eq_zero h0) hne
    · exact h0
  exact (h.mem a k).2 ⟨hk, (occ_pre hne a).1 ((mem_find s _ hpos a).1 ha)⟩
theorem each_len {s : List UInt8} {P : List (List UInt8)} {H : List (Nat × Nat)} (h : IsHits s P H) (hP : ∀ p ∈ P, p ≠ []) : (eachTo s P P.length).length = H.length := by
  have hpos : ∀ k, k < P.length → P.getD k [] ≠ [] ∧ 0 < (P.getD k []).length := fun k hk => by
    have hne := hP (P.getD k []) (by rw [getD_some _ _ _ hk]; exact List.getElem_mem _)
    refine ⟨hne, ?_⟩
    rcases Nat.eq_zero_or_pos (P.getD k []).length with h0 | h0
    · exact absurd (List.eq_nil_of_length_eq_zero h0) hne
    · exact h0
  have hmem : ∀ x, x ∈ eachTo s P P.length ↔ x ∈ H := fun ⟨a, k⟩ => by
    rw [h.mem]
    unfold eachTo
    rw [List.mem_flatMap]
    constructor
    · rintro ⟨k', hk', hx⟩
      obtain ⟨a', ha', e⟩ := List.mem_map.1 hx
      injection e with e1 e2
      subst e1; subst e2
      have hk := List.mem_range.1 hk'
      exact ⟨hk, (occ_pre (hpos _ hk).1 _).1 ((mem_find s _ (hpos _ hk).2 _).1 ha')⟩
    · rintro ⟨hk, hp⟩
      exact ⟨k, List.mem_range.2 hk, List.mem_map.2 ⟨a, (mem_find s _ (hpos k hk).2 a).2 ((occ_pre (hpos k hk).1 a).2 hp), rfl⟩⟩
  have hnd : ∀ n, n ≤ P.length → (eachTo s P n).Nodup := fun n => by
    induction n with
    | zero => intro _; simp [eachTo]
    | succ n ih =>
      intro hn
      unfold eachTo
      rw [List.range_succ, List.flatMap_append]
      refine List.nodup_append.2 ⟨ih (by omega), ?_, fun x hx y hy => ?_⟩
      · have hf := found_rise s (P.getD n []) (hpos n (by omega)).2 s.length (Nat.le_refl _)
        simp only [List.flatMap_cons, List.flatMap_nil, List.append_nil]
        rw [List.nodup_iff_pairwise_ne, List.pairwise_map]
        refine List.Pairwise.imp ?_ hf
        intro a b hab e
        injection e with e1 _
        omega
      · rintro rfl
        obtain ⟨k', hk', hx'⟩ := List.mem_flatMap.1 hx
        obtain ⟨a', _, e⟩ := List.mem_map.1 hx'
        simp only [List.flatMap_cons, List.flatMap_nil, List.append_nil] at hy
        obtain ⟨b', _, e'⟩ := List.mem_map.1 hy
        rw [← e] at e'
        injection e' with _ e2
        have := List.mem_range.1 hk'
        omega
  exact ((List.perm_ext_iff_of_nodup (hnd _ (Nat.le_refl _)) h.nodup).2 hmem).length_eq
theorem hits_at {s : List UInt8} {P : List (List UInt8)} {H : List (Nat × Nat)} (h : IsHits s P H) {i k : Nat} (hik : i < k) (hk : k < H.length) : ltH (H.getD i (0, 0)) (H.getD k (0, 0)) := by
  rw [getD_some _ _ _ (by omega), getD_some _ _ _ hk]
  exact List.pairwise_iff_getElem.1 h.sorted i k _ _ hik
theorem hasB_hit {H : List (Nat × Nat)} {a k : Nat} (h : (a, k) ∈ H) : hasB ((a : Int), (k : Int)) (H.map hI) = true := hasB_iff.2 (List.mem_map.2 ⟨(a, k), h, rfl⟩)

set_option maxRecDepth 100000 in
set_option maxHeartbeats 4000000 in
theorem trieEach_walk (s : ByteArray) (A : Option Addr) (n c : Nat) (l : List ByteArray) {w : World} (hs0 : s.size ≤ 140737488351232) (hl0 : StrsIn w A n c l) :
    Calls Try.prog 5 #[.string s, .slice A n c] w fun e w' => e = .returned (.bool true) ∧ Below w.heap.size w w' := by
  obtain ⟨hl, hr, hn, hz, hnc, hcm, _⟩ := hl0
  have hz' : ∀ p ∈ l, p.size ≤ 140737488351232 := fun p hp => hz p hp
  have HF := Lib.hid (fun w1 (hb : Below w.heap.size w w1) => tfind_any s A n c w.heap.size l w1 (by omega) hnc hl hz' (hr.below hb) hb.size)
  have Hl := Lib.hid hl
  clear hz hz'
  by_cases hE : findE s l = 0
  case neg =>
    have q1 : (findE s l != 0) = true := by rw [bne_iff_ne]; exact hE
    unfold ToldFind at HF
    have HE := Lib.hid hE
    clear hE hl
    generalize hEE : findE s l = E at *
    go_enter Try.func5, Try.ntmps5
    go_wp2_with fail
    refine (tries_any _).mono ?_
    rintro e w1 ⟨rfl, hb1⟩
    go_wp2_with fail
    refine (HF.out _ hb1).mono ?_
    rintro e w2 ⟨A2, n2, c2, H, rfl, hHl, hown, -, hno, hb2⟩
    have hH := hno HE.out
    subst hH
    have hn2 : n2 = 0 := hHl.symm
    subst hn2
    have hb2 := chain hb2 hb1
    go_wp2
    go_ret
    exact ⟨by first | rfl | simp, hb2⟩
  have hs200 : s.size ≤ 200 := by
    unfold findE at hE
    rcases Nat.lt_or_ge 200 s.size with h1 | h1
    · rw [if_pos h1] at hE; cases hE
    · exact h1
  have hck : checkP l = 0 := by unfold findE at hE; rwa [if_neg (by omega)] at hE
  obtain ⟨hp1, hp2, hp3⟩ := checkP_zero hck
  have hn10 : n ≤ 10 := by omega
  have hPne : ∀ p ∈ pats l, p ≠ [] := fun p hp e => by
    obtain ⟨q, hq, rfl⟩ := List.mem_map.1 hp
    have := (hp2 q hq).1
    have h2 := congrArg List.length e
    have h3 : q.size = 0 := h2
    omega
  have hPl : (pats l).length = n := by unfold pats; rw [List.length_map, hl]
  have HPne := Lib.hid hPne
  have HPl := Lib.hid hPl
  have Hp2 := Lib.hid hp2
  clear hck hp1 hp2 hp3 hPne hPl hl
  go_enter Try.func5, Try.ntmps5
  go_wp2_with fail
  refine (tries_any _).mono ?_
  rintro e w1 ⟨rfl, hb1⟩
  go_wp2_with fail
  refine (HF.out _ hb1).mono ?_
  rintro e w2 ⟨A2, n2, c2, H, rfl, hHl, hown, hhits, -, hb2⟩
  have hh := hhits hE
  rw [hE]
  have hb2 := chain hb2 hb1
  have hrd := hown.toReads
  have hcap := hown.cap
  unfold maxLen at hcap
  have Hh := Lib.hid hh
  have HHl := Lib.hid hHl
  have hlen := each_len hh HPne.out
  rw [HPl.out, hHl] at hlen
  have Hlen := Lib.hid hlen
  have hn2k : n2 ≤ 2000 := by
    have := eachTo_le s.data.toList (pats l) n
    rw [hlen] at this
    exact Nat.le_trans this (Nat.le_trans (Nat.mul_le_mul hn10 (show s.data.toList.length ≤ 200 from hs200)) (by decide))
  clear hh hE hhits hHl hown HF hb1 hlen
  go_wp2
  go_loopw [7, 8, 9, 10, 11, 13, 30, 49] (fun nv _ _ _ _ _ iv _ wr => ∃ k : Nat, k ≤ n ∧ iv = .int .i64 k ∧ nv = .int .i64 ((eachTo s.data.toList (pats l) k).length : Nat) ∧ Below w.heap.size w wr ∧ Below w2.heap.size w2 wr) (fun _ _ _ _ _ _ iv _ _ => n - (intOf iv).toNat)
  case atStart => exact ⟨0, Nat.zero_le _, rfl, rfl, hb2, Below.refl _ _⟩
  case round =>
    clear hb2
    obtain ⟨k, hk, rfl, rfl, hbr, hbr2⟩ := hrel
    by_cases hlt : k < n
    · have hrp := hr.below hbr
      obtain ⟨gp, op, rfl, hgp, hcp⟩ := hrp.2 (by omega)
      have p0 := hcp (k * 1 + 0) (by rw [flat_length cStr 1 cStr_len, Hl.out]; omega)
      rw [flat_getD cStr 1 cStr_len ByteArray.empty l k _ (by rw [Hl.out]; exact hlt) (by omega)] at p0
      simp only [cStr, List.getD_cons_zero, Nat.mul_one, Nat.add_zero] at p0
      have hpb := Hp2.out (l.getD k ByteArray.empty) (by rw [getD_some _ _ _ (by rw [Hl.out]; exact hlt)]; exact List.getElem_mem _)
      have hsucc := eachTo_succ s.data.toList (pats l) k
      rw [pats_getD] at hsucc
      have hle := eachTo_le s.data.toList (pats l) k
      have hle2 : (eachTo s.data.toList (pats l) k).length ≤ 2000 := Nat.le_trans hle (Nat.le_trans (Nat.mul_le_mul (show k ≤ 10 by omega) (show s.data.toList.length ≤ 200 from hs200)) (by decide))
      have hmem : ∀ a ∈ findOf s.data.toList (l.getD k ByteArray.empty).data.toList, (a, k) ∈ H := fun a ha => each_mem Hh.out HPne.out (by rw [HPl.out]; exact hlt) (by rw [pats_getD]; exact ha)
      have hf200 := findOf_le s.data.toList (l.getD k ByteArray.empty).data.toList
      have HS := Lib.hid (find_ok s (l.getD k ByteArray.empty) (seekE_ok.2 ⟨hs200, by omega, hpb.1⟩))
      have Hmem := Lib.hid hmem
      have Hsucc := Lib.hid hsucc
      have hf200 : (findOf s.data.toList (l.getD k ByteArray.empty).data.toList).length ≤ 200 := Nat.le_trans hf200 hs200
      clear hcp hrp hpb hsucc hle hmem
      generalize l.getD k ByteArray.empty = p at *
      generalize findOf s.data.toList p.data.toList = F at *
      generalize (eachTo s.data.toList (pats l) k).length = m at *
      unfold ToldInts at HS
      obtain ⟨M, hM⟩ : ∃ M, M = (nI F).length := ⟨_, rfl⟩
      have hMF : M = F.length := by rw [hM]; simp [nI]
      rw [← hM] at HS
      have HM := Lib.hid hM
      have hM200 : M ≤ 200 := by omega
      have HMF := Lib.hid hMF
      clear hM hMF hf200
      go_wp2_with fail
      refine (HS.out _).mono ?_
      rintro e w3 ⟨A3, c3, rfl, hr3, hb3, -⟩
      have hbr3 := chain hb3 hbr
      have hbr4 := chain hb3 hbr2
      clear hbr hbr2 hb3 HS
      go_wp2
      go_loopw [13, 49] (fun _ jv wr => ∃ j : Nat, j ≤ M ∧ jv = .int .i64 j ∧ Below w.heap.size w wr ∧ Below w2.heap.size w2 wr ∧ Below w3.heap.size w3 wr) (fun _ jv _ => M - (intOf jv).toNat)
      case atStart => exact ⟨0, Nat.zero_le _, rfl, hbr3, hbr4, Below.refl _ _⟩
      case round =>
        clear hbr3 hbr4
        obtain ⟨j, hj, rfl, hbr, hbr2, hbr3⟩ := hrel
        by_cases hjm : j < M
        · have hrq := hr3.below' hbr3 (Nat.le_refl _)
          obtain ⟨gf, of, rfl, hgf, hcf⟩ := hrq.2 (by omega)
          have f0 := hcf (j * 1 + 0) (by rw [flat_length cInt 1 cInt_len, ← HM.out]; omega)
          rw [flat_getD cInt 1 cInt_len 0 (nI F) j _ (by rw [← HM.out]; exact hjm) (by omega)] at f0
          simp only [cInt, List.getD_cons_zero, Nat.mul_one, Nat.add_zero] at f0
          have hnI : (nI F).getD j 0 = ((F.getD j 0 : Nat) : Int) := by
            have hjF : j < F.length := by rw [← HMF.out]; exact hjm
            rw [List.getD_eq_getElem?_getD, List.getD_eq_getElem?_getD]
            simp [nI, hjF]
          rw [hnI] at f0
          have hin := Hmem.out (F.getD j 0) (by rw [getD_some _ _ _ (by rw [← HMF.out]; exact hjm)]; exact List.getElem_mem _)
          generalize F.getD j 0 = x at *
          have hC := fun w' (hb : Below w2.heap.size w2 w') => containsHit_any ((x : Int), (k : Int)) A2 n2 c2 w2.heap.size (H.map hI) w' (by omega) (by rw [List.length_map]; exact HHl.out) (by rw [← cHt_cHit]; exact hrd.below' hb (Nat.le_refl _)) hb.size
          rw [hasB_hit hin] at hC
          have HC := Lib.hid hC
          clear hC hin hnI hcf hrq
          go_wp2_with fail
          refine (HC.out _ hbr2).mono ?_
          rintro e w5 ⟨rfl, hb5⟩
          have k1 := chain hb5 hbr
          have k2 := chain hb5 hbr2
          have k3 := chain hb5 hbr3
          clear hbr hbr2 hbr3 hb5 HC
          go_wp2
          go_roundw
          case rel => exact ⟨j + 1, by omega, by go_num, k1, k2, k3⟩
          case measure => simp [intOf]; omega
        · obtain rfl : j = M := by omega
          have e1 : IntKind.i64.wrap ((m : Int) + (j : Int)) = (m : Int) + (j : Int) := by rw [IntKind.wrap_i64]; omega
          go_wp2
          go_roundw
          case rel => exact ⟨k + 1, by omega, by go_num, by rw [Hsucc.out, ← HMF.out]; rfl, hbr, hbr2⟩
          case measure => simp [intOf]; omega
    · obtain rfl : k = n := by omega
      rw [Hlen.out]
      go_wp2
      go_loopw [14] (fun iv wr => ∃ i : Nat, 1 ≤ i ∧ iv = .int .i64 i ∧ i ≤ n2 + 1 ∧ Below w.heap.size w wr ∧ Below w2.heap.size w2 wr) (fun iv _ => n2 + 1 - (intOf iv).toNat)
      case atStart => exact ⟨1, Nat.le_refl _, rfl, by omega, hbr, hbr2⟩
      case round =>
        clear hbr hbr2
        obtain ⟨i, hi1, rfl, hi, hbr, hbr2⟩ := hrel
        by_cases hin : i < n2
        · obtain ⟨g, o, rfl, hg, hc⟩ := hrd.2 (by omega)
          have hcl : ∀ k, k < n2 → wr.cell? ⟨g, o + k * 2, none⟩ = some (.int .i64 ((H.getD k (0, 0)).1 : Int)) ∧ wr.cell? ⟨g, o + k * 2 + 1, none⟩ = some (.int .i64 ((H.getD k (0, 0)).2 : Int)) := fun k hk => by
            have c0 := hc (k * 2 + 0) (by rw [flat_length cHt 2 cHt_len, HHl.out]; omega)
            have c1 := hc (k * 2 + 1) (by rw [flat_length cHt 2 cHt_len, HHl.out]; omega)
            rw [flat_getD cHt 2 cHt_len (0, 0) H k _ (by rw [HHl.out]; exact hk) (by omega)] at c0 c1
            rw [Nat.add_zero] at c0
            rw [← Nat.add_assoc] at c1
            exact ⟨(hbr2.cell (p := ⟨g, o + k * 2, none⟩) hg).trans c0, (hbr2.cell (p := ⟨g, o + k * 2 + 1, none⟩) hg).trans c1⟩
          obtain ⟨m, hm⟩ : ∃ m, m = i - 1 := ⟨_, rfl⟩
          have wm : IntKind.i64.wrap ((i : Int) - 1) = (m : Int) := by rw [IntKind.wrap_i64]; omega
          obtain ⟨a0, a1⟩ := hcl m (by omega)
          obtain ⟨b0, b1⟩ := hcl i hin
          have hlt := hits_at Hh.out (show m < i by omega) (by rw [HHl.out]; exact hin)
          have im : (m : Int) < (n2 : Int) := by omega
          have im' : m < n2 := by omega
          have ii : (i : Int) < (n2 : Int) := by omega
          clear hc hcl hm
          generalize H.getD m (0, 0) = x at *
          generalize H.getD i (0, 0) = y at *
          obtain ⟨x1, x2⟩ := x
          obtain ⟨y1, y2⟩ := y
          simp only at a0 a1 b0 b1
          unfold ltH at hlt
          simp only at hlt
          have q1 : decide ((y1 : Int) < (x1 : Int)) = false := decide_eq_false (by omega)
          have q1' : decide (y1 < x1) = false := decide_eq_false (by omega)
          rcases hlt with hlt | ⟨rfl, hlt⟩
          case' inl =>
            have q2 : ((x1 : Int) == (y1 : Int)) = false := by rw [beq_eq_false_iff_ne]; omega
          case' inr =>
            have q2 : ((x1 : Int) == (x1 : Int)) = true := beq_self_eq_true _
            have q3 : decide ((y2 : Int) ≤ (x2 : Int)) = false := decide_eq_false (by omega)
            have q3' : decide (y2 ≤ x2) = false := decide_eq_false (by omega)
          all_goals
            clear hlt
            go_wp2
            go_quiet (fail)
            go_wp2
            go_roundw
            case rel => exact ⟨i + 1, by omega, by go_num, by omega, ⟨hbr.os, hbr.tape, hbr.output, hbr.size, hbr.block⟩, ⟨hbr2.os, hbr2.tape, hbr2.output, hbr2.size, hbr2.block⟩⟩
            case measure => simp [intOf] <;> omega
        · have q1 : decide ((i : Int) < (n2 : Int)) = false := decide_eq_false (by omega)
          go_wp2
          go_ret
          exact ⟨by simp, hbr⟩
end Go.Proofs.Ytoacgeipcooljaa
