/- TrieMore's walk: a further pattern leaves what the others find unchanged. -/
import Derived.Test.YtoacgeipcooljaaTrieEach
import Derived.Test.YtoacgeipcooljaaDeleteHit
import Derived.Test.YtoacgeipcooljaaClone
namespace Go.Proofs.Ytoacgeipcooljaa
open Go.RowKit Go.Sort
set_option linter.unusedVariables false

theorem checkG_stays : ∀ (l seen : List ByteArray) (r : List ByteArray), checkG seen l ≠ 0 → checkG seen (l ++ r) ≠ 0
  | [], seen, r, h => absurd rfl h
  | y :: l, seen, r, h => by
    rw [List.cons_append, checkG]
    rw [checkG] at h
    by_cases hy : wordT seen y ≠ 0
    · rw [if_pos hy]; exact hy
    · rw [if_neg hy]
      rw [if_neg hy] at h
      exact checkG_stays l _ r h
theorem findE_stays {s : ByteArray} {l : List ByteArray} (p : ByteArray) (h : findE s l ≠ 0) : findE s (l ++ [p]) ≠ 0 := by
  unfold findE at *
  by_cases hs : 200 < s.size
  · rw [if_pos hs]; decide
  · rw [if_neg hs] at *
    unfold checkP at *
    by_cases h10 : 10 < (l ++ [p]).length
    · rw [if_pos h10]; decide
    · rw [if_neg h10]
      rw [if_neg (by rw [List.length_append] at h10; omega)] at h
      exact checkG_stays l [] [p] h
/-- The hit is not of the last pattern. -/
def lastW (n : Nat) (x : Int × Int) : Bool := x.2 == (n : Int)
theorem hits_less {s : ByteArray} {l : List ByteArray} {p : ByteArray} {n : Nat} (hl : l.length = n) {H H' : List (Nat × Nat)} (h : IsHits s.data.toList (pats l) H) (h' : IsHits s.data.toList (pats (l ++ [p])) H') :
    (H'.map hI).filter (fun x => !lastW n x) = H.map hI := by
  have e : (H'.map hI).filter (fun x => !lastW n x) = (H'.filter fun x => !lastW n (hI x)).map hI := by
    rw [List.filter_map]; rfl
  rw [e]
  have hlen : (pats l).length = n := by unfold pats; rw [List.length_map, hl]
  have hsplit : pats (l ++ [p]) = pats l ++ [p.data.toList] := by unfold pats; rw [List.map_append]; rfl
  have hu : IsHits s.data.toList (pats l) (H'.filter fun x => !lastW n (hI x)) := by
    refine ⟨h'.sorted.filter _, fun a k => ?_⟩
    rw [List.mem_filter, h'.mem, hsplit, List.length_append, List.length_singleton, hlen]
    have hk0 : (!lastW n (hI (a, k))) = true ↔ k ≠ n := by
      unfold lastW hI
      simp
      omega
    rw [hk0]
    constructor
    · rintro ⟨⟨h1, h2⟩, h3⟩
      have hk : k < n := by omega
      refine ⟨hk, ?_⟩
      rwa [List.getD_eq_getElem?_getD, List.getElem?_append_left (by rw [hlen]; exact hk), ← List.getD_eq_getElem?_getD] at h2
    · rintro ⟨h1, h2⟩
      refine ⟨⟨by omega, ?_⟩, by omega⟩
      rwa [List.getD_eq_getElem?_getD, List.getElem?_append_left (by rw [hlen]; exact h1), ← List.getD_eq_getElem?_getD]
  rw [hu.unique h]
theorem OwnK.of_own {T : TypeId} {s : Nat} {w : World} {B n c : Nat} {A : Option Addr} {xs : List Value} (h : w.ownsRow B T s (.slice A n c) n xs) : OwnK T s w (· < B) A n c xs := by
  refine ⟨h.1, ?_⟩
  rcases h.2 with ⟨hv, hn⟩ | ⟨g, cap, cur, hv, hb, hg, h1, h2, h3, h4⟩
  · injection hv with e1 e2 e3
    exact .inl ⟨e1, hn, e3⟩
  · injection hv with e1 e2 e3
    subst e3
    exact .inr ⟨g, 0, cur, e1, Nat.not_lt.2 hb, hg, h1, h2, by omega, by rw [List.drop_zero]; exact h4⟩

set_option maxHeartbeats 1000000 in
theorem closeMore (x : Int × Int) (g : Nat) (A : Option Addr) (n c : Nat) (w : World) (hb : Blk w g 22 #[.slice A n c]) :
    Calls Try.prog 12 #[.agg #[.int .i64 x.1, .int .i64 x.2], .pointer (some ⟨g, 0, none⟩)] w fun e w' => e = .returned (.bool (lastW n x)) ∧ Below w.heap.size w w' := by
  obtain ⟨x1, x2⟩ := x
  have b0 := (hb.alloc (Obj.cells #[.int .i64 x1, .int .i64 x2] 29)).cell 0
  have hblk := Blk.new w 29 #[.int .i64 x1, .int .i64 x2]
  have c0 := hblk.cell 0
  have c1 := hblk.cell 1
  have hba : Below w.heap.size w (w.alloc (Obj.cells #[.int .i64 x1, .int .i64 x2] 29)) := (Below.refl _ _).alloc (Nat.le_refl _) _
  unfold lastW
  clear hb hblk
  go_enter Try.func12, Try.ntmps12
  go_wp2
  go_ret
  exact ⟨rfl, hba⟩

set_option maxRecDepth 100000 in
set_option maxHeartbeats 4000000 in
theorem trieMore_walk (s : ByteArray) (A : Option Addr) (n c : Nat) (l : List ByteArray) (p : ByteArray) {w : World} (hs0 : s.size ≤ 140737488351232) (hl0 : StrsIn w A n c l) (hp0 : p.size ≤ 140737488351232) :
    Calls Try.prog 4 #[.string s, .slice A n c, .string p] w fun e w' => e = .returned (.bool true) ∧ Below w.heap.size w w' := by
  obtain ⟨hl, hr, hn, hz, hnc, hcm, _⟩ := hl0
  have hz' : ∀ p ∈ l, p.size ≤ 140737488351232 := fun p hp => hz p hp
  have HF := Lib.hid (fun w1 (hb : Below w.heap.size w w1) => tfind_any s A n c w.heap.size l w1 (by omega) hnc hl hz' (hr.below hb) hb.size)
  have HCl := Lib.hid (fun w1 (hb : Below w.heap.size w w1) => cloneStr_any A n c w.heap.size l hl (by omega) w1 (hr.below hb) hb.size)
  have hl2 : (l ++ [p]).length = n + 1 := by rw [List.length_append, hl]; rfl
  have hz2 : ∀ q ∈ l ++ [p], q.size ≤ 140737488351232 := fun q hq => by
    rcases List.mem_append.1 hq with h | h
    · exact hz' q h
    · rw [List.mem_singleton.1 h]; exact hp0
  have HF2 := Lib.hid (fun A2 c2 (w1 : World) (hc : n + 1 ≤ c2) (h : Reads w1 w1.heap.size A2 (n + 1) 1 ((l ++ [p]).flatMap cStr)) => tfind_any s A2 (n + 1) c2 w1.heap.size (l ++ [p]) w1 (by omega) hc hl2 hz2 h (Nat.le_refl _))
  have Hl := Lib.hid hl
  have hstay := findE_stays (s := s) (l := l) p
  have Hstay := Lib.hid hstay
  have hfew : findE s l = 0 → s.size ≤ 200 ∧ n ≤ 10 ∧ (∀ q ∈ pats l, q ≠ []) := fun hE => by
    have hs200 : s.size ≤ 200 := by
      unfold findE at hE
      rcases Nat.lt_or_ge 200 s.size with h1 | h1
      · rw [if_pos h1] at hE; cases hE
      · exact h1
    have hck : checkP l = 0 := by unfold findE at hE; rwa [if_neg (by omega)] at hE
    obtain ⟨hp1, hp2, hp3⟩ := checkP_zero hck
    refine ⟨hs200, by omega, fun p hp e => ?_⟩
    obtain ⟨q, hq, rfl⟩ := List.mem_map.1 hp
    have := (hp2 q hq).1
    have h2 := congrArg List.length e
    have h3 : q.size = 0 := h2
    omega
  have hfew2 : findE s (l ++ [p]) = 0 → (∀ q ∈ pats (l ++ [p]), q ≠ []) := fun hE => by
    have hck : checkP (l ++ [p]) = 0 := by
      unfold findE at hE
      rcases Nat.lt_or_ge 200 s.size with h1 | h1
      · rw [if_pos h1] at hE; cases hE
      · rwa [if_neg (by omega)] at hE
    obtain ⟨hp1, hp2, hp3⟩ := checkP_zero hck
    intro p hp e
    obtain ⟨q, hq, rfl⟩ := List.mem_map.1 hp
    have := (hp2 q hq).1
    have h2 := congrArg List.length e
    have h3 : q.size = 0 := h2
    omega
  have Hfew := Lib.hid hfew
  have Hfew2 := Lib.hid hfew2
  have hba : Below w.heap.size w (w.alloc (Obj.cells #[.slice A n c] 22)) := (Below.refl _ _).alloc (Nat.le_refl _) _
  have hblk := Blk.new w 22 #[.slice A n c]
  have hgw : w.heap.size < (w.alloc (Obj.cells #[.slice A n c] 22)).heap.size := by simp
  clear hl hz hz' hl2 hz2 hstay hfew hfew2 hr
  unfold ToldFind at HF HF2
  obtain ⟨E1, hE1⟩ : ∃ E1, E1 = findE s l := ⟨_, rfl⟩
  obtain ⟨E2, hE2⟩ : ∃ E2, E2 = findE s (l ++ [p]) := ⟨_, rfl⟩
  rw [← hE1] at HF Hstay Hfew
  rw [← hE2] at HF2 Hstay Hfew2
  clear hE1 hE2
  go_enter Try.func4, Try.ntmps4
  go_wp2_with fail
  refine (tries_any _).mono ?_
  rintro e w1 ⟨rfl, hb1⟩
  have hblk1 := hblk.after hb1
  have hg1 : w.heap.size < w1.heap.size := Nat.lt_of_lt_of_le hgw hb1.size
  have hb1 := chain hb1 hba
  have d0 := hblk1.cell 0
  clear hblk hgw hba
  go_wp2_with fail
  refine (HF.out _ hb1).mono ?_
  rintro e w2 ⟨A1, n1, c1, H1, rfl, hHl1, hown1, hhits1, hno1, hb2⟩
  have hblk2 := hblk1.after hb2
  have hb2' := chain hb2 hb1
  have hg2 : w.heap.size < w2.heap.size := Nat.lt_of_lt_of_le hg1 hb2.size
  have d1 := hblk2.cell 0
  have hown1 := hown1.toReads
  clear hblk1 hb1 hb2 HF d0 hg1
  go_wp2_with fail
  refine (HCl.out _ hb2').mono ?_
  rintro e w3 ⟨A2, c2, rfl, hown2, hb3⟩
  have hblk3 := hblk2.after hb3
  have hb3' := chain hb3 hb2'
  have hB3 : w2.heap.size ≤ w3.heap.size := hb3.size
  have hr3 := hown1.below' hb3 (Nat.le_refl _)
  have hg3 : w.heap.size < w3.heap.size := Nat.lt_of_lt_of_le hg2 hb3.size
  clear hblk2 hb2' HCl d1
  have hn1 : n + 1 ≤ maxLen := by unfold maxLen; omega
  have hn2 : (n + 1) * 16 ≤ 140737488355328 := by omega
  go_wp2_with (first | (at_builtin; go_must (refine wpList_append_new _ 22 (.tmp 23) (.tmp 25) rfl rfl w2.heap.size 9 infoStrCl Try.underlying22 rfl (by decide) A2 n c2 _ rfl hown2 #[.string p] 1 rfl rfl (by simp [Value.oneCell']) hn1 hn2 hB3 ?_); intro A3 c3 w4 hown4 hb4 hg4))
  have e4 : l.flatMap cStr ++ #[Value.string p].toList = (l ++ [p]).flatMap cStr := by rw [List.flatMap_append]; rfl
  rw [e4] at hown4
  have hk4 := OwnK.of_own hown4
  have hc4 := hk4.cap.1
  have hblk4 : Blk w4 w.heap.size 22 #[.slice A n c] := hblk3.below hb4 hg2
  have hb4' : Below w.heap.size w w4 := hb3'.trans (hb4.mono (Nat.le_of_lt hg2))
  have hr4 : Reads w4 w2.heap.size A1 n1 2 (H1.flatMap cHt) := hr3.below hb4
  have HF3 := Lib.hid (HF2.out A3 c3 w4 hc4 hk4.toReads)
  have hS4 : w2.heap.size ≤ w4.heap.size := Nat.le_trans hB3 hb4.size
  clear e4 hown4 hk4 hc4 HF2 hr3 hb3' hblk3 hown2 hB3 hb3 hb4 hg4
  refine HF3.out.mono ?_
  rintro e w5 ⟨A4, n4, c4, H2, rfl, hHl2, hown5, hhits2, hno2, hb5⟩
  have hblk5 := hblk4.after hb5
  have hb5' := chain hb5 hb4'
  have hr5 := hr4.below' hb5 hS4
  have hS5 : w2.heap.size ≤ w5.heap.size := Nat.le_trans hS4 hb5.size
  have hg5 : w.heap.size < w5.heap.size := hblk5.lt
  clear hblk4 hb4' hb5 HF3 hr4
  by_cases hE1 : E1 = 0
  case neg =>
    have hE2 := Hstay.out hE1
    have hH := hno2 hE2
    subst hH
    have hn4 : n4 = 0 := hHl2.symm
    subst hn4
    have q1 : (E1 != 0) = true := by rw [bne_iff_ne]; exact hE1
    have q2 : (E2 != 0) = true := by rw [bne_iff_ne]; exact hE2
    clear hhits1 hno1 hhits2 hno2 Hstay Hfew Hfew2 hHl2 hE2 hE1
    go_wp2
    go_ret
    exact ⟨by first | rfl | simp, hb5'⟩
  subst hE1
  by_cases hE2 : E2 = 0
  case neg =>
    have hH := hno2 hE2
    subst hH
    have hn4 : n4 = 0 := hHl2.symm
    subst hn4
    have q2 : (E2 != 0) = true := by rw [bne_iff_ne]; exact hE2
    clear hhits1 hno1 hhits2 hno2 Hstay Hfew Hfew2 hHl2 hE2
    go_wp2
    go_ret
    exact ⟨by first | rfl | simp, hb5'⟩
  subst hE2
  obtain ⟨hs200, hn10, hne⟩ := Hfew.out rfl
  have hh1 := hhits1 rfl
  have hh2 := hhits2 rfl
  have hless := hits_less Hl.out hh1 hh2
  have hlen1 := each_len hh1 hne
  have hlen2 := each_len hh2 (Hfew2.out rfl)
  have hP1 : (pats l).length = n := by unfold pats; rw [List.length_map, Hl.out]
  have hP2 : (pats (l ++ [p])).length = n + 1 := by unfold pats; rw [List.length_map, List.length_append, Hl.out]; rfl
  have hle1 := eachTo_le s.data.toList (pats l) n
  have hle2 := eachTo_le s.data.toList (pats (l ++ [p])) (n + 1)
  rw [hP1, hHl1] at hlen1
  rw [hP2, hHl2] at hlen2
  rw [hlen1] at hle1
  rw [hlen2] at hle2
  have hn1' : n1 ≤ 11 * 200 := Nat.le_trans hle1 (Nat.mul_le_mul (by omega) hs200)
  have hn4' : n4 ≤ 11 * 200 := Nat.le_trans hle2 (Nat.mul_le_mul (by omega) hs200)
  have Hless := Lib.hid hless
  have hrd5 := hown5.toReads
  rw [cHt_cHit] at hrd5 hr5
  have HC5 := Lib.hid (cloneHit_any A4 n4 c4 w5.heap.size (H2.map hI) (by rw [List.length_map]; exact hHl2) (by omega) w5 hrd5 (Nat.le_refl _))
  have HHl1 := Lib.hid hHl1
  have HHl2 := Lib.hid hHl2
  clear hhits1 hno1 hhits2 hno2 Hstay Hfew Hfew2 hHl2 hHl1 hh1 hh2 hless hlen1 hlen2 hle1 hle2 hP1 hP2 hne hown5
  go_wp2_with fail
  refine HC5.out.mono ?_
  rintro e w6 ⟨A5, c5, rfl, hown6, hb6⟩
  have hk6 := OwnK.of_own hown6
  have hblk6 := hblk5.after hb6
  have HD := Lib.hid (deleteHit_any 12 (enters_of Try.func12 (by kernel_rfl) rfl) (.pointer (some ⟨w.heap.size, 0, none⟩)) w5 A5 n4 c5 (H2.map hI) (lastW n) (by rw [List.length_map]; exact HHl2.out) (by omega) w6 hb6 hk6
    (fun x w1 hb => closeMore x w.heap.size A n c w1 (hblk5.below hb hg5)))
  rw [Hless.out] at HD
  clear hown6 hk6 HC5 hblk6 hb6
  go_wp2_with fail
  refine HD.out.mono ?_
  rintro e w7 ⟨m, rfl, hown7, hm, hb7⟩
  have hm1 : m = n1 := by rw [← hm, List.length_map, HHl1.out]
  subst hm1
  have hb7' := chain hb7 hb5'
  have HE := Lib.hid (equalHit_any A1 A5 m m c1 c5 _ _ (H1.map hI) (H1.map hI) w7 (by omega) (by omega) hm hm (hr5.below' hb7 hS5) hown7.toReads)
  clear HD hown7 hm hb7
  go_wp2_with fail
  refine HE.out.mono ?_
  rintro e w8 ⟨rfl, hb8⟩
  go_wp2
  go_ret
  exact ⟨by simp, chain hb8 hb7'⟩
end Go.Proofs.Ytoacgeipcooljaa
