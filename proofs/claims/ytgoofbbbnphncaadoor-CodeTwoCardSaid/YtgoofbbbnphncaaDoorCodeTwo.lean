/- CodeTwo's walk: if two sequences of code words have the same concatenation, the code is recognized as ambiguous. -/
import Derived.Test.YtgoofbbbnphncaaDoorBuilderK
import Derived.Test.YtgoofbbbnphncaaDoorPackPut
import Derived.Test.YtgoofbbbnphncaaDoorCodes
import Derived.Test.YtgoofbbbnphncaaDoorKeep
import Derived.Test.YtgoofbbbnphncaaDoorEqual
import Derived.Test.YtgoofbbbnphncaaDoorArgs
namespace Go.Proofs.YtgoofbbbnphncaaDoor
open Go.RowKit
set_option linter.unusedVariables false

/-- Unlike rows of words are unlike texts. -/
theorem joinW_inj {l : List ByteArray} (hok : CodeOk (wds l)) (hu : UD (wds l)) {a b : List Int} (ha : textOk l.length a) (hb : textOk l.length b) (h : joinW l a = joinW l b) : a = b := by
  have hwm : ∀ k : Int, 0 ≤ k → k < l.length → wd (l.getD k.toNat ByteArray.empty) ∈ wds l := fun k h0 h1 => mem_wds.2 (by rw [getD_some _ _ _ (by omega)]; exact List.getElem_mem _)
  have e : ∀ t : List Int, (t.map fun k => wd (l.getD k.toNat ByteArray.empty)).flatten = joinW l t := fun t => by unfold joinW; rw [List.flatMap_def]
  have hp := hu (a.map fun k => wd (l.getD k.toNat ByteArray.empty)) (b.map fun k => wd (l.getD k.toNat ByteArray.empty)) (fun x hx => by
    obtain ⟨k, hk, rfl⟩ := List.mem_map.1 hx
    exact hwm k (ha k hk).1 (ha k hk).2) (fun x hx => by
    obtain ⟨k, hk, rfl⟩ := List.mem_map.1 hx
    exact hwm k (hb k hk).1 (hb k hk).2) (by rw [e, e, h])
  have inj : ∀ i k : Int, 0 ≤ i → i < l.length → 0 ≤ k → k < l.length → wd (l.getD i.toNat ByteArray.empty) = wd (l.getD k.toNat ByteArray.empty) → i = k := fun i k i0 i1 k0 k1 he => by
    have hl : (wds l).length = l.length := by unfold wds; rw [List.length_map]
    rw [← wds_getD, ← wds_getD, List.getD_eq_getElem?_getD, List.getElem?_eq_getElem (by omega), List.getD_eq_getElem?_getD, List.getElem?_eq_getElem (by omega)] at he
    have he : (wds l)[i.toNat]'(by omega) = (wds l)[k.toNat]'(by omega) := he
    rcases Nat.lt_trichotomy i.toNat k.toNat with h | h | h
    · exact absurd he (List.pairwise_iff_getElem.1 hok.nodup i.toNat k.toNat (by omega) (by omega) h)
    · omega
    · exact absurd he.symm (List.pairwise_iff_getElem.1 hok.nodup k.toNat i.toNat (by omega) (by omega) h)
  clear h e hwm hu
  induction a generalizing b with
  | nil => cases b with
    | nil => rfl
    | cons _ _ => simp at hp
  | cons x a ih => cases b with
    | nil => simp at hp
    | cons y b =>
      rw [List.map_cons, List.map_cons] at hp
      injection hp with h1 h2
      have hx := ha x (by simp)
      have hy := hb y (by simp)
      rw [inj x y hx.1 hx.2 hy.1 hy.2 h1, ih (fun k hk => ha k (by simp [hk])) (fun k hk => hb k (by simp [hk])) h2]

set_option maxRecDepth 100000 in
set_option maxHeartbeats 4000000 in
theorem oneTwo (bx : Nat) (A : Option Addr) (n c : Nat) (l : List ByteArray) (A' : Option Addr) (m c' : Nat) (t : List Int) (w : World) (hn : n ≤ 12) (hn0 : 0 < n) (hl : l.length = n) (hsz : ∀ k : Nat, (l.getD k ByteArray.empty).size ≤ 12) (hm : m ≤ 10000) (ht : t.length = m)
    (h : Reads w w.heap.size A n 1 (l.flatMap cStr)) (h' : Reads w w.heap.size A' m 1 (t.flatMap cInt)) (hx : w.cell? ⟨bx, 0, none⟩ = some (.slice A n c)) (hbx : bx < w.heap.size) :
    Calls Tryd.prog 52 #[.slice A' m c', .pointer (some ⟨bx, 0, none⟩)] w fun e w' => ∃ A2 c2, e = .returned (.tuple #[.string (⟨(joinW l (t.map (· % (n : Int)))).toArray⟩ : ByteArray), .slice A2 m c2]) ∧
      Reads w' w'.heap.size A2 m 1 ((t.map (· % (n : Int))).flatMap cInt) ∧ Below w.heap.size w w' := by
  obtain ⟨q, hq⟩ : ∃ q, q = t.map (· % (n : Int)) := ⟨_, rfl⟩
  rw [← hq]
  have hql : q.length = m := by rw [hq, List.length_map, ht]
  have hqk : ∀ k, k < m → q.getD k 0 = t.getD k 0 % (n : Int) := fun k hk => by
    rw [hq, List.getD_eq_getElem?_getD, List.getElem?_map, List.getElem?_eq_getElem (by omega), List.getD_eq_getElem?_getD, List.getElem?_eq_getElem (by omega)]
    rfl
  have Hql := Lib.hid hql
  have Hqk := Lib.hid hqk
  have Hl := Lib.hid hl
  have Ht := Lib.hid ht
  have Hsz := Lib.hid hsz
  have hinfo : (Tryd.prog.info? 3).map (fun i => (i.zero, i.size, i.bytes)) = some (some (.int .i64 0), 1, 8) := by kernel_rfl
  have hqt : Hid (∀ k, k < m → q.take (k + 1) = q.take k ++ [q.getD k 0]) := Lib.hid fun k hk => take_succ_getD q k 0 (by omega)
  clear hq hql hqk hl ht hsz
  go_enter Tryd.func52, Tryd.ntmps52
  go_wp2_with fail
  have hbl : BldF ((w.alloc (Obj.cells #[] 3)).alloc (Obj.cells #[Value.pointer none, Value.slice none 0 0] 76)) (w.heap.size + 1) (joinW l (q.take 0)) := by
    have h0 := BldF.new (w.alloc (Obj.cells #[] 3))
    rwa [show (w.alloc (Obj.cells #[] 3)).heap.size = w.heap.size + 1 from by simp] at h0
  have hown : OwnK 3 1 ((w.alloc (Obj.cells #[] 3)).alloc (Obj.cells #[Value.pointer none, Value.slice none 0 0] 76)) (· < w.heap.size) (some ⟨w.heap.size, 0, none⟩) 0 0 ((q.take 0).flatMap cInt) := by
    have h0 : OwnK 3 1 (w.alloc (Obj.cells #[] 3)) (· < w.heap.size) (some ⟨w.heap.size, 0, none⟩) 0 0 [] := ⟨rfl, .inr ⟨w.heap.size, 0, #[], rfl, Nat.lt_irrefl _, Blk.new w 3 #[], Nat.le_refl _, Nat.zero_le _, rfl, rfl⟩⟩
    exact h0.alloc _
  have hb2 : Below w.heap.size w ((w.alloc (Obj.cells #[] 3)).alloc (Obj.cells #[Value.pointer none, Value.slice none 0 0] 76)) := ((Below.refl _ _).alloc (Nat.le_refl _) _).alloc (by simp) _
  generalize World.alloc _ _ = W1 at *
  obtain ⟨b, hb⟩ : ∃ b, b = w.heap.size + 1 := ⟨_, rfl⟩
  rw [← hb] at hbl ⊢
  have hbw : w.heap.size ≤ b := by omega
  clear hb
  go_loopw [6, 8, 13] (fun ov _ iv wr => ∃ (k : Nat) (A2 : Option Addr) (c2 : Nat), k ≤ m ∧ iv = .int .i64 k ∧ ov = .slice A2 k c2 ∧ BldF wr b (joinW l (q.take k)) ∧ OwnK 3 1 wr (· < w.heap.size) A2 k c2 ((q.take k).flatMap cInt) ∧ Below w.heap.size w wr) (fun _ _ iv _ => m - (intOf iv).toNat)
  case atStart => exact ⟨0, some ⟨w.heap.size, 0, none⟩, 0, Nat.zero_le _, rfl, rfl, hbl, hown, hb2⟩
  case round =>
    clear hbl hown hb2
    obtain ⟨k, A2, c2, hk, rfl, rfl, hbl, hown, hbr⟩ := hrel
    by_cases hlt : k < m
    · obtain ⟨b', o', rfl, hbB', hc'⟩ := (h'.below hbr).2 (by omega)
      have c0 := hc' (k * 1 + 0) (by rw [flat_length cInt 1 cInt_len, Ht.out]; omega)
      rw [flat_getD cInt 1 cInt_len 0 t k _ (by rw [Ht.out]; omega) (by omega)] at c0
      simp only [cInt, List.getD_cons_zero, Nat.mul_one, Nat.add_zero] at c0
      have hqe := Hqk.out k hlt
      have hqn := hqt.out k hlt
      rw [hqe] at hqn
      have r0 : 0 ≤ t.getD k 0 % (n : Int) := Int.emod_nonneg _ (by omega)
      have r1 : t.getD k 0 % (n : Int) < (n : Int) := Int.emod_lt_of_pos _ (by omega)
      have HWi := Lib.hid (within_any (t.getD k 0) (n : Int) (by omega) (by omega))
      clear hc' hqe
      generalize t.getD k 0 = y at *
      obtain ⟨r, hr⟩ : ∃ r : Nat, y % (n : Int) = (r : Int) := ⟨(y % (n : Int)).toNat, by omega⟩
      rw [hr] at r0 r1 HWi hqn
      clear hr
      obtain ⟨b0, o0, rfl, hbB, hcl⟩ := (h.below hbr).2 (by omega)
      have c1 := hcl (r * 1 + 0) (by rw [flat_length cStr 1 cStr_len, Hl.out]; omega)
      rw [flat_getD cStr 1 cStr_len ByteArray.empty l r _ (by rw [Hl.out]; omega) (by omega)] at c1
      simp only [cStr, List.getD_cons_zero, Nat.mul_one, Nat.add_zero] at c1
      have hxr := (hbr.cell (p := ⟨bx, 0, none⟩) hbx).trans hx
      have hnx : joinW l (q.take (k + 1)) = joinW l (q.take k) ++ wd (l.getD r ByteArray.empty) := by
        rw [hqn, joinW_app]
        congr 1
        show wd (l.getD ((r : Int).toNat) ByteArray.empty) ++ [] = _
        rw [List.append_nil, Int.toNat_natCast]
      have hnz : (q.take (k + 1)).flatMap cInt = (q.take k).flatMap cInt ++ [.int .i64 (r : Int)] := by
        rw [hqn, List.flatMap_append]; rfl
      have hbd := joinW_len Hsz.out (q.take k)
      rw [List.length_take] at hbd
      have hsi := Hsz.out r
      have Hnx := Lib.hid hnx
      have Hnz := Lib.hid hnz
      have HWr := Lib.hid (fun w2 (hb2 : BldF w2 b (joinW l (q.take k))) => bldWriteF b _ (l.getD r ByteArray.empty) w2 hb2 (by omega))
      clear hcl hnx hnz hqn hbd
      generalize l.getD r ByteArray.empty = x at *
      have hrn : r < n := by omega
      go_wp2_with fail
      refine (HWi.out _).mono ?_
      rintro e w2 ⟨rfl, rfl⟩
      go_wp2_with fail
      refine (HWr.out _ hbl).mono ?_
      rintro e w3 ⟨rfl, hbl3, hb3, ho3⟩
      have hown3 := hown.others ho3 hbl.blk
      have hbr3 := hbr.trans (hb3.mono hbw)
      rw [← Hnx.out] at hbl3
      have hcl : ∀ j, j < 1 → (w3.alloc (Obj.cells #[.int .i64 (r : Int)] 3)).cell? ((⟨w3.heap.size, 0, none⟩ : Addr).add j) = ([.int .i64 (r : Int)] : List Value)[j]? := fun j hj => by
        obtain rfl : j = 0 := by omega
        rw [add_at, World.cell?_alloc_mark]; rfl
      have hk8 : k ≤ 8000000000000 := by omega
      have hk9 : (k + 1) * 8 ≤ 140737488355328 := by omega
      have hbs := hbr3.size
      go_wp2_with (first | (at_builtin; go_must (refine wpList_append_K rfl (.tmp 26) (.tmp 28) 54 rfl (· < w.heap.size) (.int .i64 0) 8 hinfo Tryd.underlying54 rfl (by decide) (by decide) A2 k c2 _ rfl (hown3.alloc _) ⟨w3.heap.size, 0, none⟩ 1 [.int .i64 (r : Int)] rfl rfl (by simp [Value.oneCell']) hcl hk9 hk8 (fun k hk => by simp; omega) ?_); intro A3 c3 w4 hown4 hg4 hp4))
      have hb4 : Below w.heap.size w w4 := (hbr3.alloc hbs _).grown hg4 (by simp; omega) (fun g hg => by have := (hown3.lt g hg).1; omega)
      have hbl4 : BldF w4 b (joinW l (q.take (k + 1))) := (hbl3.after ((Below.refl _ _).alloc (Nat.le_refl _) _)).grown hg4 (fun g hg => (hown3.alloc _).blkOf g hg)
      rw [← Hnz.out] at hown4
      go_wp2
      go_roundw
      case rel => exact ⟨k + 1, A3, c3, by omega, by go_num, rfl, hbl4, hown4, hb4⟩
      case measure => simp [intOf]; omega
    · obtain rfl : k = m := by omega
      have e : q.take k = q := List.take_of_length_le (by rw [Hql.out]; exact Nat.le_refl _)
      rw [e] at hbl hown
      have HST := Lib.hid (bldStringF b _ _ hbl)
      have hbk := hbl.blk
      clear e
      go_wp2_with fail
      refine HST.out.mono ?_
      rintro e w3 ⟨rfl, hb3, ho3⟩
      have hown3 := hown.others ho3 hbk
      have hb4 := hbr.trans (hb3.mono hbw)
      go_wp2
      go_ret2
      exact ⟨A2, c2, rfl, hown3.toReads, hb4⟩

theorem textOk_rest (n : Nat) (hn : 0 < n) (t : List Int) : textOk n (t.map (· % (n : Int))) := fun k hk => by
  obtain ⟨y, _, rfl⟩ := List.mem_map.1 hk
  exact ⟨Int.emod_nonneg _ (by omega), Int.emod_lt_of_pos _ (by omega)⟩

set_option maxRecDepth 100000 in
set_option maxHeartbeats 4000000 in
theorem codeTwo_walk (A : Option Addr) (n cap : Nat) (l : List ByteArray) (A1 : Option Addr) (n1 cap1 : Nat) (a : List Int) (A2 : Option Addr) (n2 cap2 : Nat) (b : List Int) {w : World} (hl : StrsIn w A n cap l) (ha : IntsIn w A1 n1 cap1 a) (hb : IntsIn w A2 n2 cap2 b) :
    Calls Tryd.prog 12 #[.slice A n cap, .slice A1 n1 cap1, .slice A2 n2 cap2] w fun e w' => e = .returned (.bool true) ∧ Below w.heap.size w w' := by
  obtain ⟨hll, hrd, hlen, hsz, hcap, _⟩ := hl
  obtain ⟨hla, hra, hlena, _, hcapa, hma, _⟩ := ha
  obtain ⟨hlb, hrb, hlenb, _, hcapb, hmb, _⟩ := hb
  have hzz : ∀ p ∈ l, p.size ≤ 140737488351232 := fun p hp => hsz p hp
  have HS := Lib.hid (fun w r hB => sole_any A n cap w.heap.size l w (by omega) hcap hll hzz r hB)
  have hbox : Blk (w.alloc (Obj.cells #[.slice A n cap] 36)) w.heap.size 36 #[.slice A n cap] := Blk.new w _ _
  have hx0 : (w.alloc (Obj.cells #[.slice A n cap] 36)).cell? ⟨w.heap.size, 0, none⟩ = some (.slice A n cap) := hbox.cell 0
  have hbx0 : w.heap.size < (w.alloc (Obj.cells #[.slice A n cap] 36)).heap.size := by simp
  have r0 := hrd.alloc (Nat.le_refl _) (Obj.cells #[.slice A n cap] 36)
  have ra0 := hra.alloc (Nat.le_refl _) (Obj.cells #[.slice A n cap] 36)
  have rb0 := hrb.alloc (Nat.le_refl _) (Obj.cells #[.slice A n cap] 36)
  have hb0 : Below w.heap.size w (w.alloc (Obj.cells #[.slice A n cap] 36)) := (Below.refl _ _).alloc (Nat.le_refl _) _
  have gen : ∀ W : World, W = w.alloc (Obj.cells #[.slice A n cap] 36) → True := fun _ _ => trivial
  clear gen hbox
  by_cases hbad : checkC (wds l) ≠ 0 ∨ soleB (wds l) = false ∨ n = 0 ∨ 10000 < n1 + n2
  case pos =>
    have hcs : ¬ checkC (wds l) = 0 → soleB (wds l) = false := fun hc => soleB_no fun h => hc h.1
    obtain ⟨E, hE⟩ : ∃ E, E = checkC (wds l) := ⟨_, rfl⟩
    obtain ⟨R, hR⟩ : ∃ R, R = soleB (wds l) := ⟨_, rfl⟩
    rw [← hE, ← hR] at hbad hcs HS
    have hw12 : IntKind.i64.wrap ((n1 : Int) + (n2 : Int)) = (n1 : Int) + (n2 : Int) := by rw [IntKind.wrap_i64]; omega
    clear hE hR hll hzz hsz hla hlb
    go_enter Tryd.func12, Tryd.ntmps12
    go_wp2_with fail
    refine (codes_any _).mono ?_
    rintro e w1 ⟨rfl, hb1⟩
    have r1 := (r0.below' hb1 (Nat.le_of_lt hbx0)).more (Nat.le_of_lt (Nat.lt_of_lt_of_le hbx0 hb1.size))
    have hx1 := (hb1.cell (p := ⟨w.heap.size, 0, none⟩) hbx0).trans hx0
    have hbx1 := Nat.lt_of_lt_of_le hbx0 hb1.size
    have hb1 := chain hb1 hb0
    go_wp2_with fail
    refine (HS.out _ r1 (Nat.le_refl _)).mono ?_
    rintro e w2 ⟨rfl, hb2⟩
    have hx2 := (hb2.cell (p := ⟨w.heap.size, 0, none⟩) hbx1).trans hx1
    have hb2 := chain hb2 hb1
    clear hx0 hx1 hra hrb ra0 rb0 r0 r1 hrd
    by_cases h1 : E = 0
    case neg =>
      obtain rfl := hcs h1
      have q1 : (E != 0) = true := by simpa using h1
      have q1' : (E == 0) = false := by simpa using h1
      clear hbad hcs h1
      go_wp2
      all_goals (go_ret; exact ⟨by simp, hb2⟩)
    subst h1
    clear hcs
    cases hR : R
    case false =>
      clear hbad
      go_wp2
      all_goals (go_ret; exact ⟨by simp, hb2⟩)
    subst hR
    by_cases h2 : n = 0
    case pos =>
      subst h2
      clear hbad
      go_wp2
      all_goals (go_ret; exact ⟨by simp, hb2⟩)
    have q2 : ((n : Int) == 0) = false := by rw [beq_eq_false_iff_ne]; omega
    have q2' : (n == 0) = false := by rw [beq_eq_false_iff_ne]; omega
    have h3 : 10000 < n1 + n2 := by
      rcases hbad with h | h | h | h
      · exact absurd rfl h
      · cases h
      · exact absurd h h2
      · exact h
    have q3 : decide ((10000 : Int) < (n1 : Int) + (n2 : Int)) = true := decide_eq_true (by omega)
    clear hbad h2
    go_wp2
    all_goals (go_ret; exact ⟨by simp, hb2⟩)
  case neg =>
    have hc : checkC (wds l) = 0 := Classical.byContradiction fun h => hbad (.inl h)
    have hs : soleB (wds l) = true := by
      cases h : soleB (wds l)
      · exact absurd (.inr (.inl h)) hbad
      · rfl
    have hn0 : 0 < n := Nat.pos_of_ne_zero fun h => hbad (.inr (.inr (.inl h)))
    have hsum : n1 + n2 ≤ 10000 := Nat.not_lt.1 fun h => hbad (.inr (.inr (.inr h)))
    have hok := (checkC_zero _).1 hc
    have hn12 : n ≤ 12 := by have := hok.few; unfold wds at this; rw [List.length_map] at this; omega
    have hsz12 : ∀ k : Nat, (l.getD k ByteArray.empty).size ≤ 12 := fun k => by
      rcases Nat.lt_or_ge k l.length with hk | hk
      · rw [getD_some _ _ _ hk]
        have := hok.len (wd l[k]) (mem_wds.2 (List.getElem_mem _))
        exact this
      · rw [getD_none _ _ _ hk]; decide
    have ta := textOk_rest n hn0 a
    have tb := textOk_rest n hn0 b
    have hinj : joinW l (a.map (· % (n : Int))) = joinW l (b.map (· % (n : Int))) → a.map (· % (n : Int)) = b.map (· % (n : Int)) :=
      joinW_inj hok ((soleB_iff _).1 hs).2 (by rw [hll]; exact ta) (by rw [hll]; exact tb)
    have O1 := Lib.hid (fun w bx r rt hx hbx => oneTwo bx A n cap l A1 n1 cap1 a w hn12 hn0 hll hsz12 (by omega) hla r rt hx hbx)
    have O2 := Lib.hid (fun w bx r rt hx hbx => oneTwo bx A n cap l A2 n2 cap2 b w hn12 hn0 hll hsz12 (by omega) hlb r rt hx hbx)
    have hpl : (a.map (· % (n : Int))).length = n1 := by rw [List.length_map]; exact hla
    have hql : (b.map (· % (n : Int))).length = n2 := by rw [List.length_map]; exact hlb
    have Hpl := Lib.hid hpl
    have Hql := Lib.hid hql
    have Hinj := Lib.hid hinj
    rw [hc, hs] at HS
    have q2 : ((n : Int) == 0) = false := by rw [beq_eq_false_iff_ne]; omega
    have q2' : (n == 0) = false := by rw [beq_eq_false_iff_ne]; omega
    have hw12 : IntKind.i64.wrap ((n1 : Int) + (n2 : Int)) = (n1 : Int) + (n2 : Int) := by rw [IntKind.wrap_i64]; omega
    have q3 : decide ((10000 : Int) < (n1 : Int) + (n2 : Int)) = false := decide_eq_false (by omega)
    clear hbad hc hs hok hsz12 ta tb hinj hpl hql hll hzz hsz hla hlb
    generalize a.map (· % (n : Int)) = p at *
    generalize b.map (· % (n : Int)) = q at *
    go_enter Tryd.func12, Tryd.ntmps12
    go_wp2_with fail
    refine (codes_any _).mono ?_
    rintro e w1 ⟨rfl, hb1⟩
    have r1 := (r0.below' hb1 (Nat.le_of_lt hbx0)).more (Nat.le_of_lt (Nat.lt_of_lt_of_le hbx0 hb1.size))
    have ra1 := (ra0.below' hb1 (Nat.le_of_lt hbx0)).more (Nat.le_of_lt (Nat.lt_of_lt_of_le hbx0 hb1.size))
    have rb1 := (rb0.below' hb1 (Nat.le_of_lt hbx0)).more (Nat.le_of_lt (Nat.lt_of_lt_of_le hbx0 hb1.size))
    have hx1 := (hb1.cell (p := ⟨w.heap.size, 0, none⟩) hbx0).trans hx0
    have hbx1 := Nat.lt_of_lt_of_le hbx0 hb1.size
    have hb1 := chain hb1 hb0
    clear hx0 hbx0 hra hrb ra0 rb0 r0 hrd hb0
    go_wp2_with fail
    refine (HS.out _ r1 (Nat.le_refl _)).mono ?_
    rintro e w2 ⟨rfl, hb2⟩
    have r2 := r1.after hb2
    have ra2 := ra1.after hb2
    have rb2 := rb1.after hb2
    have hx2 := (hb2.cell (p := ⟨w.heap.size, 0, none⟩) hbx1).trans hx1
    have hbx2 := Nat.lt_of_lt_of_le hbx1 hb2.size
    have hb2 := chain hb2 hb1
    clear r1 ra1 rb1 hx1 hbx1 hb1
    go_wp2_with fail
    refine (O1.out _ w.heap.size r2 ra2 hx2 hbx2).mono ?_
    rintro e w3 ⟨A3, c3, rfl, rp3, hb3⟩
    have r3 := r2.after hb3
    have rb3 := rb2.after hb3
    have hx3 := (hb3.cell (p := ⟨w.heap.size, 0, none⟩) hbx2).trans hx2
    have hbx3 := Nat.lt_of_lt_of_le hbx2 hb3.size
    have hb3 := chain hb3 hb2
    clear r2 ra2 rb2 hx2 hbx2 hb2
    go_wp2_with fail
    refine (O2.out _ w.heap.size r3 rb3 hx3 hbx3).mono ?_
    rintro e w4 ⟨A4, c4, rfl, rq4, hb4⟩
    have rp4 := rp3.after hb4
    have hb4 := chain hb4 hb3
    clear r3 rb3 hx3 hbx3 hb3 rp3
    by_cases hpq : p = q
    · have hd : decide (p = q) = true := decide_eq_true hpq
      have HE := Lib.hid (equalInt_any A3 A4 n1 n2 c3 c4 _ _ p q _ (by omega) (by omega) Hpl.out Hql.out rp4 rq4)
      rw [hd] at HE
      have hj : (⟨(joinW l p).toArray⟩ : ByteArray) = ⟨(joinW l q).toArray⟩ := by rw [hpq]
      rw [← hj]
      generalize (⟨(joinW l p).toArray⟩ : ByteArray) = X at *
      clear hd hj hpq Hinj
      go_wp2_with fail
      refine HE.out.mono ?_
      rintro e w5 ⟨rfl, hb5⟩
      have hb5 := chain hb5 hb4
      go_wp2
      all_goals (go_ret; exact ⟨by simp, hb5⟩)
    · have hne : ¬ (⟨(joinW l p).toArray⟩ : ByteArray) = ⟨(joinW l q).toArray⟩ := fun h => hpq (Hinj.out (by
        have := congrArg (fun x : ByteArray => x.data.toList) h
        simpa using this))
      generalize (⟨(joinW l p).toArray⟩ : ByteArray) = X at *
      generalize (⟨(joinW l q).toArray⟩ : ByteArray) = Y at *
      have d2 : (X.toList == Y.toList) = false := by
        rw [beq_eq_false_iff_ne]; intro h; rw [ByteArray.toList_eq, ByteArray.toList_eq] at h; exact hne (str_ext h)
      have d3 : (X.toList != Y.toList) = true := by rw [bne, d2]; rfl
      clear hne hpq Hinj
      go_wp2
      all_goals (go_ret; exact ⟨by simp, hb4⟩)
end Go.Proofs.YtgoofbbbnphncaaDoor
