/- An editor that has done what can be done: the texts there were, and the walks of 'typed' and 'editors'. -/
import Derived.Test.YtookbaaicpapnaaEditor
import Derived.Test.YtookbaaicpapnaaArgs
import Derived.Test.YtookbaaicpapnaaUndoP
import Derived.Test.YtookbaaicpapnaaEditLaws
import Derived.Test.YtookbaaicpapnaaGood
namespace Go.Proofs.Ytookbaaicpapnaa
open Go.RowKit
set_option linter.unusedVariables false

/-- The text after a script. -/
def aft (s : ByteArray) (x : List Ed) : ByteArray := ⟨(app s.data.toList 0 x).toArray⟩
/-- One more script: the texts there were. -/
def stepT (T : List ByteArray) (x : List Ed) : List ByteArray := if checkE (T.getD (T.length - 1) ByteArray.empty).size x = 0 ∧ x ≠ [] then T ++ [aft (T.getD (T.length - 1) ByteArray.empty) x] else T
def textsE (s : ByteArray) (L : List (List Ed)) : List ByteArray := L.foldl stepT [s]
theorem textsE_snoc (s : ByteArray) (L : List (List Ed)) (x : List Ed) : textsE s (L ++ [x]) = stepT (textsE s L) x := by simp [textsE]
theorem aft_size {s : ByteArray} {x : List Ed} (h : checkE s.size x = 0) : (aft s x).size ≤ 200 := by
  obtain ⟨h0, h1, h2, h3, h4⟩ := checkE_ok h
  have := app_length (s := s.data.toList) (e := 0) h3 (fun _ => rfl) (Nat.zero_le _)
  have hs : s.data.toList.length = s.size := rfl
  have : (app s.data.toList 0 x).length ≤ 200 := by omega
  simpa [aft, ByteArray.size] using this
/-- What holds of the texts there were. -/
structure GoodT (T : List ByteArray) : Prop where
  pos : 1 ≤ T.length
  small : ∀ t ∈ T, t.size ≤ 200
theorem GoodT.getD {T : List ByteArray} (h : GoodT T) (j : Nat) : (T.getD j ByteArray.empty).size ≤ 200 := by
  rw [List.getD_eq_getElem?_getD]
  cases hj : T[j]? with
  | none => decide
  | some t => exact h.small t (List.mem_of_getElem? hj)
theorem GoodT.step {T : List ByteArray} (h : GoodT T) (x : List Ed) : GoodT (stepT T x) := by
  unfold stepT
  split
  · rename_i hc
    refine ⟨by simp, fun t ht => ?_⟩
    rcases List.mem_append.1 ht with ht | ht
    · exact h.small t ht
    · rw [List.mem_singleton.1 ht]; exact aft_size hc.1
  · exact h
theorem goodT_one {s : ByteArray} (h : s.size ≤ 200) : GoodT [s] := ⟨by simp, by simpa using h⟩

/-- The editor stands at the text of that number. -/
def EdT (w : World) (K : Nat → Prop) (g : Nat) (T : List ByteArray) (x : Nat) : Prop := EdAt w K g (T.getD x ByteArray.empty) ((T.take x).drop (T.length - 31)) (T.drop (x + 1)).reverse

theorem text_T {g : Nat} {T : List ByteArray} {x : Nat} {K : Nat → Prop} {w : World} (h : EdT w K g T x) :
    Calls Try.prog 41 #[.pointer (some ⟨g, 0, none⟩)] w fun e w' => e = .returned (.string (T.getD x ByteArray.empty)) ∧ w = w' := text_any g _ _ _ K w h
theorem steps_T {g : Nat} {T : List ByteArray} {x z : Nat} {K : Nat → Prop} {w : World} (hz : z + 1 = T.length) (hx : x ≤ z) (h : EdT w K g T x) :
    Calls Try.prog 39 #[.pointer (some ⟨g, 0, none⟩)] w fun e w' => e = .returned (.tuple #[.int .i64 ((x - (z - 30) : Nat) : Int), .int .i64 ((z - x : Nat) : Int)]) ∧ Below w.heap.size w w' := by
  have := steps_any g _ _ _ K w h
  rw [List.length_drop, List.length_take, List.length_reverse, List.length_drop, show min x T.length - (T.length - 31) = x - (z - 30) from by omega, show T.length - (x + 1) = z - x from by omega] at this
  exact this
theorem undo_T (g : Nat) (T : List ByteArray) (x : Nat) (K : Nat → Prop) (w : World) (hK : ∀ k, K k → k < w.heap.size) (hx : x + 1 < T.length) (hD : T.length - 31 ≤ x) (h : EdT w K g T (x + 1)) :
    Calls Try.prog 40 #[.pointer (some ⟨g, 0, none⟩)] w fun e w' => e = .returned (.int .i64 0) ∧ EdT w' K g T x ∧ Kept K w w' := by
  unfold EdT at h ⊢
  have e1 : (T.take (x + 1)).drop (T.length - 31) = (T.take x).drop (T.length - 31) ++ [T.getD x ByteArray.empty] := by
    rw [take_succ_getD T x ByteArray.empty (by omega), List.drop_append_of_le_length (by rw [List.length_take]; omega)]
  have e2 : (T.drop (x + 1)).reverse = (T.drop (x + 1 + 1)).reverse ++ [T.getD (x + 1) ByteArray.empty] := by
    rw [drop_getD T (x + 1) ByteArray.empty hx, List.reverse_cons]
  rw [e1] at h
  rw [e2]
  exact undo_yes g _ _ _ _ K w hK (by rw [List.length_reverse, List.length_drop]; omega) (by rw [List.length_drop, List.length_take]; omega) h
theorem redo_T (g : Nat) (T : List ByteArray) (x : Nat) (K : Nat → Prop) (w : World) (hK : ∀ k, K k → k < w.heap.size) (hx : x + 1 < T.length) (hD : T.length - 31 ≤ x) (h : EdT w K g T x) :
    Calls Try.prog 42 #[.pointer (some ⟨g, 0, none⟩)] w fun e w' => e = .returned (.int .i64 0) ∧ EdT w' K g T (x + 1) ∧ Kept K w w' := by
  unfold EdT at h ⊢
  have e1 : (T.take (x + 1)).drop (T.length - 31) = (T.take x).drop (T.length - 31) ++ [T.getD x ByteArray.empty] := by
    rw [take_succ_getD T x ByteArray.empty (by omega), List.drop_append_of_le_length (by rw [List.length_take]; omega)]
  have e2 : (T.drop (x + 1)).reverse = (T.drop (x + 1 + 1)).reverse ++ [T.getD (x + 1) ByteArray.empty] := by
    rw [drop_getD T (x + 1) ByteArray.empty hx, List.reverse_cons]
  rw [e2] at h
  rw [e1]
  exact redo_yes g _ _ _ _ K w hK (by rw [List.length_reverse, List.length_drop]; omega) (by rw [List.length_drop, List.length_take]; omega) h
theorem redo_T_no (g : Nat) (T : List ByteArray) (x : Nat) (K : Nat → Prop) (w : World) (hx : T.length ≤ x + 1) (h : EdT w K g T x) :
    Calls Try.prog 42 #[.pointer (some ⟨g, 0, none⟩)] w fun e w' => e = .returned (.int .i64 4) ∧ EdT w' K g T x ∧ Below w.heap.size w w' := by
  have h' := h
  unfold EdT at h
  rw [List.drop_of_length_le hx] at h
  exact (redo_no g _ _ K w h).mono fun e w' hw => ⟨hw.1, EdAt.after h' hw.2, hw.2⟩
theorem do_T (g : Nat) (T : List ByteArray) (K : Nat → Prop) (w : World) (hK : ∀ k, K k → k < w.heap.size) (hT : GoodT T) (h : EdT w K g T (T.length - 1)) (A : Option Addr) (len c B0 : Nat) (l : List Ed) (hl : l.length = len) (hE : checkE (T.getD (T.length - 1) ByteArray.empty).size l = 0) (hn : l ≠ [])
    (hr : Reads w B0 A len 3 (l.flatMap cEdit)) (hB0 : B0 ≤ w.heap.size) :
    Calls Try.prog 43 #[.pointer (some ⟨g, 0, none⟩), .slice A len c] w fun e w' => e = .returned (.int .i64 0) ∧ EdT w' K g (stepT T l) ((stepT T l).length - 1) ∧ Kept K w w' := by
  have hp := hT.pos
  have hst : stepT T l = T ++ [aft (T.getD (T.length - 1) ByteArray.empty) l] := by unfold stepT; rw [if_pos ⟨hE, hn⟩]
  rw [hst]
  unfold EdT at h ⊢
  obtain ⟨z, hz⟩ : ∃ z, z = T.length - 1 := ⟨_, rfl⟩
  have hz1 : T.length = z + 1 := by omega
  have e6 : ∀ t, (T ++ [t]).drop (T.length + 1) = [] := fun t => List.drop_of_length_le (by simp)
  rw [List.length_append, List.length_singleton, Nat.add_sub_cancel, getD_app_right _ _ _ _ (Nat.le_refl _), Nat.sub_self, List.getD_cons_zero, List.take_left, e6, List.reverse_nil]
  rw [← hz] at h hE ⊢
  have e3 : T.length + 1 - 31 = z - 29 := by omega
  have e4 : T.length - 31 = z - 30 := by omega
  have e7 : T.drop (z + 1) = [] := List.drop_of_length_le (by omega)
  rw [e4, e7, List.reverse_nil] at h
  have e5 : T.drop (T.length + 1 - 31) = ((T.take z).drop (z - 30) ++ [T.getD z ByteArray.empty]).drop (((T.take z).drop (z - 30)).length + 1 - 30) := by
    have e8 : T.take (z + 1) = T := List.take_of_length_le (by omega)
    rw [← List.drop_append_of_le_length (by rw [List.length_take]; omega), ← take_succ_getD T z ByteArray.empty (by omega), e8, List.drop_drop, List.length_drop, List.length_take]
    congr 1
    omega
  rw [e5]
  exact do_yes g _ _ _ K w hK (by rw [List.length_drop, List.length_take]; omega) h A len c B0 l hl hE (by rw [← hl]; exact List.length_pos_iff.2 hn) hr hB0

/-- What a Do does to an editor whose texts are known. -/
theorem do_any (g : Nat) (T : List ByteArray) (K : Nat → Prop) (w : World) (hK : ∀ k, K k → k < w.heap.size) (hT : GoodT T) (h : EdT w K g T (T.length - 1)) (A : Option Addr) (len c B0 : Nat) (l : List Ed) (hl : l.length = len) (hlen : len ≤ 4398046511104)
    (ho : ∀ x ∈ l, (-9223372036854775808 ≤ x.1 ∧ x.1 ≤ 9223372036854775807) ∧ (-9223372036854775808 ≤ x.2.1 ∧ x.2.1 ≤ 9223372036854775807) ∧ (x.2.2).size ≤ 140737488351232) (hr : Reads w B0 A len 3 (l.flatMap cEdit)) (hB0 : B0 ≤ w.heap.size) :
    ∃ E, ((E = 0 ∧ ∃ t, stepT T l = T ++ [t]) ∨ ((E == 0) = false ∧ (E != 0) = true ∧ stepT T l = T)) ∧
      Calls Try.prog 43 #[.pointer (some ⟨g, 0, none⟩), .slice A len c] w fun e w' => e = .returned (.int .i64 E) ∧ EdT w' K g (stepT T l) ((stepT T l).length - 1) ∧ Kept K w w' := by
  by_cases hE : checkE (T.getD (T.length - 1) ByteArray.empty).size l = 0
  · by_cases hn : l = []
    · subst hn
      obtain rfl : len = 0 := hl.symm
      have hst : stepT T [] = T := by unfold stepT; rw [if_neg (fun h => h.2 rfl)]
      refine ⟨5, .inr ⟨rfl, rfl, hst⟩, ?_⟩
      rw [hst]
      exact (do_nil g _ (hT.getD _) _ _ K w h A c).mono fun e w' hw => ⟨hw.1, EdAt.after h hw.2, Kept.of_below hw.2 hK⟩
    · refine ⟨0, .inl ⟨rfl, aft (T.getD (T.length - 1) ByteArray.empty) l, by unfold stepT; rw [if_pos ⟨hE, hn⟩]⟩, do_T g T K w hK hT h A len c B0 l hl hE hn hr hB0⟩
  · have hst : stepT T l = T := by unfold stepT; rw [if_neg (fun h => hE h.1)]
    refine ⟨_, .inr ⟨by simpa using hE, by simpa using hE, hst⟩, ?_⟩
    rw [hst]
    exact (do_no g _ (by have := hT.getD (T.length - 1); omega) _ _ K w h A len c B0 l hlen hl ho _ rfl hE hr hB0).mono fun e w' hw => ⟨hw.1, EdAt.after h hw.2, Kept.of_below hw.2 hK⟩

/-- append of one string, as one step. -/
theorem wpList_append_S {P : Program} {w : World} {ops : Array Oper} {rest : List Oper} {o : Oper} {a : Act} {Q : Exit → Act → World → Prop} (hgd : o.guard = none) (s x : Operand) (t : TypeId)
    (ho : o.op = .call { callee := .builtin .append, args := #[s, x], argTypes := #[t, t] }) (K : Nat → Prop)
    (hinfo : (P.info? 9).map (fun i => (i.zero, i.size, i.bytes)) = some (some (.string ⟨#[]⟩), 1, 16)) (ht : P.underlying t = some (.slice 9))
    (A : Option Addr) (n c : Nat) (l : List ByteArray) (hs : a.eval s = .slice A n c) (hown : OwnS w K A n c l)
    (ad : Addr) (c2 : Nat) (y : ByteArray) (hx : a.eval x = .slice (some ad) 1 c2) (hy : w.cell? ad = some (.string y)) (had : ad.spot = none)
    (h63 : n ≤ 8000000000000) (hK : ∀ k, K k → k < w.heap.size)
    (h : ∀ A' c' w1, OwnS w1 K A' (n + 1) c' (l ++ [y]) → w.grownBy w1 (Value.slice A n c).ownBlock → (∀ k, (Value.slice A' (n + 1) c').ownBlock = some k → (Value.slice A n c).ownBlock = some k ∨ w.heap.size ≤ k) → wpList P ops Q rest (a.put o.dst (.slice A' (n + 1) c')) w1) : wpList P ops Q (o :: rest) a w := by
  obtain ⟨A', c', w1, hr, h1, h2, h3⟩ := run_append_S (P := P) w K t o.type ht hinfo A n c l hown ad c2 y hy had h63 hK
  refine wpList_plain hgd fun Kq hKq => ?_
  unfold Oper.wp execOp
  simp only [ho, resolve, invoke, builtin, Sem.run_bind, Sem.run_pure, Result.andThen_ok, List.map_toArray, List.map_cons, List.map_nil, hs, hx, hr]
  exact hKq _ _ (h A' c' w1 h1 h2 h3)

/-- What typed tells. -/
def ToldTyped (T : List ByteArray) (B : Nat) (w : World) (e : Ending) (w' : World) : Prop :=
  ∃ g A c, e = .returned (.tuple #[.pointer (some ⟨g, 0, none⟩), .slice A T.length c]) ∧ OwnS w' (· < B) A T.length c T ∧ EdT w' (fun k => k < B ∨ (Value.slice A T.length c).ownBlock = some k) g T (T.length - 1) ∧ Below B w w'

theorem typed_no (s : ByteArray) (hs : 200 < s.size) (A : Option Addr) (len c : Nat) (w : World) :
    Calls Try.prog 38 #[.string s, .slice A len c] w fun e w' => e = .returned (.tuple #[.pointer none, .slice none 0 0]) ∧ Below w.heap.size w w' := by
  go_enter Try.func38, Try.ntmps38
  go_wp2_with fail
  refine (newE_no s hs _).mono ?_
  rintro e w1 ⟨rfl, rfl⟩
  go_wp2
  go_ret2
  exact ⟨rfl, Below.refl _ _⟩

/-- The scripts of a row of them. -/
abbrev scripts (l : List EdRow) : List (List Ed) := l.map (fun x => x.2.2.2)

set_option maxRecDepth 100000 in
set_option maxHeartbeats 4000000 in
theorem typed_ok (s : ByteArray) (hs : s.size ≤ 200) (A : Option Addr) (len c B : Nat) (l : List EdRow) (hll : l.length = len) (hlen : len ≤ 5864062014634) (w0 w : World) (hB : B = w0.heap.size) (hrd0 : Reads w0 B A len 1 (l.flatMap cRow)) (hel : ∀ x ∈ l, EditsIn w0 x.1 x.2.1 x.2.2.1 x.2.2.2) (hb0 : Below B w0 w) :
    Calls Try.prog 38 #[.string s, .slice A len c] w (ToldTyped (textsE s (scripts l)) B w) := by
  have Hll := Lib.hid hll
  have Hel := Lib.hid hel
  have hBw : B ≤ w.heap.size := by rw [hB] at hb0 ⊢; exact hb0.size
  have hrd := hrd0.below hb0
  have HB := Lib.hid hB
  have Hb0 := Lib.hid hb0
  clear hll hel hB hb0 hrd0
  go_enter Try.func38, Try.ntmps38
  go_wp2_with fail
  refine (newE_ok s hs (· < B) w (fun k hk => Nat.lt_of_lt_of_le hk hBw)).mono ?_
  rintro e w1 ⟨rfl, hed1, hb1, hsz1⟩
  have hb1 := hb1.mono hBw
  generalize hgg : w.heap.size = g at hed1 hsz1 hBw ⊢
  have hw1 : B ≤ w1.heap.size := by omega
  have Hgg := Lib.hid hgg
  have Hsz := Lib.hid hsz1
  clear hgg hsz1
  go_wp2
  go_loopw [8, 10, 26] (fun tv _ i wr => ∃ (k n c' : Nat) (T : List ByteArray) (A' : Option Addr), k ≤ len ∧ i = .int .i64 k ∧ tv = .slice A' n c' ∧ n ≤ k + 1 ∧ Hid (T = textsE s (scripts (l.take k))) ∧ GoodT T ∧ Hid (n = T.length) ∧ OwnS wr (· < B) A' n c' T ∧
      EdT wr (fun k => k < B ∨ (Value.slice A' n c').ownBlock = some k) g T (T.length - 1) ∧ Below B w wr)
    (fun _ _ i _ => len - (intOf i).toNat)
  case atStart =>
    refine ⟨0, 1, 1, [s], some ⟨w1.heap.size, 0, none⟩, Nat.zero_le _, rfl, rfl, by omega, Lib.hid rfl, goodT_one hs, Lib.hid rfl, ?_, ?_, ?_⟩
    · exact ⟨rfl, .inr ⟨w1.heap.size, 0, _, rfl, fun hk => by omega, Blk.new w1 _ _, Nat.le_refl _, by decide, rfl, rfl⟩⟩
    · exact (hed1.weak (fun k hk => hk.imp id (fun h => by injection h with h; exact Nat.le_of_eq h))).after ((Below.refl _ _).alloc (Nat.le_refl _) _)
    · exact hb1.alloc hw1 _
  case round =>
    obtain ⟨k, n, c', T, A', hk, rfl, rfl, hnk, HT, hT, HTn, hown, hed, hbr⟩ := hrel
    have hBr : B ≤ wr.heap.size := by have := hbr.size; have := Hgg.out; omega
    by_cases hlt : k < len
    · have h := hrd.below hbr
      obtain ⟨b, o, rfl, hbB, hc⟩ := h.2 (by omega)
      have c0 := hc (k * 1 + 0) (by rw [flat_length cRow 1 cRow_len, Hll.out]; omega)
      have dR : EdRow := (none, 0, 0, [])
      rw [flat_getD cRow 1 cRow_len dR l k _ (by rw [Hll.out]; omega) (by omega)] at c0
      simp only [cRow, List.getD_cons_zero, Nat.mul_one, Nat.add_zero] at c0
      have hmem : l.getD k dR ∈ l := by rw [getD_some _ _ _ (by rw [Hll.out]; omega)]; exact List.getElem_mem _
      have hx := Hel.out _ hmem
      have htake : scripts (l.take (k + 1)) = scripts (l.take k) ++ [(l.getD k dR).2.2.2] := by rw [take_succ_getD l k dR (by rw [Hll.out]; omega)]; simp [scripts]
      generalize l.getD k dR = x at *
      obtain ⟨X, xl, xc, xs⟩ := x
      simp only at c0 hx htake
      obtain ⟨x1, x2, x3, x4, x5, x6, x7⟩ := hx
      rw [← HB.out] at x2
      have hKlt : ∀ k, (k < B ∨ (Value.slice A' n c').ownBlock = some k) → k < wr.heap.size := fun k hk => by
        rcases hk with hk | hk
        · omega
        · exact (hown.lt k hk).2
      obtain ⟨E, hcase, hcall⟩ := do_any g T _ wr hKlt hT hed X xl xc B xs x1 (by omega) x4 ((x2.below Hb0.out).below hbr) hBr
      have HC := Lib.hid hcall
      have Htake := Lib.hid htake
      have Hn := Lib.hid (show n ≤ 8000000000000 by omega)
      clear hcall htake x1 x2 x3 x4 x5 x6 x7 hc h hmem hed hKlt
      rcases hcase with ⟨rfl, t, hst⟩ | ⟨hE1, hE2, hst⟩
      · have e1 : (T ++ [t]).getD ((T ++ [t]).length - 1) ByteArray.empty = t := by
          rw [getD_app_right _ _ _ _ (by simp)]; simp
        have Hst := Lib.hid hst
        have He1 := Lib.hid e1
        clear hst e1
        go_wp2_with fail
        refine HC.out.mono ?_
        rintro e w3 ⟨rfl, hed3, hk3⟩
        rw [Hst.out] at hed3
        have htx := text_T hed3
        rw [He1.out] at htx
        have hB3 : B ≤ w3.heap.size := Nat.le_trans hBr hk3.size
        have hown3 := hown.keep fun k _ hq _ => hk3.block k (.inr hq)
        go_wp2_with fail
        refine htx.mono ?_
        rintro e w4 ⟨rfl, rfl⟩
        have hy : (w3.alloc (Obj.cells #[.string t] 9)).cell? ⟨w3.heap.size, 0, none⟩ = some (.string t) := by rw [World.cell?_alloc_mark]; rfl
        have hsz3 : (w3.alloc (Obj.cells #[.string t] 9)).heap.size = w3.heap.size + 1 := by simp
        go_wp2_with (first | (at_builtin; go_must (refine wpList_append_S rfl (.tmp 34) (.tmp 37) 55 rfl (· < B) infoStrE Try.underlying55 A' n c' T rfl (hown3.alloc _) ⟨w3.heap.size, 0, none⟩ 1 t rfl hy rfl Hn.out (fun k hk => by rw [hsz3]; omega) ?_); intro A3 c3 w5 hown5 hg5 hp5))
        have hed5 : EdT w5 (fun k => k < B ∨ (Value.slice A3 (n + 1) c3).ownBlock = some k) g (T ++ [t]) ((T ++ [t]).length - 1) := by
          have a1 := EdAt.after hed3 ((Below.refl _ _).alloc (Nat.le_refl _) (Obj.cells #[.string t] 9))
          have a2 := a1.weak (K' := fun k => (k < B ∨ (Value.slice A' n c').ownBlock = some k) ∨ (Value.slice A3 (n + 1) c3).ownBlock = some k) (fun k hk => by
            rcases hk with hk | hk
            · exact .inl hk
            · exact (hp5 k hk).imp (fun h => .inr h) id)
          have a3 := a2.grown hg5 (fun k hk => .inl (.inr hk))
          exact a3.weak (fun k hk => .inl (by rcases hk with hk | hk; exact .inl (.inl hk); exact .inr hk))
        have hb5 : Below B w w5 := hbr.trans ((hk3.weak (fun k hk => .inl hk)).below.trans (((Below.refl B w3).alloc hB3 _).trans (Kept.of_grown (K := (· < B)) hg5 (fun k hk => by rw [hsz3]; omega) (fun k hk => (hown3.lt k hk).1)).below))
        go_wp2
        go_roundw
        case rel =>
          refine ⟨k + 1, n + 1, c3, T ++ [t], A3, by omega, by go_num, rfl, by omega, Lib.hid ?_, ?_, Lib.hid (by have := HTn.out; simp; omega), hown5, hed5, hb5⟩
          · rw [Htake.out, textsE_snoc, ← HT.out, Hst.out]
          · rw [← Hst.out]; exact hT.step xs
        case measure => simp only [intOf]; omega
      · have Hst := Lib.hid hst
        clear hst
        go_wp2_with fail
        refine HC.out.mono ?_
        rintro e w3 ⟨rfl, hed3, hk3⟩
        rw [Hst.out] at hed3
        have hown3 := hown.keep fun k _ hq _ => hk3.block k (.inr hq)
        have hb5 : Below B w w3 := hbr.trans (hk3.weak (fun k hk => .inl hk)).below
        go_wp2
        go_roundw
        case rel =>
          refine ⟨k + 1, n, c', T, A', by omega, by go_num, rfl, by omega, Lib.hid ?_, hT, HTn, hown3, hed3, hb5⟩
          rw [Htake.out, textsE_snoc, ← HT.out, Hst.out]
        case measure => simp only [intOf]; omega
    · obtain rfl : k = len := by omega
      go_wp2
      go_ret2
      have hT' : T = textsE s (scripts l) := by rw [HT.out, List.take_of_length_le (by rw [Hll.out]; exact Nat.le_refl _)]
      have hn' := HTn.out
      subst hn'
      subst hT'
      exact ⟨g, A', c', rfl, hown, hed, hbr⟩

theorem typed_known : checkE 2 [(2, 0, ⟨#[99]⟩)] = 0 ∧ app [97, 98] 0 [(2, 0, ⟨#[99]⟩)] = [97, 98, 99] := by decide +kernel

set_option maxHeartbeats 4000000 in
theorem editors_any (w : World) : Calls Try.prog 37 #[] w fun e w' => e = .returned (.bool true) ∧ Below w.heap.size w w' := by
  have hst : stepT [⟨#[97, 98]⟩] [(2, 0, ⟨#[99]⟩)] = [⟨#[97, 98]⟩, ⟨#[97, 98, 99]⟩] := by
    have e := typed_known.2
    have c := typed_known.1
    unfold stepT
    rw [if_pos ⟨c, by simp⟩]
    show [_] ++ [ByteArray.mk (app [97, 98] 0 _).toArray] = _
    rw [e]
    rfl
  have hdo : ∀ w0 g A c (K : Nat → Prop), (∀ k, K k → k < w0.heap.size) → EdT w0 K g [⟨#[97, 98]⟩] 0 → Reads w0 w0.heap.size A 1 3 [.int .i64 2, .int .i64 0, .string ⟨#[99]⟩] → Calls Try.prog 43 #[.pointer (some ⟨g, 0, none⟩), .slice A 1 c] w0 fun e w' => e = .returned (.int .i64 0) ∧ EdT w' K g [⟨#[97, 98]⟩, ⟨#[97, 98, 99]⟩] 1 ∧ Kept K w0 w' := fun w0 g A c K hK h hr => by
    have := do_T g [⟨#[97, 98]⟩] K w0 hK (goodT_one (by decide)) h A 1 c w0.heap.size [(2, 0, ⟨#[99]⟩)] rfl typed_known.1 (by simp) hr (Nat.le_refl _)
    rw [hst] at this
    exact this
  have Hdo := Lib.hid hdo
  clear hdo hst
  have hbd := buildEdit
  obtain ⟨B, hB⟩ : ∃ B, B = w.heap.size := ⟨_, rfl⟩
  have hBw : B ≤ w.heap.size := by omega
  have HB := Lib.hid hB
  clear hB
  go_enter Try.func37, Try.ntmps37
  go_wp2_with fail
  refine (newE_ok ⟨#[97, 98]⟩ (by decide) (· < B) w (fun k hk => Nat.lt_of_lt_of_le hk hBw)).mono ?_
  rintro e w1 ⟨rfl, hed1, hb1, hsz1⟩
  have hb1 := hb1.mono hBw
  generalize hgg : w.heap.size = g at hed1 hsz1 hBw ⊢
  have hw1 : B ≤ w1.heap.size := by omega
  clear hgg hsz1
  have hed1' : EdT w1 (· < B) g [⟨#[97, 98]⟩] 0 := hed1
  go_wp2_with fail
  refine (Hdo.out _ g _ 1 (· < B) (fun k hk => by have : k < B := hk; simp; omega) (EdAt.after hed1' ((Below.refl _ _).alloc (Nat.le_refl _) _)) (Reads.made w1 #[.int .i64 2, .int .i64 0, .string ⟨#[99]⟩] _ 1 3 rfl)).mono ?_
  rintro e w2 ⟨rfl, hed2, hk2⟩
  have hB2 : B ≤ w2.heap.size := Nat.le_trans hw1 (Nat.le_trans (by simp) hk2.size)
  have hb2 : Below B w w2 := (hb1.alloc hw1 _).trans hk2.below
  go_wp2_with fail
  refine (undo_T g _ 0 (· < B) w2 (fun k hk => Nat.lt_of_lt_of_le hk hB2) (by decide) (by decide) hed2).mono ?_
  rintro e w3 ⟨rfl, hed3, hk3⟩
  have hB3 : B ≤ w3.heap.size := Nat.le_trans hB2 hk3.size
  have hb3 : Below B w w3 := hb2.trans hk3.below
  go_wp2_with fail
  refine (text_T hed3).mono ?_
  rintro e w4 ⟨rfl, rfl⟩
  go_wp2_with fail
  refine (redo_T g _ 0 (· < B) w3 (fun k hk => Nat.lt_of_lt_of_le hk hB3) (by decide) (by decide) hed3).mono ?_
  rintro e w5 ⟨rfl, hed5, hk5⟩
  have hB5 : B ≤ w5.heap.size := Nat.le_trans hB3 hk5.size
  have hb5 : Below B w w5 := hb3.trans hk5.below
  clear hed1 hed1' hed2 hed3 hk2 hk3 hk5 hb1 hb2 hb3 hbd hw1 hB2 hB3
  go_wp2_with fail
  refine (good_fresh [0, 0, 0] 3 3 rfl (by decide) _ _).mono ?_
  rintro e w6 ⟨rfl, hb6⟩
  have q0 : ([0, 0, 0] : List Int).all (· == 0) = true := by decide
  have hed6 := EdAt.after hed5 hb6
  have htx : Calls Try.prog 41 #[.pointer (some ⟨g, 0, none⟩)] w6 fun e w' => e = .returned (.string ⟨#[97, 98, 99]⟩) ∧ w6 = w' := text_any g _ _ _ _ w6 hed6
  have q1 : ([⟨#[97, 98]⟩, ⟨#[97, 98, 99]⟩] : List ByteArray).getD 0 ByteArray.empty = ⟨#[97, 98]⟩ := rfl
  go_wp2_with fail
  refine htx.mono ?_
  rintro e w7 ⟨rfl, rfl⟩
  go_wp2
  go_ret
  exact ⟨rfl, by rw [← HB.out]; exact hb5.trans (hb6.mono hB5)⟩
end Go.Proofs.Ytookbaaicpapnaa
