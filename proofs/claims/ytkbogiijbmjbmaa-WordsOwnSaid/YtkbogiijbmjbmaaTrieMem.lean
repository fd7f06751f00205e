/- A tree of words in memory: a row of nodes, each with a row of edges of its own. -/
import Derived.Test.YtkbogiijbmjbmaaBfsP
import Derived.Test.YtkbogiijbmjbmaaSortK
import Derived.Test.YtkbogiijbmjbmaaStruct
namespace Go.Proofs.Ytkbogiijbmjbmaa
open Go.RowKit Go.Sort
set_option linter.unusedVariables false

/-- A node as it lies there: where its edges lie, and what it is. -/
structure NV where
  A : Option Addr
  m : Nat
  c : Nat
  x : Nd
def cNV (v : NV) : List Value := [.slice v.A v.m v.c, .int .i64 (v.x.fail : Int), .int .i64 v.x.ends]
theorem cNV_len (v : NV) : (cNV v).length = 3 := rfl
def cEg (e : UInt8 × Nat) : List Value := [.int .u8 (e.1.toNat : Int), .int .i64 (e.2 : Int)]
theorem cEg_len (e : UInt8 × Nat) : (cEg e).length = 2 := rfl
def nv0 : NV := ⟨none, 0, 0, nd0⟩
def nds (L : List NV) : List Nd := L.map (·.x)
theorem nds_len (L : List NV) : (nds L).length = L.length := by simp [nds]
theorem nds_getD (L : List NV) (i : Nat) : (nds L).getD i nd0 = (L.getD i nv0).x := by
  unfold nds
  rw [List.getD_eq_getElem?_getD, List.getElem?_map, List.getD_eq_getElem?_getD]
  rcases L[i]? with _ | v <;> rfl
theorem nds_set (L : List NV) (i : Nat) (v : NV) : nds (L.set i v) = (nds L).set i v.x := by unfold nds; rw [List.map_set]
abbrev OwnE (w : World) (B : Nat) (v : NV) : Prop := OwnK 70 2 w (· < B) v.A v.m v.c (v.x.next.flatMap cEg)
def ApartE (u v : NV) : Prop := ∀ k, (Value.slice u.A u.m u.c).ownBlock = some k → (Value.slice v.A v.m v.c).ownBlock ≠ some k
structure TrieAt (w : World) (B : Nat) (A : Option Addr) (c : Nat) (L : List NV) : Prop where
  row : OwnK 55 3 w (· < B) A L.length c (L.flatMap cNV)
  kid : ∀ v ∈ L, OwnE w B v
  apart : L.Pairwise ApartE
section
variable {w w' : World} {B c : Nat} {A : Option Addr} {L : List NV}
theorem TrieAt.after (h : TrieAt w B A c L) (hb : Below w.heap.size w w') : TrieAt w' B A c L := ⟨h.row.after hb, fun v hv => (h.kid v hv).after hb, h.apart⟩
theorem TrieAt.drewN (h : TrieAt w B A c L) (k : Nat) : TrieAt (w.drewN k) B A c L := ⟨h.row, h.kid, h.apart⟩
theorem TrieAt.drew (h : TrieAt w B A c L) : TrieAt w.drew B A c L := ⟨h.row, h.kid, h.apart⟩
theorem TrieAt.mem (h : TrieAt w B A c L) {i : Nat} (hi : i < L.length) : L.getD i nv0 ∈ L := by rw [getD_some _ _ _ hi]; exact List.getElem_mem _
theorem TrieAt.kidLen (h : TrieAt w B A c L) {i : Nat} (hi : i < L.length) : (L.getD i nv0).x.next.length = (L.getD i nv0).m := by
  have := (h.kid _ (h.mem hi)).1
  rw [flat_length cEg 2 cEg_len] at this
  omega
theorem TrieAt.cells (h : TrieAt w B A c L) {i : Nat} (hi : i < L.length) : ∃ g o, A = some ⟨g, o, none⟩ ∧ g < w.heap.size ∧ B ≤ g ∧
    w.cell? ⟨g, o + i * 3, none⟩ = some (.slice (L.getD i nv0).A (L.getD i nv0).m (L.getD i nv0).c) ∧ w.cell? ⟨g, o + i * 3 + 1, none⟩ = some (.int .i64 ((L.getD i nv0).x.fail : Int)) ∧ w.cell? ⟨g, o + i * 3 + 2, none⟩ = some (.int .i64 (L.getD i nv0).x.ends) ∧
    w.frozen? ⟨g, o + i * 3, none⟩ = false ∧ w.frozen? ⟨g, o + i * 3 + 1, none⟩ = false ∧ w.frozen? ⟨g, o + i * 3 + 2, none⟩ = false := by
  obtain ⟨g, o, rfl, hg, hB⟩ := h.row.shape (by omega)
  have key : ∀ j, j < 3 → w.cell? ⟨g, o + (i * 3 + j), none⟩ = (cNV (L.getD i nv0))[j]? ∧ w.frozen? ⟨g, o + (i * 3 + j), none⟩ = false := fun j hj => by
    have h1 := h.row.cell (i * 3 + j) (by omega)
    refine ⟨?_, h1.2⟩
    rw [h1.1, getElem?_of_getD _ undef _ (by rw [flat_length cNV 3 cNV_len]; omega), flat_getD cNV 3 cNV_len nv0 L i j hi hj, getElem?_of_getD _ undef _ (by rw [cNV_len]; exact hj)]
  have k0 := key 0 (by omega)
  have k1 := key 1 (by omega)
  have k2 := key 2 (by omega)
  rw [Nat.add_zero] at k0
  rw [← Nat.add_assoc] at k1 k2
  exact ⟨g, o, rfl, hg, Nat.le_of_not_lt hB, k0.1, k1.1, k2.1, k0.2, k1.2, k2.2⟩
theorem flat_setK (L : List NV) (i j : Nat) (v : NV) (u : Value) (hi : i < L.length) (hj : j < 3) (hu : (cNV v)[j]? = some u) (ho : ∀ k, k < 3 → k ≠ j → (cNV v)[k]? = (cNV (L.getD i nv0))[k]?) : (L.flatMap cNV).set (i * 3 + j) u = (L.set i v).flatMap cNV := by
  refine ext_getD _ _ undef (by rw [List.length_set, flat_length cNV 3 cNV_len, flat_length cNV 3 cNV_len, List.length_set]) fun k hk => ?_
  rw [List.length_set, flat_length cNV 3 cNV_len] at hk
  obtain ⟨q, r, rfl, hr⟩ : ∃ q r, k = q * 3 + r ∧ r < 3 := ⟨k / 3, k % 3, by omega, by omega⟩
  have hq : q < L.length := by omega
  rw [getD_set _ _ _ _ (by rw [flat_length cNV 3 cNV_len]; omega), flat_getD cNV 3 cNV_len nv0 L q r hq hr, flat_getD cNV 3 cNV_len nv0 (L.set i v) q r (by rw [List.length_set]; exact hq) hr, getD_set _ _ _ _ hi]
  by_cases e : q = i
  · rw [if_pos e]
    by_cases e2 : r = j
    · rw [if_pos (by omega), e2, List.getD_eq_getElem?_getD, hu]; rfl
    · have h1 := congrArg (fun o : Option Value => o.getD undef) (ho r hr e2)
      rw [if_neg (by omega), e]
      simpa [List.getD_eq_getElem?_getD] using h1.symm
  · rw [if_neg e, if_neg (by omega)]
theorem TrieAt.store {g o : Nat} (h : TrieAt w B (some ⟨g, o, none⟩) c L) {i j : Nat} (hi : i < L.length) (hj : j < 3) {v : NV} {u : Value} (hu : (cNV v)[j]? = some u) (ho : ∀ k, k < 3 → k ≠ j → (cNV v)[k]? = (cNV (L.getD i nv0))[k]?)
    (hv : OwnE (w.setCell ⟨g, o + (i * 3 + j), none⟩ u) B v) (ha : ∀ k, k < L.length → k ≠ i → ApartE (L.getD k nv0) v ∧ ApartE v (L.getD k nv0)) : TrieAt (w.setCell ⟨g, o + (i * 3 + j), none⟩ u) B (some ⟨g, o, none⟩) c (L.set i v) := by
  have hr := h.row.store (i * 3 + j) (by omega) u
  have hgb : ∃ cs, Blk w g 55 cs := by
    rcases h.row.2 with ⟨h0, _⟩ | ⟨g', o', cur, e, _, hb, _⟩
    · cases h0
    · injection e with e; injection e with e1 e2; subst e1; exact ⟨cur, hb⟩
  obtain ⟨cs, hgb⟩ := hgb
  refine ⟨?_, fun x hx => ?_, ?_⟩
  · rw [List.length_set, ← flat_setK L i j v u hi hj hu ho]; exact hr
  · rcases List.mem_or_eq_of_mem_set hx with hx | rfl
    · exact (h.kid x hx).far (fun hq => (h.kid x hx).ne_blk hgb (by decide) hq) _ _
    · exact hv
  · rw [List.pairwise_iff_getElem]
    intro a b ha' hb' hab
    rw [List.length_set] at ha' hb'
    rw [List.getElem_set, List.getElem_set]
    have hp := List.pairwise_iff_getElem.1 h.apart
    have e1 := getD_some L nv0 a ha'
    have e2 := getD_some L nv0 b hb'
    by_cases h1 : i = a
    · rw [if_pos h1, if_neg (by omega), ← e2]; exact (ha b hb' (by omega)).2
    · rw [if_neg h1]
      by_cases h2 : i = b
      · rw [if_pos h2, ← e1]; exact (ha a ha' (by omega)).1
      · rw [if_neg h2]; exact hp a b ha' hb' hab
theorem TrieAt.apart_of (h : TrieAt w B A c L) {i k : Nat} (hi : i < L.length) (hk : k < L.length) (hki : k ≠ i) : ApartE (L.getD k nv0) (L.getD i nv0) := by
  have hp := List.pairwise_iff_getElem.1 h.apart
  rw [getD_some L nv0 k hk, getD_some L nv0 i hi]
  rcases Nat.lt_or_ge k i with h1 | h1
  · exact hp k i hk hi h1
  · intro x hx hy
    exact hp i k hi hk (by omega) x hy hx
/-- A link, or an end, is set. -/
theorem TrieAt.num {g o : Nat} (h : TrieAt w B (some ⟨g, o, none⟩) c L) {i j : Nat} (hi : i < L.length) (hj : j = 1 ∨ j = 2) {x : Nd} {u : Value} (hx : x.next = (L.getD i nv0).x.next) (hu : (cNV { L.getD i nv0 with x := x })[j]? = some u)
    (ho : ∀ k, k < 3 → k ≠ j → (cNV { L.getD i nv0 with x := x })[k]? = (cNV (L.getD i nv0))[k]?) : TrieAt (w.setCell ⟨g, o + (i * 3 + j), none⟩ u) B (some ⟨g, o, none⟩) c (L.set i { L.getD i nv0 with x := x }) := by
  have hgb : ∃ cs, Blk w g 55 cs := by
    rcases h.row.2 with ⟨h0, _⟩ | ⟨g', o', cur, e, _, hb, _⟩
    · cases h0
    · injection e with e; injection e with e1 e2; subst e1; exact ⟨cur, hb⟩
  obtain ⟨cs, hgb⟩ := hgb
  have hk := h.kid _ (h.mem hi)
  refine h.store hi (by omega) hu ho ?_ fun k hk' hki => ⟨h.apart_of hi hk' hki, h.apart_of hk' hi (Ne.symm hki)⟩
  show OwnK 70 2 _ _ (L.getD i nv0).A (L.getD i nv0).m (L.getD i nv0).c (x.next.flatMap cEg)
  rw [hx]
  exact hk.far (fun hq => hk.ne_blk hgb (by decide) hq) _ _
/-- An edge more: its row has grown, and the node's slice is set. -/
theorem TrieAt.edge {w1 : World} {g o : Nat} (h : TrieAt w B (some ⟨g, o, none⟩) c L) {i : Nat} (hi : i < L.length) {e : UInt8 × Nat} {A' : Option Addr} {c' : Nat} (hBw : B ≤ w.heap.size)
    (hown : OwnK 70 2 w1 (· < B) A' ((L.getD i nv0).m + 1) c' ((L.getD i nv0).x.next.flatMap cEg ++ cEg e)) (hg : w.grownBy w1 (Value.slice (L.getD i nv0).A (L.getD i nv0).m (L.getD i nv0).c).ownBlock)
    (hnew : ∀ k, (Value.slice A' ((L.getD i nv0).m + 1) c').ownBlock = some k → (Value.slice (L.getD i nv0).A (L.getD i nv0).m (L.getD i nv0).c).ownBlock = some k ∨ w.heap.size ≤ k) :
    TrieAt (w1.setCell ⟨g, o + i * 3, none⟩ (.slice A' ((L.getD i nv0).m + 1) c')) B (some ⟨g, o, none⟩) c (L.set i ⟨A', (L.getD i nv0).m + 1, c', { (L.getD i nv0).x with next := (L.getD i nv0).x.next ++ [e] }⟩) := by
  have hgb : ∃ cs, Blk w g 55 cs := by
    rcases h.row.2 with ⟨h0, _⟩ | ⟨g', o', cur, e, _, hb, _⟩
    · cases h0
    · injection e with e; injection e with e1 e2; subst e1; exact ⟨cur, hb⟩
  obtain ⟨cs, hgb⟩ := hgb
  have hki := h.kid _ (h.mem hi)
  have hgn : (Value.slice (L.getD i nv0).A (L.getD i nv0).m (L.getD i nv0).c).ownBlock ≠ some g := hki.ne_blk hgb (by decide)
  have hgb1 : Blk w1 g 55 cs := by
    have hlt := hgb.lt
    unfold Blk at hgb ⊢
    rw [hg.block g hlt (fun e => hgn e.symm)]
    exact hgb
  -- the other nodes' edges stand
  have hoth : ∀ k, k < L.length → k ≠ i → OwnE w1 B (L.getD k nv0) := fun k hk hki' => (h.kid _ (h.mem hk)).grown hg fun x hx hq => h.apart_of hi hk hki' x hq hx
  have hrow1 := h.row.grown hg (fun k hk hq => hgn (by
    have hq : g = k := by injection hq
    rw [hq]
    exact hk))
  have hr := hrow1.store (i * 3 + 0) (by omega) (.slice A' ((L.getD i nv0).m + 1) c')
  rw [Nat.add_zero] at hr
  have hapart : ∀ k, k < L.length → k ≠ i → ∀ b, (Value.slice (L.getD k nv0).A (L.getD k nv0).m (L.getD k nv0).c).ownBlock = some b → (Value.slice A' ((L.getD i nv0).m + 1) c').ownBlock ≠ some b := fun k hk hki' b hb hq => by
    rcases hnew b hq with h2 | h2
    · exact h.apart_of hi hk hki' b hb h2
    · have := ((h.kid _ (h.mem hk)).lt b hb).2
      omega
  refine ⟨?_, fun x hx => ?_, ?_⟩
  · rw [List.length_set, ← flat_setK L i 0 ⟨A', (L.getD i nv0).m + 1, c', { (L.getD i nv0).x with next := (L.getD i nv0).x.next ++ [e] }⟩ (.slice A' ((L.getD i nv0).m + 1) c') hi (by omega) rfl (fun k hk h0 => by
      match k, hk, h0 with
      | 1, _, _ => rfl
      | 2, _, _ => rfl), Nat.add_zero]
    exact hr
  · obtain ⟨k, hk, e2⟩ := List.getElem_of_mem hx
    rw [List.length_set] at hk
    rw [List.getElem_set] at e2
    by_cases hki' : i = k
    · rw [if_pos hki'] at e2
      rw [← e2]
      have := hown.far (g := g) (fun hq => hown.ne_blk hgb1 (by decide) hq) (o + i * 3) (.slice A' ((L.getD i nv0).m + 1) c')
      show OwnK 70 2 _ _ A' ((L.getD i nv0).m + 1) c' (((L.getD i nv0).x.next ++ [e]).flatMap cEg)
      rw [List.flatMap_append]
      simpa using this
    · rw [if_neg hki', ← getD_some L nv0 k hk] at e2
      rw [← e2]
      have := hoth k hk (fun e => hki' e.symm)
      exact this.far (fun hq => this.ne_blk hgb1 (by decide) hq) _ _
  · rw [List.pairwise_iff_getElem]
    intro a b ha' hb' hab
    rw [List.length_set] at ha' hb'
    rw [List.getElem_set, List.getElem_set]
    have hp := List.pairwise_iff_getElem.1 h.apart
    have e1 := getD_some L nv0 a ha'
    have e2 := getD_some L nv0 b hb'
    by_cases h1 : i = a
    · rw [if_pos h1, if_neg (by omega), ← e2]
      exact fun k hk hq => hapart b hb' (by omega) k hq hk
    · rw [if_neg h1]
      by_cases h2 : i = b
      · rw [if_pos h2, ← e1]; exact fun k hk hq => hapart a ha' (by omega) k hk hq
      · rw [if_neg h2]; exact hp a b ha' hb' hab
/-- Where the node's slice is to be stored. -/
theorem TrieAt.edgeAt {w1 : World} {g o : Nat} (h : TrieAt w B (some ⟨g, o, none⟩) c L) {i : Nat} (hi : i < L.length) (hg : w.grownBy w1 (Value.slice (L.getD i nv0).A (L.getD i nv0).m (L.getD i nv0).c).ownBlock) :
    w1.cell? ⟨g, o + i * 3, none⟩ = some (.slice (L.getD i nv0).A (L.getD i nv0).m (L.getD i nv0).c) ∧ w1.frozen? ⟨g, o + i * 3, none⟩ = false := by
  have hgb : ∃ cs, Blk w g 55 cs := by
    rcases h.row.2 with ⟨h0, _⟩ | ⟨g', o', cur, e, _, hb, _⟩
    · cases h0
    · injection e with e; injection e with e1 e2; subst e1; exact ⟨cur, hb⟩
  obtain ⟨cs, hgb⟩ := hgb
  have hki := h.kid _ (h.mem hi)
  have hgn : (Value.slice (L.getD i nv0).A (L.getD i nv0).m (L.getD i nv0).c).ownBlock ≠ some g := hki.ne_blk hgb (by decide)
  have hblk : w1.heap[g]? = w.heap[g]? := hg.block g hgb.lt (fun e => hgn e.symm)
  obtain ⟨g', o', e, _, _, c0, _, _, f0, _⟩ := h.cells hi
  injection e with e
  injection e with e1 e2
  subst e1; subst e2
  exact ⟨(World.cell?_of_block (w := w) (a := ⟨g, o + i * 3, none⟩) hblk).trans c0, (World.frozen?_of_block (w := w) (a := ⟨g, o + i * 3, none⟩) hblk).trans f0⟩
/-- A node more. -/
theorem TrieAt.node {w1 : World} {A' : Option Addr} {c' : Nat} (h : TrieAt w B A c L) (hBw : B ≤ w.heap.size) (hown : OwnK 55 3 w1 (· < B) A' (L.length + 1) c' (L.flatMap cNV ++ cNV nv0)) (hg : w.grownBy w1 (Value.slice A L.length c).ownBlock) :
    TrieAt w1 B A' c' (L ++ [nv0]) := by
  refine ⟨?_, fun x hx => ?_, ?_⟩
  · rw [List.length_append, List.length_singleton, List.flatMap_append]
    simpa using hown
  · rcases List.mem_append.1 hx with hx | hx
    · refine (h.kid x hx).grown hg fun k hk hq => ?_
      rcases h.row.2 with ⟨h0, _⟩ | ⟨g', o', cur, e, _, hb, _⟩
      · rw [h0] at hk; cases hk
      · rw [e] at hk
        injection hk with hk
        subst hk
        exact (h.kid x hx).ne_blk hb (by decide) hq
    · rw [List.mem_singleton.1 hx]; exact OwnK.nil _ _ _ _
  · refine List.pairwise_append.2 ⟨h.apart, by simp, fun x hx y hy => ?_⟩
    rw [List.mem_singleton.1 hy]
    intro k hk hq
    cases hq
end
end Go.Proofs.Ytkbogiijbmjbmaa
