/- The walk of build: the tree of words, and its links. -/
import Derived.Test.YtkbogiijbmjbmaaTrieBfs
import Derived.Deep.LoopGhost
import Derived.Deep.RegionHeld3
import Derived.Test.YtkbogiijbmjbmaaTail
import Derived.IntWalk
namespace Go.Proofs.Ytkbogiijbmjbmaa
open Go.RowKit Go.Sort
set_option linter.unusedVariables false

theorem infoNode : (Try.prog.info? 55).map (fun i => (i.zero, i.size, i.bytes)) = some (some (.agg #[.slice none 0 0, .int .i64 0, .int .i64 0]), 3, 40) := by kernel_rfl
theorem infoEdge : (Try.prog.info? 70).map (fun i => (i.zero, i.size, i.bytes)) = some (some (.agg #[.int .u8 0, .int .i64 0]), 2, 16) := by kernel_rfl
/-- The tree while words are put in. -/
structure TrieIn (T : List Nd) (W P : List (List UInt8)) (N : Nat) : Prop where
  tree : Tree T W
  ends : EndsAt T W P
  zf : ∀ t, (T.getD t nd0).fail = 0
  few : W.length ≤ N
theorem trieIn_one : TrieIn [nd0] [[]] [] 1 := ⟨tree_one, ends_one, fun t => by
  match t with
  | 0 => rfl
  | t + 1 => rfl, Nat.le_refl _⟩
section
variable {T : List Nd} {W P : List (List UInt8)} {N : Nat}
theorem TrieIn.more (h : TrieIn T W P N) {M : Nat} (hM : N ≤ M) : TrieIn T W P M := ⟨h.tree, h.ends, h.zf, Nat.le_trans h.few hM⟩
theorem TrieIn.grow (h : TrieIn T W P N) {i : Nat} (hi : i < W.length) {c : UInt8} (hn : leadE (T.getD i nd0).next c = 0) : TrieIn (growT T i c) (W ++ [W.getD i [] ++ [c]]) P (N + 1) := by
  refine ⟨h.tree.grow hi hn, h.ends.grow h.tree hi, fun t => ?_, by have := h.few; simp; omega⟩
  rw [growT_getD (by rw [h.tree.len]; exact hi)]
  split
  · exact h.zf i
  · exact h.zf t
theorem TrieIn.add (h : TrieIn T W P N) {i : Nat} (hi : i < W.length) {p : List UInt8} (hp : W.getD i [] = p) (hnew : p ∉ P) : TrieIn (T.set i { T.getD i nd0 with ends := (P.length : Int) }) W (P ++ [p]) N := by
  refine ⟨h.tree.set hi rfl, h.ends.add h.tree hi hp hnew, fun t => ?_, h.few⟩
  rw [setNd (by rw [h.tree.len]; exact hi)]
  split
  · exact h.zf i
  · exact h.zf t
end
theorem nds_grow (L : List NV) {i : Nat} (hi : i < L.length) (b : UInt8) (A' : Option Addr) (m' c' : Nat) : nds (L.set i ⟨A', m', c', { (L.getD i nv0).x with next := (L.getD i nv0).x.next ++ [(b, L.length)] }⟩ ++ [nv0]) = growT (nds L) i b := by
  unfold growT
  rw [nds_len, nds_getD]
  unfold nds
  rw [List.map_append, List.map_set]
  rfl
theorem trie_one (w : World) (B : Nat) (hB : B ≤ w.heap.size) : TrieAt (w.alloc (Obj.cells #[.slice none 0 0, .int .i64 0, .int .i64 (-1)] 55)) B (some ⟨w.heap.size, 0, none⟩) 1 [nv0] := by
  refine ⟨⟨rfl, .inr ⟨w.heap.size, 0, _, rfl, by show ¬ w.heap.size < B; omega, Blk.new w _ _, Nat.le_refl _, by unfold maxLen; decide, by decide, rfl⟩⟩, fun v hv => ?_, by simp⟩
  rw [List.mem_singleton.1 hv]
  exact OwnK.nil _ _ _ _

theorem OwnK.ne_obj {T t : TypeId} {s n c gb : Nat} {w : World} {K : Nat → Prop} {A : Option Addr} {xs : List Value} {cs : Array Value} {m : Nat × Nat} (h : OwnK T s w K A n c xs) (hO : w.heap[gb]? = some (.cells cs t m)) (ht : T ≠ t) : (Value.slice A n c).ownBlock ≠ some gb := fun hq => by
  rcases h.2 with ⟨rfl, _⟩ | ⟨g', o, cur, rfl, hb, hg', _⟩
  · cases hq
  · injection hq with hq
    subst hq
    have := hg'.symm.trans hO
    injection this with this
    injection this with _ this _
    exact ht this
theorem bytesAt_block {w w' : World} {g : Nat} {l : List UInt8} (h : BytesAt w g l) (e : w'.heap[g]? = w.heap[g]?) : BytesAt w' g l := by
  have hlt : g < w'.heap.size := by
    rcases Nat.lt_or_ge g w'.heap.size with h1 | h1
    · exact h1
    · rw [Array.getElem?_eq_none h1, Array.getElem?_eq_getElem h.1] at e; cases e
  exact ⟨hlt, fun j hj => ⟨(World.cell?_of_block (w := w) (a := ⟨g, j, none⟩) e).trans (h.2 j hj).1, (World.frozen?_of_block (w := w) (a := ⟨g, j, none⟩) e).trans (h.2 j hj).2⟩⟩

theorem heap_alloc_old (w : World) (o : Obj) (k : Nat) (h : k < w.heap.size) : (w.alloc o).heap[k]? = w.heap[k]? := Below.heap_alloc w o k h
theorem some_lt {w : World} {k : Nat} {o : Obj} (h : w.heap[k]? = some o) : k < w.heap.size := by
  rcases Nat.lt_or_ge k w.heap.size with h' | h'
  · exact h'
  · rw [Array.getElem?_eq_none h'] at h; cases h
/-- An edge is put in: what holds behind the append and the store. -/
theorem edge_all {w w2 : World} {B g o c a gb : Nat} {L : List NV} {cs : Array Value} {m : Nat × Nat} (hT : TrieAt w2 B (some ⟨g, o, none⟩) c L) (haL : a < L.length) (hB : B ≤ w2.heap.size) (hbr : Below B w w2) (hO : w2.heap[gb]? = some (.cells cs 5 m)) (e : UInt8 × Nat)
    (A3 : Option Addr) (c3 : Nat) (w3 : World) (hown : OwnK 70 2 w3 (· < B) A3 ((L.getD a nv0).m + 1) c3 ((L.getD a nv0).x.next.flatMap cEg ++ cEg e)) (hg : (w2.alloc (Obj.cells (cEg e).toArray 70)).grownBy w3 (Value.slice (L.getD a nv0).A (L.getD a nv0).m (L.getD a nv0).c).ownBlock)
    (hp : ∀ k, (Value.slice A3 ((L.getD a nv0).m + 1) c3).ownBlock = some k → (Value.slice (L.getD a nv0).A (L.getD a nv0).m (L.getD a nv0).c).ownBlock = some k ∨ (w2.alloc (Obj.cells (cEg e).toArray 70)).heap.size ≤ k) :
    w3.cell? ⟨g, o + a * 3, none⟩ = some (.slice (L.getD a nv0).A (L.getD a nv0).m (L.getD a nv0).c) ∧ w3.frozen? ⟨g, o + a * 3, none⟩ = false ∧
    TrieAt (w3.setCell ⟨g, o + a * 3, none⟩ (.slice A3 ((L.getD a nv0).m + 1) c3)) B (some ⟨g, o, none⟩) c (L.set a ⟨A3, (L.getD a nv0).m + 1, c3, { (L.getD a nv0).x with next := (L.getD a nv0).x.next ++ [e] }⟩) ∧
    Below B w (w3.setCell ⟨g, o + a * 3, none⟩ (.slice A3 ((L.getD a nv0).m + 1) c3)) ∧ (w3.setCell ⟨g, o + a * 3, none⟩ (.slice A3 ((L.getD a nv0).m + 1) c3)).heap[gb]? = w2.heap[gb]? := by
  have hbE : Below w2.heap.size w2 (w2.alloc (Obj.cells (cEg e).toArray 70)) := (Below.refl _ _).alloc (Nat.le_refl _) _
  have hTE := hT.after hbE
  have hBE : B ≤ (w2.alloc (Obj.cells (cEg e).toArray 70)).heap.size := Nat.le_trans hB hbE.size
  obtain ⟨k1, k2⟩ := hTE.edgeAt haL hg
  have hki := hTE.kid _ (hTE.mem haL)
  have hOE : (w2.alloc (Obj.cells (cEg e).toArray 70)).heap[gb]? = some (.cells cs 5 m) := (hbE.block gb (some_lt hO)).trans hO
  have hgbl := some_lt hOE
  have hO3 : w3.heap[gb]? = w2.heap[gb]? := (hg.block gb hgbl (fun h => hki.ne_obj hOE (by decide) h.symm)).trans (hOE.trans hO.symm)
  have hggb : gb ≠ g := fun h => hTE.row.ne_obj hOE (by decide) (by rw [h]; rfl)
  have hgB : B ≤ g := Nat.le_of_not_lt (hTE.row.lt g rfl).1
  refine ⟨k1, k2, hTE.edge haL hBE hown hg hp, ?_, ?_⟩
  · exact ((hbr.alloc hB _).grown hg hBE fun k hk => Nat.le_of_not_lt (hki.lt k hk).1).setCell hgB _
  · rw [Below.heap_setCell _ _ _ _ hggb]; exact hO3
theorem node_cells (w : World) : ∀ x, x < 3 → (w.alloc (Obj.cells #[.slice none 0 0, .int .i64 0, .int .i64 (-1)] 55)).cell? ((⟨w.heap.size, 0, none⟩ : Addr).add x) = ([.slice none 0 0, .int .i64 0, .int .i64 (-1)] : List Value)[x]? := fun x hx => by
  have hB := Blk.new w 55 #[.slice none 0 0, .int .i64 0, .int .i64 (-1)]
  rw [add_at, Nat.zero_add, hB.cell, ← Array.getElem?_toList]
/-- A node is put in. -/
theorem node_all {w w4 : World} {B c gb : Nat} {A : Option Addr} {L : List NV} {cs : Array Value} {m : Nat × Nat} (hT : TrieAt w4 B A c L) (hB : B ≤ w4.heap.size) (hbr : Below B w w4) (hO : w4.heap[gb]? = some (.cells cs 5 m))
    (A5 : Option Addr) (c5 : Nat) (w5 : World) (hown : OwnK 55 3 w5 (· < B) A5 (L.length + 1) c5 (L.flatMap cNV ++ [.slice none 0 0, .int .i64 0, .int .i64 (-1)])) (hg : (w4.alloc (Obj.cells #[.slice none 0 0, .int .i64 0, .int .i64 (-1)] 55)).grownBy w5 (Value.slice A L.length c).ownBlock) :
    TrieAt w5 B A5 c5 (L ++ [nv0]) ∧ Below B w w5 ∧ w5.heap[gb]? = w4.heap[gb]? := by
  have hbE : Below w4.heap.size w4 (w4.alloc (Obj.cells #[.slice none 0 0, .int .i64 0, .int .i64 (-1)] 55)) := (Below.refl _ _).alloc (Nat.le_refl _) _
  have hTE := hT.after hbE
  have hBE : B ≤ (w4.alloc (Obj.cells #[.slice none 0 0, .int .i64 0, .int .i64 (-1)] 55)).heap.size := Nat.le_trans hB hbE.size
  have hOE : (w4.alloc (Obj.cells #[.slice none 0 0, .int .i64 0, .int .i64 (-1)] 55)).heap[gb]? = some (.cells cs 5 m) := (hbE.block gb (some_lt hO)).trans hO
  refine ⟨hTE.node hBE hown hg, (hbr.alloc hB _).grown hg hBE fun k hk => Nat.le_of_not_lt (hTE.row.lt k hk).1, ?_⟩
  exact (hg.block gb (some_lt hOE) (fun h => hTE.row.ne_obj hOE (by decide) h.symm)).trans (hOE.trans hO.symm)

set_option maxRecDepth 100000 in
set_option maxHeartbeats 8000000 in
theorem build_any (Ap : Option Addr) (n cp B0 : Nat) (l : List ByteArray) (w : World) (hl : l.length = n) (hn10 : n ≤ 10) (hz : ∀ p ∈ l, p.size ≤ 20) (hnd : (l.map (·.data.toList)).Nodup) (h : Reads w B0 Ap n 1 (l.flatMap cStr)) (hB0 : B0 ≤ w.heap.size) :
    Calls Try.prog 29 #[.slice Ap n cp] w fun e w' => (∃ A' c' L W, e = .returned (.slice A' L.length c') ∧ TrieAt w' w.heap.size A' c' L ∧ Built (nds L) W (l.map (·.data.toList)) ∧ W.length ≤ 201) ∧ Below w.heap.size w w' := by
  have Hl := Lib.hid hl
  have Hz := Lib.hid hz
  have Hnd := Lib.hid hnd
  have hcv := fun w s => run_bytes_of_string (P := Try.prog) w 9 51 5 s Try.underlying9 Try.underlying51 Try.underlying5
  have hb0 : Below w.heap.size w (w.alloc (Obj.cells #[.slice none 0 0, .int .i64 0, .int .i64 (-1)] 55)) := (Below.refl _ _).alloc (Nat.le_refl _) _
  have t0 := trie_one w w.heap.size (Nat.le_refl _)
  clear hl hz hnd
  go_enter Try.func29, Try.ntmps29
  go_wp2
  generalize w.alloc (Obj.cells #[.slice none 0 0, .int .i64 0, .int .i64 (-1)] 55) = w1 at *
  go_loopw [3, 4, 5, 6, 8, 9, 18, 24, 26] (fun lv _ _ _ _ _ iv _ _ wr => ∃ (k : Nat) (A' : Option Addr) (c' : Nat) (L : List NV) (W : List (List UInt8)), k ≤ n ∧ iv = .int .i64 k ∧ lv = .slice A' L.length c' ∧ TrieAt wr w.heap.size A' c' L ∧ Hid (TrieIn (nds L) W ((l.take k).map (·.data.toList)) (1 + 20 * k)) ∧ Below w.heap.size w wr) (fun _ _ _ _ _ _ iv _ _ _ => n - (intOf iv).toNat)
  case atStart => exact ⟨0, _, 1, [nv0], [[]], Nat.zero_le _, rfl, rfl, t0, Lib.hid trieIn_one, hb0⟩
  case round =>
    clear hb0 t0
    obtain ⟨k, A', c', L, W, hk, rfl, rfl, hT, Hin, hbr⟩ := hrel
    by_cases hlt : k < n
    · have hr := h.below' hbr hB0
      obtain ⟨g, o, rfl, hg, hc⟩ := hr.2 (by omega)
      have c0 := hc (k * 1 + 0) (by rw [flat_length cStr 1 cStr_len, Hl.out]; omega)
      rw [flat_getD cStr 1 cStr_len ByteArray.empty l k _ (by rw [Hl.out]; exact hlt) (by omega)] at c0
      simp only [cStr, List.getD_cons_zero, Nat.mul_one, Nat.add_zero] at c0
      have hpm : l.getD k ByteArray.empty ∈ l := by rw [getD_some _ _ _ (by rw [Hl.out]; exact hlt)]; exact List.getElem_mem _
      have hps := Hz.out _ hpm
      obtain ⟨p, hp⟩ : ∃ p, p = l.getD k ByteArray.empty := ⟨_, rfl⟩
      rw [← hp] at c0 hps
      have Hp := Lib.hid hp
      clear hp hpm hc hr
      go_wp2
      generalize hW' : World.drew _ = W1
      obtain ⟨hb2, hz2, hat⟩ := bytes_at p _ (grownCap_ge _ _ _ _) _ _ _ hW'
      have hobj : ∃ cs m, W1.heap[wr.heap.size]? = some (.cells cs 5 m) := ⟨_, _, by rw [← hW']; exact heap_alloc_new wr _⟩
      have hgl0 : w.heap.size ≤ wr.heap.size := hbr.size
      clear hW'
      generalize grownCap _ _ _ _ = cap
      have hT1 := hT.after hb2
      have hb3 := chain hb2 hbr
      have hgb : wr.heap.size < W1.heap.size := by rw [hz2]; exact Nat.lt_succ_self _
      have hin0 : TrieIn (nds L) W ((l.take k).map (·.data.toList)) (1 + 20 * k + 0) ∧ 0 < W.length ∧ W.getD 0 [] = p.data.toList.take 0 := ⟨Hin.out, Hin.out.tree.pos, by rw [Hin.out.tree.root]; rfl⟩
      have Hin0 := Lib.hid hin0
      generalize hgB : wr.heap.size = gb at *
      clear hT hbr hb2 hz2 Hin hin0 hgB
      go_loopw [3, 6, 8, 9, 26] (fun lv av _ _ iv wq => ∃ (j a : Nat) (A' : Option Addr) (c' : Nat) (L : List NV) (W : List (List UInt8)), j ≤ p.size ∧ iv = .int .i64 j ∧ av = .int .i64 a ∧ lv = .slice A' L.length c' ∧ TrieAt wq w.heap.size A' c' L ∧ Hid (TrieIn (nds L) W ((l.take k).map (·.data.toList)) (1 + 20 * k + j) ∧ a < W.length ∧ W.getD a [] = p.data.toList.take j) ∧ wq.heap[gb]? = W1.heap[gb]? ∧ Below w.heap.size w wq) (fun _ _ _ _ iv _ => p.size - (intOf iv).toNat)
      case atStart => exact ⟨0, 0, _, c', L, W, Nat.zero_le _, rfl, rfl, rfl, hT1, Hin0, rfl, hb3⟩
      case round =>
        clear hT1 Hin0 hb3
        obtain ⟨j, a, A', c', L, W, hj, rfl, rfl, rfl, hT, Hin, hblk, hbr⟩ := hrel
        have haW := Hin.out.2.1
        have hlW : L.length = W.length := by rw [← nds_len, Hin.out.1.tree.len]
        have hfew := Hin.out.1.few
        have haL : a < L.length := by omega
        have hfewL : L.length ≤ 1 + 20 * k + j := by omega
        have HlW := Lib.hid hlW
        clear hlW
        by_cases hjp : j < p.size
        · have hatq := bytesAt_block hat hblk
          have hcb := (hatq.2 j hjp).1
          obtain ⟨b, hb⟩ : ∃ b, b = p.data.toList.getD j 0 := ⟨_, rfl⟩
          rw [← hb] at hcb
          have htk := take_succ_getD p.data.toList j 0 hjp
          rw [← hb] at htk
          have Htk := Lib.hid htk
          obtain ⟨g, o, rfl, hg, hgB, c0, c1, c2, f0, f1, f2⟩ := hT.cells haL
          have hkid := hT.kid _ (hT.mem haL)
          have hkl := hT.kidLen haL
          have hk1 := Hin.out.1.tree.edges_le haW
          rw [nds_getD, ← HlW.out] at hk1
          have HL := Lib.hid (lead_any (L.getD a nv0).A (L.getD a nv0).m (L.getD a nv0).c wr.heap.size (L.getD a nv0).x.next (L.getD a nv0).x.fail (L.getD a nv0).x.ends b wr hkl (by omega) hkid.toReads (Nat.le_refl _))
          obtain ⟨t, ht⟩ : ∃ t, t = leadE (L.getD a nv0).x.next b := ⟨_, rfl⟩
          rw [← ht] at HL
          have Ht := Lib.hid ht
          have hm1 : (L.getD a nv0).m ≤ 1000 := by omega
          obtain ⟨Va, Vm, Vc, Vf, Ve, hV⟩ : ∃ Va Vm Vc Vf Ve, Va = (L.getD a nv0).A ∧ Vm = (L.getD a nv0).m ∧ Vc = (L.getD a nv0).c ∧ Vf = (L.getD a nv0).x.fail ∧ Ve = (L.getD a nv0).x.ends := ⟨_, _, _, _, _, rfl, rfl, rfl, rfl, rfl⟩
          rw [← hV.1, ← hV.2.1, ← hV.2.2.1, ← hV.2.2.2.1, ← hV.2.2.2.2] at HL
          rw [← hV.1, ← hV.2.1, ← hV.2.2.1] at c0
          rw [← hV.2.2.2.1] at c1
          rw [← hV.2.2.2.2] at c2
          have HV := Lib.hid hV
          clear htk hb hatq hkid hkl hk1 ht hV f0 f1 f2
          go_wp2_with fail
          refine HL.out.mono ?_
          rintro e w2 ⟨rfl, hb2⟩
          by_cases h0 : t = 0
          case pos =>
            subst h0
            have hn : leadE ((nds L).getD a nd0).next b = 0 := by rw [nds_getD]; exact Ht.out.symm
            have hgrow := Hin.out.1.grow haW hn
            rw [Hin.out.2.2, ← Htk.out] at hgrow
            have hnewW : (W ++ [p.data.toList.take (j + 1)]).getD W.length [] = p.data.toList.take (j + 1) := by rw [getD_app_right _ _ _ _ (Nat.le_refl _), Nat.sub_self]; rfl
            have hndsg := fun A' m' c' => nds_grow L haL b A' m' c'
            have hT2 := hT.after hb2
            have hbr2 := chain hb2 hbr
            have hgbl : gb < wr.heap.size := (bytesAt_block hat hblk).1
            have hblk2 : w2.heap[gb]? = W1.heap[gb]? := (hb2.block gb hgbl).trans hblk
            have hg2 : g < w2.heap.size := Nat.lt_of_lt_of_le hg hb2.size
            obtain ⟨g', o', hgo, _, _, d0, d1, d2, _, _, _⟩ := hT2.cells haL
            injection hgo with hgo
            injection hgo with hgo1 hgo2
            subst hgo1; subst hgo2
            rw [← HV.out.1, ← HV.out.2.1, ← HV.out.2.2.1] at d0
            -- the edge
            obtain ⟨cs, mk, hobj⟩ := hobj
            have hO2 := hblk2.trans hobj
            have hBw2 : w.heap.size ≤ w2.heap.size := hbr2.size
            have hbE : Below w2.heap.size w2 (w2.alloc (Obj.cells #[.int .u8 (b.toNat : Int), .int .i64 (L.length : Int)] 70)) := (Below.refl _ _).alloc (Nat.le_refl _) _
            have hkE : OwnK 70 2 (w2.alloc (Obj.cells #[.int .u8 (b.toNat : Int), .int .i64 (L.length : Int)] 70)) (· < w.heap.size) Va Vm Vc ((L.getD a nv0).x.next.flatMap cEg) := by
              have := (hT2.after hbE).kid _ (hT2.mem haL)
              unfold OwnE at this
              rwa [← HV.out.1, ← HV.out.2.1, ← HV.out.2.2.1] at this
            have hclE : ∀ x, x < 2 → (w2.alloc (Obj.cells #[.int .u8 (b.toNat : Int), .int .i64 (L.length : Int)] 70)).cell? ((⟨w2.heap.size, 0, none⟩ : Addr).add x) = ([.int .u8 (b.toNat : Int), .int .i64 (L.length : Int)] : List Value)[x]? := fun x hx => by
              have hB := Blk.new w2 70 #[.int .u8 (b.toNat : Int), .int .i64 (L.length : Int)]
              rw [add_at, Nat.zero_add, hB.cell, ← Array.getElem?_toList]
            have hKE : ∀ x, x < w.heap.size → x < (w2.alloc (Obj.cells #[.int .u8 (b.toNat : Int), .int .i64 (L.length : Int)] 70)).heap.size := fun x hx => by have := hbr2.size; simp; omega
            have hVm : Vm ≤ 1000 := by rw [HV.out.2.1]; exact hm1
            have hV1 : (Vm + 1) * 16 ≤ 140737488355328 := by omega
            have hV2 : Vm ≤ 8000000000000 := by omega
            have ia : (a : Int) < (L.length : Int) := by omega
            have hEall := edge_all hT2 haL hBw2 hbr2 hO2 (b, L.length)
            rw [← HV.out.1, ← HV.out.2.1, ← HV.out.2.2.1] at hEall
            have HEall := Lib.hid hEall
            have hL1 : (L.length + 1) * 40 ≤ 140737488355328 := by omega
            have hL2 : L.length ≤ 8000000000000 := by omega
            clear hn c0 c1 c2 HL hb2 hfew hbE hEall
            go_wp2_with (first
              | (at_builtin; refine wpList_append_K rfl (.tmp 46) (.tmp 50) 53 rfl (· < w.heap.size) (.agg #[.int .u8 0, .int .i64 0]) 16 infoEdge Try.underlying53 rfl (by decide) (by decide) Va Vm Vc _ rfl hkE ⟨w2.heap.size, 0, none⟩ 1 [.int .u8 (b.toNat : Int), .int .i64 (L.length : Int)] rfl rfl (by simp [Value.oneCell']) hclE hV1 hV2 hKE ?_
                 intro A3 c3 w3 hown3 hg3 hp3
                 obtain ⟨k1, k2, hT4, hbr4, hO4⟩ := HEall.out A3 c3 w3 hown3 hg3 hp3
                 have hrow4 := hT4.row.alloc (Obj.cells #[.slice none 0 0, .int .i64 0, .int .i64 (-1)] 55)
                 rw [List.length_set] at hrow4
                 have hclN := node_cells (w3.setCell ⟨g, o + a * 3, none⟩ (.slice A3 (Vm + 1) c3))
                 rw [size_setCell] at hclN
                 have hKN : ∀ x, x < w.heap.size → x < ((w3.setCell ⟨g, o + a * 3, none⟩ (.slice A3 (Vm + 1) c3)).alloc (Obj.cells #[.slice none 0 0, .int .i64 0, .int .i64 (-1)] 55)).heap.size := fun x hx => by have := hbr4.size; simp only [World.size_alloc]; omega)
              | (at_builtin; refine wpList_append_K rfl (.tmp 54) (.tmp 56) 49 rfl (· < w.heap.size) (.agg #[.slice none 0 0, .int .i64 0, .int .i64 0]) 40 infoNode Try.underlying49 rfl (by decide) (by decide) (some ⟨g, o, none⟩) L.length c' _ rfl hrow4 ⟨w3.heap.size, 0, none⟩ 1 [.slice none 0 0, .int .i64 0, .int .i64 (-1)] rfl rfl (by simp [Value.oneCell']) hclN hL1 hL2 hKN ?_
                 intro A5 c5 w5 hown5 hg5 hp5))
            have hN5 := node_all hT4 hbr4.size hbr4 (hO4.trans hO2) A5 c5 w5 (by rw [List.length_set]; exact hown5) (by rw [List.length_set]; exact hg5)
            obtain ⟨hT5, hbr5, hO5⟩ := hN5
            have hblk5 : w5.heap[gb]? = W1.heap[gb]? := (hO5.trans hO4).trans hblk2
            rw [hndsg A3 (Vm + 1) c3 |>.symm] at hgrow
            have Hgrow := Lib.hid hgrow
            have HnewW := Lib.hid hnewW
            clear hgrow hnewW hndsg hT4 hT2 hT hown5 hg5 hp5 hown3 hg3 hp3 k1 k2 hrow4 hclN hKN hclE hkE hKE HEall d0 d1 d2
            go_wp2
            refine ⟨⟨j + 1, L.length, A5, c5, _, _, by omega, by go_num, rfl, by simp, hT5, Lib.hid ⟨Hgrow.out, ?_, ?_⟩, hblk5, hbr5⟩, by simp [intOf]; omega⟩
            · rw [HlW.out]; simp
            · rw [HlW.out]; exact HnewW.out
          case neg =>
            have hyes := Hin.out.1.tree.lead_yes haW (c := b) (by rw [nds_getD, ← Ht.out]; exact h0)
            rw [nds_getD, ← Ht.out, Hin.out.2.2, ← Htk.out] at hyes
            have Hyes := Lib.hid hyes
            have hT2 := hT.after hb2
            have hbr2 := chain hb2 hbr
            have hgbl : gb < wr.heap.size := (bytesAt_block hat hblk).1
            have hblk2 : w2.heap[gb]? = W1.heap[gb]? := (hb2.block gb hgbl).trans hblk
            have q1 : ((t : Int) == 0) = false := by rw [beq_eq_false_iff_ne]; omega
            clear hyes c0 c1 c2 HL hb2
            go_wp2
            go_roundw
            case rel => exact ⟨j + 1, t, _, c', L, W, by omega, by go_num, rfl, rfl, hT2, Lib.hid ⟨Hin.out.1.more (by omega), Hyes.out.1, Hyes.out.2⟩, hblk2, hbr2⟩
            case measure => simp [intOf]; omega
        · obtain rfl : j = p.size := by omega
          have hlk : k < l.length := by rw [Hl.out]; exact hlt
          have htk : (l.take (k + 1)).map (·.data.toList) = (l.take k).map (·.data.toList) ++ [p.data.toList] := by
            rw [take_succ_getD l k ByteArray.empty hlk, List.map_append, ← Hp.out]; rfl
          have hPl : ((l.take k).map (·.data.toList)).length = k := by rw [List.length_map, List.length_take]; omega
          have hnew : p.data.toList ∉ (l.take k).map (·.data.toList) := fun hm => by
            have hn := Hnd.out
            rw [← List.take_append_drop (k + 1) l, List.map_append, htk, List.nodup_append] at hn
            have := (List.nodup_append.1 hn.1).2.2 _ hm p.data.toList (by simp)
            exact this rfl
          have hWa : W.getD a [] = p.data.toList := by rw [Hin.out.2.2]; exact List.take_of_length_le (Nat.le_refl _)
          have hadd := Hin.out.1.add haW hWa hnew
          rw [hPl, ← htk] at hadd
          obtain ⟨g, o, rfl, hg, hgB, c0, c1, c2, f0, f1, f2⟩ := hT.cells haL
          have hT2 := hT.num haL (j := 2) (.inr rfl) (x := { (L.getD a nv0).x with ends := (k : Int) }) (u := .int .i64 (k : Int)) rfl rfl (fun x hx h2 => by
            match x, hx, h2 with
            | 0, _, _ => rfl
            | 1, _, _ => rfl
            | x + 2, hx, h2 => exact absurd (by omega) h2)
          rw [← Nat.add_assoc] at hT2
          have hnds : nds (L.set a { L.getD a nv0 with x := { (L.getD a nv0).x with ends := (k : Int) } }) = (nds L).set a { (nds L).getD a nd0 with ends := (k : Int) } := by rw [nds_set, nds_getD]
          rw [← hnds] at hadd
          have Hadd := Lib.hid (hadd.more (M := 1 + 20 * (k + 1)) (by omega))
          have hbr2 : Below w.heap.size w (wr.setCell ⟨g, o + a * 3 + 2, none⟩ (.int .i64 (k : Int))) := hbr.setCell hgB _
          have ia : (a : Int) < (L.length : Int) := by omega
          clear hadd hnds hWa hnew hPl htk c0 c1 hfew
          go_wp2
          go_roundw
          case rel => exact ⟨k + 1, _, c', _, W, by omega, by go_num, by simp, hT2, Lib.hid Hadd.out, hbr2⟩
          case measure => simp [intOf]; omega
    · obtain rfl : k = n := by omega
      have hin := Hin.out
      rw [List.take_of_length_le (by rw [Hl.out]; exact Nat.le_refl _)] at hin
      have hlW : L.length = W.length := by rw [← nds_len, hin.tree.len]
      have hfew : W.length ≤ 201 := by have := hin.few; omega
      have hstart := bfs_start hin.tree hin.zf
      have hst : Bfs (nds L) W [] [0] ∧ Kids (nds L) [] [0] ∧ EndsAt (nds L) W (l.map (·.data.toList)) := ⟨hstart.1, hstart.2, hin.ends⟩
      have Hst := Lib.hid hst
      have HlW := Lib.hid hlW
      have Hfew := Lib.hid hfew
      obtain ⟨g, o, rfl, hg, hgB, -⟩ := hT.cells (show 0 < L.length by rw [hlW]; exact hin.tree.pos)
      have hbE : Below wr.heap.size wr (wr.alloc (Obj.cells #[.int .i64 0] 3)) := (Below.refl _ _).alloc (Nat.le_refl _) _
      have hT2 := hT.after hbE
      have hq := que_one wr w.heap.size hbr.size
      have hbr2 := chain hbE hbr
      obtain ⟨N, hN⟩ : ∃ N, N = L.length := ⟨_, rfl⟩
      have HN := Lib.hid hN
      have hN3 : N ≤ 201 := by omega
      rw [← hN]
      clear hT hbE hbr hin hlW hfew hstart hst Hin hg hlt hk hN
      go_wp2
      generalize wr.alloc (Obj.cells #[.int .i64 0] 3) = w3 at *
      generalize wr.heap.size = gq at *
      go_loopg [10, 11, 13, 81] (W.length + 1) (fun gk qv _ _ _ wr => ∃ (D Q : List Nat) (A2 : Option Addr) (c2 : Nat) (L' : List NV), qv = .slice A2 Q.length c2 ∧ OwnK 3 1 wr (· < w.heap.size) A2 Q.length c2 (Q.flatMap natV) ∧ TrieAt wr w.heap.size (some ⟨g, o, none⟩) c' L' ∧
        Hid (L'.length = N ∧ gk + D.length = W.length + 1 ∧ Bfs (nds L') W D Q ∧ Kids (nds L') D (D ++ Q) ∧ EndsAt (nds L') W (l.map (·.data.toList))) ∧ Below w.heap.size w wr)
      case atStart => exact ⟨[], [0], _, 1, L, rfl, hq, hT2, ⟨HN.out.symm, rfl, Hst.out⟩, hbr2⟩
      case round =>
        clear hT2 hq hbr2
        obtain ⟨D, Q, A2, c2, L', rfl, hq, hT, HR, hbr⟩ := hrel
        rcases Q with _ | ⟨a, Q⟩
        · have hR := HR.out
          have hb : Built (nds L') W (l.map (·.data.toList)) := ⟨hR.2.2.1.tree, hR.2.2.2.2, bfs_end hR.2.2.1 (by have := hR.2.2.2.1; rwa [List.append_nil] at this)⟩
          have Hb := Lib.hid hb
          have HLl := Lib.hid hR.1
          clear hR hb HR
          go_wp2
          go_ret
          exact ⟨⟨_, c', L', W, by rw [HLl.out]; rfl, hT, Hb.out, Hfew.out⟩, hbr⟩
        · have hR := HR.out
          have haV : a ∈ D ++ a :: Q := by simp
          have haW := hR.2.2.1.lt a haV
          have hlW' : L'.length = W.length := by rw [← nds_len, hR.2.2.1.tree.len]
          have hLl := hR.1
          have haL : a < L'.length := by omega
          have haN : a < N := by omega
          have hIn := bfs_in hR.2.2.1 hR.2.2.2.1
          have hgk := hR.2.1
          have hDl : D.length ≤ W.length := by
            have h1 := nodup_lt hR.2.2.1.nd hR.2.2.1.lt
            rw [List.length_append] at h1
            omega
          obtain ⟨gq', oq', rfl, hgq, -⟩ := hq.shape (by simp)
          have hq0 := (hq.cell 0 (by simp)).1
          obtain ⟨g', o', hgo, hg, hgB', c0, c1, c2', f0, f1, f2⟩ := hT.cells haL
          injection hgo with hgo
          injection hgo with hgo1 hgo2
          subst hgo1; subst hgo2
          have hkl := hT.kidLen haL
          obtain ⟨nx, hnx⟩ : ∃ nx, nx = (L'.getD a nv0).x.next := ⟨_, rfl⟩
          obtain ⟨Va, Vm, Vc, hV⟩ : ∃ Va Vm Vc, Va = (L'.getD a nv0).A ∧ Vm = (L'.getD a nv0).m ∧ Vc = (L'.getD a nv0).c := ⟨_, _, _, rfl, rfl, rfl⟩
          rw [← hV.1, ← hV.2.1, ← hV.2.2] at c0
          rw [← hnx, ← hV.2.1] at hkl
          have hm201 : Vm ≤ 201 := by
            have := hR.2.2.1.tree.edges_le haW
            rw [nds_getD, ← hnx] at this
            omega
          have HIn := Lib.hid (And.intro hIn (And.intro hR.2.2.2.2 (And.intro hLl (And.intro hV hnx))))
          have Hkl := Lib.hid hkl
          have hq0' : wr.cell? ⟨gq', oq', none⟩ = some (.int .i64 (a : Int)) := by rw [Nat.add_zero] at hq0; exact hq0
          have ia : (a : Int) < (N : Int) := by omega
          clear hR HR hIn hV hnx hkl hlW' c1 c2' f0 f1 f2 hq0 hLl haL
          go_wp2
          go_loopw [10, 13, 81] (fun qv _ iv wr => ∃ (j : Nat) (Q' : List Nat) (A2 : Option Addr) (c2 : Nat) (L2 : List NV), j ≤ Vm ∧ iv = .int .i64 j ∧ qv = .slice A2 (Q'.length + 1) c2 ∧ OwnK 3 1 wr (· < w.heap.size) A2 (Q'.length + 1) c2 ((a :: Q').flatMap natV) ∧ TrieAt wr w.heap.size (some ⟨g, o, none⟩) c' L2 ∧
            Hid (BfsIn (nds L2) W D a Q' j ∧ EndsAt (nds L2) W (l.map (·.data.toList)) ∧ L2.length = N ∧ (Va = (L2.getD a nv0).A ∧ Vm = (L2.getD a nv0).m ∧ Vc = (L2.getD a nv0).c) ∧ nx = (L2.getD a nv0).x.next) ∧ Below w.heap.size w wr) (fun _ _ iv _ => Vm - (intOf iv).toNat)
          case atStart => exact ⟨0, Q, _, c2, L', Nat.zero_le _, rfl, rfl, hq, hT, HIn, hbr⟩
          case round =>
            clear hq hT HIn hbr hq0' hgq c0
            obtain ⟨j, Q', A2, c2, L2, hj, rfl, rfl, hq, hT, HI, hbr⟩ := hrel
            by_cases hjm : j < Vm
            · have hI := HI.out
              have haW := hI.1.bfs.lt a (by simp)
              have hl2 : L2.length = N := hI.2.2.1
              have hlW : L2.length = W.length := by rw [← nds_len, hI.1.bfs.tree.len]
              have haL : a < L2.length := by omega
              obtain ⟨hVa, hVm, hVc⟩ := hI.2.2.2.1
              have hnx := hI.2.2.2.2
              have hkid := (hT.kid _ (hT.mem haL)).toReads
              rw [← hVa, ← hVm, ← hnx] at hkid
              obtain ⟨x, hx⟩ : ∃ x, x = nx.getD j (0, 0) := ⟨_, rfl⟩
              have hjx : nx[j]? = some x := by rw [hx]; exact getElem?_of_getD _ _ _ (by rw [Hkl.out]; exact hjm)
              obtain ⟨ge, oe, hVe, hge, hce⟩ := hkid.2 (by omega)
              have e0 := hce (j * 2 + 0) (by rw [flat_length cEg 2 cEg_len, Hkl.out]; omega)
              have e1 := hce (j * 2 + 1) (by rw [flat_length cEg 2 cEg_len, Hkl.out]; omega)
              rw [flat_getD cEg 2 cEg_len (0, 0) nx j _ (by rw [Hkl.out]; exact hjm) (by omega), ← hx] at e0 e1
              simp only [cEg, List.getD_cons_zero, List.getD_cons_succ] at e0 e1
              rw [Nat.add_zero] at e0
              rw [← Nat.add_assoc] at e1
              have hxm : x ∈ ((nds L2).getD a nd0).next := by rw [nds_getD, ← hnx]; exact List.mem_of_getElem? hjx
              obtain ⟨hxW, hxw⟩ := hI.1.bfs.tree.e1 a haW x hxm
              have hjx2 : ((nds L2).getD a nd0).next[j]? = some x := by rw [nds_getD, ← hnx]; exact hjx
              have hx0 := hI.1.bfs.tree.to_ne haW x hxm
              obtain ⟨b, t⟩ := x
              simp only at e0 e1 hxW hxw hx0
              have htN : t < N := by omega
              subst hVe
              -- the queue
              have hbE : Below wr.heap.size wr ((wr.alloc (Obj.cells #[.int .u8 (b.toNat : Int), .int .i64 (t : Int)] 70)).alloc (Obj.cells #[.int .i64 (t : Int)] 3)) := ((Below.refl _ _).alloc (Nat.le_refl _) _).alloc (by simp) _
              have hqE := hq.after hbE
              have hclQ := int_cell (wr.alloc (Obj.cells #[.int .u8 (b.toNat : Int), .int .i64 (t : Int)] 70)) t
              rw [show (wr.alloc (Obj.cells #[.int .u8 (b.toNat : Int), .int .i64 (t : Int)] 70)).heap.size = wr.heap.size + 1 from by simp] at hclQ
              have hKQ : ∀ x, x < w.heap.size → x < ((wr.alloc (Obj.cells #[.int .u8 (b.toNat : Int), .int .i64 (t : Int)] 70)).alloc (Obj.cells #[.int .i64 (t : Int)] 3)).heap.size := fun x hx => by have := hbr.size; simp; omega
              have hQl : Q'.length ≤ 201 := by
                have h1 := nodup_lt hI.1.bfs.nd hI.1.bfs.lt
                rw [List.length_append] at h1
                omega
              have hQ1 : (Q'.length + 1 + 1) * 8 ≤ 140737488355328 := by omega
              have hQ2 : Q'.length + 1 ≤ 8000000000000 := by omega
              have hTE := hT.after hbE
              have hBE := chain hbE hbr
              have hblk : Blk ((wr.alloc (Obj.cells #[.int .u8 (b.toNat : Int), .int .i64 (t : Int)] 70)).alloc (Obj.cells #[.int .i64 (t : Int)] 3)) wr.heap.size 70 #[.int .u8 (b.toNat : Int), .int .i64 (t : Int)] := (Blk.new wr _ _).alloc _
              have HI2 := Lib.hid hI
              have hinfo : (Try.prog.info? 3).map (fun i => (i.zero, i.size, i.bytes)) = some (some (.int .i64 0), 1, 8) := by kernel_rfl
              clear hI hVa hVm hVc hnx hkid hce hx hjx hxm hl2 hlW haL hT hbr HI
              by_cases ha0 : a = 0
              case pos =>
                have hchild := HI2.out.1.child hjx2 (T' := nds L2) (.inl rfl) (child_root HI2.out.1.bfs.tree hxW (b := b) (by rw [hxw, ha0, HI2.out.1.bfs.tree.root]; rfl) (HI2.out.1.bfs.zf t (HI2.out.1.fresh hjx2)))
                have Hchild := Lib.hid hchild
                have q1 : decide ((0 : Int) < (a : Int)) = false := decide_eq_false (by omega)
                have q1' : decide (0 < a) = false := decide_eq_false (by omega)
                clear hchild ha0
                go_wp2_with (first
                  | (at_builtin; go_must (refine wpList_append_K rfl (.tmp 85) (.tmp 88) 25 rfl (· < w.heap.size) (.int .i64 0) 8 hinfo Try.underlying25 rfl (by decide) (by decide) A2 (Q'.length + 1) c2 _ rfl hqE ⟨wr.heap.size + 1, 0, none⟩ 1 [.int .i64 (t : Int)] rfl rfl (by simp [Value.oneCell']) hclQ hQ1 hQ2 hKQ ?_); intro A5 c5 w5 hown5 hg5 hp5))
                have hT5 := hTE.grown_int hqE hg5
                have hbr5 := hBE.grown hg5 hBE.size (fun k hk => Nat.le_of_not_lt (hqE.lt k hk).1)
                have hown6 : OwnK 3 1 w5 (· < w.heap.size) A5 ((Q' ++ [t]).length + 1) c5 ((a :: (Q' ++ [t])).flatMap natV) := by
                  rw [List.length_append, List.length_singleton, ← List.cons_append, List.flatMap_append]
                  simpa [natV] using hown5
                go_wp2
                refine ⟨⟨j + 1, Q' ++ [t], A5, c5, L2, by omega, by go_num, by simp, hown6, hT5, Lib.hid ⟨Hchild.out, HI2.out.2⟩, hbr5⟩, by simp [intOf]; omega⟩
              case neg =>
                have q1 : decide ((0 : Int) < (a : Int)) = true := decide_eq_true (by omega)
                have q1' : decide (0 < a) = true := decide_eq_true (by omega)
                go_wp2_with (first
                  | (at_builtin; go_must (refine wpList_append_K rfl (.tmp 85) (.tmp 88) 25 rfl (· < w.heap.size) (.int .i64 0) 8 hinfo Try.underlying25 rfl (by decide) (by decide) A2 (Q'.length + 1) c2 _ rfl hqE ⟨wr.heap.size + 1, 0, none⟩ 1 [.int .i64 (t : Int)] rfl rfl (by simp [Value.oneCell']) hclQ hQ1 hQ2 hKQ ?_); intro A5 c5 w5 hown5 hg5 hp5))
                have hT5 := hTE.grown_int hqE hg5
                have hbr5 := hBE.grown hg5 hBE.size (fun k hk => Nat.le_of_not_lt (hqE.lt k hk).1)
                have hown6 : OwnK 3 1 w5 (· < w.heap.size) A5 ((Q' ++ [t]).length + 1) c5 ((a :: (Q' ++ [t])).flatMap natV) := by
                  rw [List.length_append, List.length_singleton, ← List.cons_append, List.flatMap_append]
                  simpa [natV] using hown5
                have hl2 : L2.length = N := HI2.out.2.2.1
                have haL : a < L2.length := by omega
                have htL : t < L2.length := by omega
                obtain ⟨f, hf⟩ : ∃ f, f = (L2.getD a nv0).x.fail := ⟨_, rfl⟩
                have hfa := HI2.out.1.bfs.fail a (by simp) ha0
                have hff : ((nds L2).getD a nd0).fail = f := by rw [nds_getD, hf]
                have hfW := hfa.lt
                have hshort := hfa.short
                rw [hff] at hfW hshort
                obtain ⟨r, hr⟩ := longIn_ex HI2.out.1.bfs.tree (W.getD f [] ++ [b])
                have hstep : ∀ w', TrieAt w' w.heap.size (some ⟨g, o, none⟩) c' L2 → w.heap.size ≤ w'.heap.size → Calls Try.prog 30 #[.slice (some ⟨g, o, none⟩) N c', .int .i64 (f : Int), .int .u8 (b.toNat : Int)] w' fun e w'' => e = .returned (.int .i64 (r : Int)) ∧ Below w'.heap.size w' w'' := fun w' hT' hB' => by
                  have := step_any (some ⟨g, o, none⟩) c' w.heap.size L2 W f b (W.getD f []) w' hT' hB' HI2.out.1.bfs.tree (step_start HI2.out.1.bfs.tree (LongIn.self hfW) b) (fun u hu h0 hlu => HI2.out.1.links hu h0 (Nat.le_trans hlu (Nat.le_of_lt hshort))) (by omega)
                  rw [hl2] at this
                  refine this.mono ?_
                  rintro e w'' ⟨⟨q, rfl, hq⟩, hb⟩
                  rw [longIn_unique HI2.out.1.bfs.tree hq hr]
                  exact ⟨rfl, hb⟩
                have Hstep := Lib.hid hstep
                have hchild := HI2.out.1.child hjx2 (T' := nds (L2.set t { L2.getD t nv0 with x := { (L2.getD t nv0).x with fail := r } })) (.inr ⟨r, nds_link L2 t r⟩) (child_fail HI2.out.1.bfs.tree hxW hxw hfa (by rw [hff]; exact hr) (by rw [nds_getD, getD_set _ _ _ _ htL, if_pos rfl]))
                have hends := HI2.out.2.1.congr (T' := nds (L2.set t { L2.getD t nv0 with x := { (L2.getD t nv0).x with fail := r } })) (fun i => by rw [nds_link]; exact link_ends (nds L2) (by rw [nds_len]; exact htL) r i)
                obtain ⟨k1, k2, k3, k4⟩ := link_getD L2 htL r a
                have hnew : BfsIn (nds (L2.set t { L2.getD t nv0 with x := { (L2.getD t nv0).x with fail := r } })) W D a (Q' ++ [t]) (j + 1) ∧ EndsAt (nds (L2.set t { L2.getD t nv0 with x := { (L2.getD t nv0).x with fail := r } })) W (l.map (·.data.toList)) ∧ (L2.set t { L2.getD t nv0 with x := { (L2.getD t nv0).x with fail := r } }).length = N ∧
                    (some ⟨ge, oe, none⟩ = ((L2.set t { L2.getD t nv0 with x := { (L2.getD t nv0).x with fail := r } }).getD a nv0).A ∧ Vm = ((L2.set t { L2.getD t nv0 with x := { (L2.getD t nv0).x with fail := r } }).getD a nv0).m ∧ Vc = ((L2.set t { L2.getD t nv0 with x := { (L2.getD t nv0).x with fail := r } }).getD a nv0).c) ∧ nx = ((L2.set t { L2.getD t nv0 with x := { (L2.getD t nv0).x with fail := r } }).getD a nv0).x.next :=
                  ⟨hchild, hends, by rw [List.length_set]; exact hl2, ⟨HI2.out.2.2.2.1.1.trans k1.symm, HI2.out.2.2.2.1.2.1.trans k2.symm, HI2.out.2.2.2.1.2.2.trans k3.symm⟩, HI2.out.2.2.2.2.trans k4.symm⟩
                have Hnew := Lib.hid hnew
                have hta : t ≠ a := fun e => by
                  have := congrArg List.length hxw
                  rw [e, List.length_append, List.length_singleton] at this
                  omega
                have hgeb : wr.heap.size ≠ g := fun e => by
                  obtain ⟨cs, hb⟩ := hTE.row.blkT g rfl
                  rw [← e] at hb
                  have := hblk.symm.trans hb
                  injection this with this
                  injection this with _ this _
                  exact absurd this (by decide)
                have hebq : (Value.slice A2 (Q'.length + 1) c2).ownBlock ≠ some wr.heap.size := hqE.ne_blk hblk (by decide)
                have hblk5 : Blk w5 wr.heap.size 70 #[.int .u8 (b.toNat : Int), .int .i64 (t : Int)] := by
                  have hlt := hblk.lt
                  unfold Blk at hblk ⊢
                  rw [hg5.block _ hlt (fun e => hebq e.symm)]
                  exact hblk
                obtain ⟨g'', o'', hgo, hg5', hgB5, d0, d1, d2, df0, df1, df2⟩ := hT5.cells haL
                injection hgo with hgo
                injection hgo with hgo1 hgo2
                subst hgo1; subst hgo2
                rw [← hf] at d1
                have K0 : StAt wr.heap.size g (o + a * 3 + 1) b t f w5.drew := ⟨hblk5.cell 0, hblk5.cell 1, d1, hblk5.lt, hg5'⟩
                have e50 : w5.cell? ⟨wr.heap.size, 0, none⟩ = some (.int .u8 (b.toNat : Int)) := hblk5.cell 0
                have e51 : w5.cell? ⟨wr.heap.size, 1, none⟩ = some (.int .i64 (t : Int)) := hblk5.cell 1
                have it : (t : Int) < (N : Int) := by omega
                have hoff : o + t * 3 + 1 ≠ o + a * 3 + 1 := fun e => hta (by omega)
                have hT5d : TrieAt w5.drew w.heap.size (some ⟨g, o, none⟩) c' L2 := hT5.drew
                have hB5d : w.heap.size ≤ w5.drew.heap.size := hbr5.size
                have HTL := Lib.hid (fun w6 (hb6 : Below w5.drew.heap.size w5.drew w6) => (hT5d.after hb6).cells htL)
                have HhL := Lib.hid haL
                have HtL := Lib.hid htL
                clear hf hfa hff hfW hshort hr hstep hchild hends k1 k2 k3 k4 hnew hl2 haL htL d0 d1 d2 df0 df1 df2 hTE hBE hqE hclQ hKQ hblk hebq hown5 hg5 hp5 hq hxw hjx2 e0 e1
                go_region_held3 (fun w' => StAt wr.heap.size g (o + a * 3 + 1) b t f w')
                  (first | with_reducible exact K0 | assumption | with_reducible exact StAt.on (by assumption) (by assumption) | with_reducible exact StAt.store (by assumption) hgeb hoff _)
                  ((first
                    | (go_at_call 30; refine (Hstep.out _ hT5d hB5d).mono ?_; rintro e w6 ⟨rfl, hb6⟩; obtain ⟨g6, o6, hgo6, hg6, -, m0, m1, m2, mf0, mf1, mf2⟩ := HTL.out w6 hb6; injection hgo6 with hgo6; injection hgo6 with hgo61 hgo62; subst hgo61; subst hgo62)))
                have hT7 := (hT5d.after hb6).link HtL.out r
                have hbr7 : Below w.heap.size w (w6.setCell ⟨g, o + t * 3 + 1, none⟩ (.int .i64 (r : Int))) := (hbr5.drew.trans (hb6.mono hB5d)).setCell hgB' _
                have hq7 := (hT5d.after hb6).int_far (hown6.drew.after hb6) (o + t * 3 + 1) (.int .i64 (r : Int))
                go_wp2
                go_roundw
                case rel => exact ⟨j + 1, Q' ++ [t], A5, c5, _, by omega, by first | rfl | go_num, by simp, hq7, hT7, Lib.hid Hnew.out, hbr7⟩
                case measure => simp [intOf] <;> omega
            · obtain rfl : j = Vm := by omega
              obtain ⟨o1, o2⟩ := HI.out.1.out (by rw [nds_getD, ← HI.out.2.2.2.2, Hkl.out]; exact Nat.le_refl _)
              have hrel2 : L2.length = N ∧ gk - 1 + (D ++ [a]).length = W.length + 1 ∧ Bfs (nds L2) W (D ++ [a]) Q' ∧ Kids (nds L2) (D ++ [a]) (D ++ [a] ++ Q') ∧ EndsAt (nds L2) W (l.map (·.data.toList)) := ⟨HI.out.2.2.1, by rw [List.length_append, List.length_singleton]; omega, o1, o2, HI.out.2.1⟩
              have Hrel2 := Lib.hid hrel2
              have hgl : gk - 1 < gk := by omega
              obtain ⟨g2, q2, rfl, hg2, -⟩ := hq.shape (by omega)
              have hcap := hq.cap
              clear o1 o2 hrel2 hgk hDl
              by_cases hc1 : c2 = 1
              case pos =>
                subst hc1
                have hQ0 : Q' = [] := List.eq_nil_of_length_eq_zero (by omega)
                subst hQ0
                have hq2 := hq.tail0 1
                have hq3 : OwnK 3 1 wr (· < w.heap.size) (some ⟨g2, q2, none⟩) ([] : List Nat).length 0 (([] : List Nat).flatMap natV) := hq2
                go_wp2
                go_roundg (gk - 1)
                case measure => exact hgl
                case rel => exact ⟨D ++ [a], [], _, 0, L2, rfl, hq3, hT, Hrel2, hbr⟩
              case neg =>
                have hq2 := hq.tail 1 (by omega)
                rw [Nat.add_sub_cancel] at hq2
                have hq3 : OwnK 3 1 wr (· < w.heap.size) (some ⟨g2, q2 + 1, none⟩) Q'.length (c2 - 1) (Q'.flatMap natV) := hq2
                go_wp2
                go_roundg (gk - 1)
                case measure => exact hgl
                case rel => exact ⟨D ++ [a], Q', _, c2 - 1, L2, rfl, hq3, hT, Hrel2, hbr⟩
end Go.Proofs.Ytkbogiijbmjbmaa
