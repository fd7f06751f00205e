/- The walk of trie.Find. -/
import Derived.Test.YtkbogiijbmjbmaaTrieBuild
import Derived.Test.YtkbogiijbmjbmaaTrieCheck
import Derived.Test.YtkbogiijbmjbmaaHitSort
import Derived.Test.YtkbogiijbmjbmaaCheck
import Derived.IntWalk
namespace Go.Proofs.Ytkbogiijbmjbmaa
open Go.RowKit Go.Sort
set_option linter.unusedVariables false

def pats (l : List ByteArray) : List (List UInt8) := l.map (·.data.toList)
def findE (s : ByteArray) (l : List ByteArray) : Int := if 200 < s.size then 2 else checkP l
/-- What Find tells. -/
def ToldFind (s : ByteArray) (l : List ByteArray) (w : World) (e : Ending) (w' : World) : Prop :=
  ∃ A n c H, e = .returned (.tuple #[.slice A n c, .int .i64 (findE s l)]) ∧ H.length = n ∧ OwnK 35 2 w' (· < w.heap.size) A n c (H.flatMap cHt) ∧ (findE s l = 0 → IsHits s.data.toList (pats l) H) ∧ (findE s l ≠ 0 → H = []) ∧ Below w.heap.size w w'
theorem infoHit : (Try.prog.info? 35).map (fun i => (i.zero, i.size, i.bytes)) = some (some (.agg #[.int .i64 0, .int .i64 0]), 2, 16) := by kernel_rfl
theorem TrieAt.grown_hit {w w' : World} {B c : Nat} {A : Option Addr} {L : List NV} (h : TrieAt w B A c L) {K : Nat → Prop} {A2 : Option Addr} {n c2 : Nat} {xs : List Value} (h2 : OwnK 35 2 w K A2 n c2 xs) (hg : w.grownBy w' (Value.slice A2 n c2).ownBlock) : TrieAt w' B A c L :=
  ⟨h.row.grown hg fun k hk hq => by
      obtain ⟨cs, hb⟩ := h2.blkT k hk
      exact h.row.ne_blk hb (by decide) hq,
    fun v hv => (h.kid v hv).grown hg fun k hk hq => by
      obtain ⟨cs, hb⟩ := h2.blkT k hk
      exact (h.kid v hv).ne_blk hb (by decide) hq, h.apart⟩
theorem hit_cells (w : World) (a k : Nat) : ∀ x, x < 2 → (w.alloc (Obj.cells #[.int .i64 (a : Int), .int .i64 (k : Int)] 35)).cell? ((⟨w.heap.size, 0, none⟩ : Addr).add x) = ([.int .i64 (a : Int), .int .i64 (k : Int)] : List Value)[x]? := fun x hx => by
  have hB := Blk.new w 35 #[.int .i64 (a : Int), .int .i64 (k : Int)]
  rw [add_at, Nat.zero_add, hB.cell, ← Array.getElem?_toList]
theorem pats_nodup {l : List ByteArray} (h : l.Nodup) : (pats l).Nodup := by
  unfold pats
  rw [List.nodup_iff_pairwise_ne, List.pairwise_map]
  exact (List.nodup_iff_pairwise_ne.1 h).imp fun h e => h (str_ext e)
theorem pats_getD (l : List ByteArray) (k : Nat) : (pats l).getD k [] = (l.getD k ByteArray.empty).data.toList := by
  unfold pats
  rw [List.getD_eq_getElem?_getD, List.getElem?_map, List.getD_eq_getElem?_getD]
  rcases l[k]? with _ | v <;> rfl

set_option maxRecDepth 100000 in
set_option maxHeartbeats 8000000 in
theorem tfind_ok (s : ByteArray) (hs : s.size ≤ 200) (A : Option Addr) (n c B0 : Nat) (l : List ByteArray) (w : World) (hnc : n ≤ c) (hl : l.length = n) (hP : checkP l = 0) (h : Reads w B0 A n 1 (l.flatMap cStr)) (hB0 : B0 ≤ w.heap.size) :
    Calls Try.prog 12 #[.string s, .slice A n c] w (ToldFind s l w) := by
  obtain ⟨hp1, hp2, hp3⟩ := checkP_zero hP
  have hE : findE s l = 0 := by unfold findE; rw [if_neg (by omega), hP]
  have HC := Lib.hid (trieCheck_any A n c B0 l w (by omega) hnc hl (fun p hp => by have := hp2 p hp; omega) h hB0)
  rw [hP] at HC
  have hPne : ∀ p ∈ pats l, p ≠ [] := fun p hp e => by
    obtain ⟨q, hq, rfl⟩ := List.mem_map.1 hp
    have := (hp2 q hq).1
    have h2 := congrArg List.length e
    have h3 : q.size = 0 := h2
    omega
  have hPle : ∀ p ∈ pats l, p.length ≤ 1000 := fun p hp => by
    obtain ⟨q, hq, rfl⟩ := List.mem_map.1 hp
    have := (hp2 q hq).2
    show q.size ≤ 1000
    omega
  have hPnd := pats_nodup hp3
  have hPl : (pats l).length = n := by unfold pats; rw [List.length_map, hl]
  have HPne := Lib.hid hPne
  have HPle := Lib.hid hPle
  have HPnd := Lib.hid hPnd
  have HPl := Lib.hid hPl
  have Hl := Lib.hid hl
  have Hp2 := Lib.hid hp2
  have HE := Lib.hid hE
  have hn10 : n ≤ 10 := by omega
  have hcv := fun w s => run_bytes_of_string (P := Try.prog) w 9 51 5 s Try.underlying9 Try.underlying51 Try.underlying5
  unfold ToldFind
  rw [hE]
  clear hp1 hPne hPle hPnd hPl hE
  go_enter Try.func12, Try.ntmps12
  go_wp2_with fail
  refine (wordCheck_ok s hs _).mono ?_
  rintro e w1 ⟨rfl, rfl⟩
  go_wp2_with fail
  refine HC.out.mono ?_
  rintro e w1 ⟨rfl, hb1⟩
  have h1 := h.below' hb1 hB0
  have HBd := Lib.hid (build_any A n c B0 l w1 hl hn10 (fun p hp => (hp2 p hp).2) (by have := HPnd.out; unfold pats at this; exact this) h1 (Nat.le_trans hB0 hb1.size))
  clear HC hP hp2 hp3 hl h1
  go_wp2_with fail
  refine HBd.out.mono ?_
  rintro e w2 ⟨⟨A', c', L, W, rfl, hT, hB, hfew⟩, hb2⟩
  have hb2' := chain hb2 hb1
  have Hbuilt : Hid (Built (nds L) W (pats l)) := Lib.hid hB
  have hlW : L.length = W.length := by rw [← nds_len, hB.tree.len]
  have HlW := Lib.hid hlW
  have hL201 : L.length ≤ 201 := by omega
  have HfW := Lib.hid hfew
  have hB2 : w1.heap.size ≤ w2.heap.size := hb2.size
  have hB1 : w.heap.size ≤ w1.heap.size := hb1.size
  generalize w1.heap.size = B at *
  clear HBd hB hlW hfew hb1 hb2
  go_wp2
  generalize hW' : World.drew _ = W1
  obtain ⟨hb3, hz3, hat⟩ := bytes_at s _ (grownCap_ge _ _ _ _) _ _ _ hW'
  have hobj : ∃ cs m, W1.heap[w2.heap.size]? = some (.cells cs 5 m) := ⟨_, _, by rw [← hW']; exact heap_alloc_new w2 _⟩
  clear hW'
  generalize grownCap _ _ _ _ = cap
  have hT3 := hT.after hb3
  have hb4 := chain hb3 hb2'
  have hB3 : B ≤ W1.heap.size := Nat.le_trans hB2 hb3.size
  have hf0 := found_start (s := s.data.toList) HPne.out 1000 HPle.out
  have hl0 := LongIn.nil Hbuilt.out.tree
  have Hf0 : Hid (Found s.data.toList (pats l) 0 1000 [] ∧ LongIn W (s.data.toList.take 0) 0) := Lib.hid ⟨hf0, hl0⟩
  obtain ⟨cs, mk, hobj⟩ := hobj
  generalize w2.heap.size = gb at *
  clear hT hb2' hb3 hz3 hf0 hl0 hB2
  have hrow0 : OwnK 35 2 W1 (· < w.heap.size) none ([] : List (Nat × Nat)).length 0 (([] : List (Nat × Nat)).flatMap cHt) := OwnK.nil _ _ _ _
  go_loopw [9, 10, 11, 12, 13, 14, 30] (fun ov av _ _ _ _ iv wr => ∃ (i a : Nat) (A2 : Option Addr) (c2 : Nat) (out : List (Nat × Nat)), i ≤ s.size ∧ iv = .int .i64 i ∧ av = .int .i64 a ∧ ov = .slice A2 out.length c2 ∧ OwnK 35 2 wr (· < w.heap.size) A2 out.length c2 (out.flatMap cHt) ∧ TrieAt wr B A' c' L ∧
    Hid (Found s.data.toList (pats l) i 1000 out ∧ LongIn W (s.data.toList.take i) a) ∧ wr.heap[gb]? = W1.heap[gb]? ∧ Below w.heap.size w wr ∧ B ≤ wr.heap.size) (fun _ _ _ _ _ _ iv _ => s.size - (intOf iv).toNat)
  case atStart => exact ⟨0, 0, none, 0, [], Nat.zero_le _, rfl, rfl, rfl, hrow0, hT3, Hf0, rfl, hb4, hB3⟩
  case round =>
    clear hrow0 hT3 Hf0 hb4 hB3
    obtain ⟨i, a, A2, c2, out, hi, rfl, rfl, rfl, hq, hT, HF, hblk, hbr, hBr⟩ := hrel
    by_cases hlt : i < s.size
    · have hatq := bytesAt_block hat hblk
      have hcb := (hatq.2 i hlt).1
      have hgbl := hatq.1
      obtain ⟨b, hb⟩ : ∃ b, b = s.data.toList.getD i 0 := ⟨_, rfl⟩
      rw [← hb] at hcb
      have htk := take_succ_getD s.data.toList i 0 hlt
      rw [← hb] at htk
      have Htk := Lib.hid htk
      have HS := Lib.hid (step_any A' c' B L W a b (s.data.toList.take i) wr hT hBr Hbuilt.out.tree (step_start Hbuilt.out.tree HF.out.2 b) (fun u hu h0 _ => Hbuilt.out.fail u hu h0) (by omega))
      clear hatq hb htk
      go_wp2_with fail
      refine HS.out.mono ?_
      rintro e w3 ⟨⟨r, rfl, hr⟩, hb3⟩
      rw [← Htk.out] at hr
      have hnext := HF.out.1.next Hbuilt.out HPne.out (show i < s.data.toList.length from hlt) hr HPle.out
      have Hr := Lib.hid hr
      have Hin0 : Hid (Found s.data.toList (pats l) i (lenW W r) out ∧ r < W.length ∧ W.getD r [] <:+ s.data.toList.take (i + 1)) := Lib.hid ⟨hnext, hr.lt, hr.suf⟩
      have hq3 := hq.after hb3
      have hT3 := hT.after hb3
      have hbr3 := chain hb3 hbr
      have hblk3 : w3.heap[gb]? = W1.heap[gb]? := (hb3.block gb hgbl).trans hblk
      have hBr3 : B ≤ w3.heap.size := Nat.le_trans hBr hb3.size
      clear HS hnext hq hT hbr hblk hBr hb3 hcb hgbl HF hr
      go_wp2
      go_loopw [9, 13, 14] (fun ov kv _ wr => ∃ (k : Nat) (A2 : Option Addr) (c2 : Nat) (out : List (Nat × Nat)), kv = .int .i64 k ∧ ov = .slice A2 out.length c2 ∧ OwnK 35 2 wr (· < w.heap.size) A2 out.length c2 (out.flatMap cHt) ∧ TrieAt wr B A' c' L ∧
        Hid (Found s.data.toList (pats l) i (lenW W k) out ∧ k < W.length ∧ W.getD k [] <:+ s.data.toList.take (i + 1)) ∧ wr.heap[gb]? = W1.heap[gb]? ∧ Below w.heap.size w wr ∧ B ≤ wr.heap.size) (fun _ kv _ _ => lenW W (intOf kv).toNat)
      case atStart => exact ⟨r, A2, c2, out, rfl, rfl, hq3, hT3, Hin0, hblk3, hbr3, hBr3⟩
      case round =>
        clear hq3 hT3 hbr3 hblk3 hBr3 Hin0
        obtain ⟨k, A2, c2, out, rfl, rfl, hq, hT, HF, hblk, hbr, hBr⟩ := hrel
        by_cases hk0 : k = 0
        · subst hk0
          have hlen0 : lenW W 0 = 0 := by unfold lenW; rw [Hbuilt.out.tree.root]; rfl
          have hov := HF.out.1
          rw [hlen0] at hov
          have hover := hov.over HPne.out HPle.out
          have HF2 : Hid (Found s.data.toList (pats l) (i + 1) 1000 out ∧ LongIn W (s.data.toList.take (i + 1)) r) := Lib.hid ⟨hover, Hr.out⟩
          clear hlen0 hov hover HF
          go_wp2
          go_roundw
          case rel => exact ⟨i + 1, r, A2, c2, out, by omega, by go_num, rfl, rfl, hq, hT, HF2, hblk, hbr, hBr⟩
          case measure => simp [intOf]; omega
        · have hkW := HF.out.2.1
          have hkL : k < L.length := by rw [HlW.out]; exact hkW
          have hnode := HF.out.1.node Hbuilt.out HPne.out HPnd.out (show i < s.data.toList.length from hlt) hkW hk0 HF.out.2.2
          have hfk := Hbuilt.out.fail k hkW hk0
          obtain ⟨g, o, hA, hg, hgB, c0, c1, d2, f0, f1, f2⟩ := hT.cells hkL
          have hnd := nds_getD L k
          rw [hnd] at hnode
          have hfW := hfk.lt
          have hfs := hfk.suf.trans HF.out.2.2
          have hfsh : lenW W (L.getD k nv0).x.fail < lenW W k := by have := hfk.short; rw [hnd] at this; exact this
          rw [hnd] at hfW hfs
          obtain ⟨f, hf⟩ : ∃ f, f = (L.getD k nv0).x.fail := ⟨_, rfl⟩
          rw [← hf] at c1 hnode hfW hfs hfsh
          have hends := Hbuilt.out.ends.only k hkW
          rw [hnd] at hends
          have ik : (k : Int) < (L.length : Int) := by omega
          have qk : decide ((0 : Int) < (k : Int)) = true := decide_eq_true (by omega)
          have qk' : decide (0 < k) = true := decide_eq_true (by omega)
          subst hA
          rcases hends with hends | ⟨x, hx, hends, hxw⟩
          case' inl =>
            rw [hends] at d2
            have hF2 := hnode.1 hends
            have HF2 : Hid (Found s.data.toList (pats l) i (lenW W f) out ∧ f < W.length ∧ W.getD f [] <:+ s.data.toList.take (i + 1)) := Lib.hid ⟨hF2, hfW, hfs⟩
            clear hnode hfk hnd hfW hfs hends hF2 HF hf f0 f1 f2 c0 hk0
            go_wp2
            go_roundw
            case rel => exact ⟨f, A2, c2, out, rfl, rfl, hq, hT, HF2, hblk, hbr, hBr⟩
            case measure => simp only [intOf, Int.toNat_natCast]; exact hfsh
          case' inr =>
            rw [hends] at d2
            obtain ⟨hxP, hxl, hF2⟩ := hnode.2 x hends
            have HF2 : Hid (Found s.data.toList (pats l) i (lenW W f) (out ++ [(i + 1 - ((pats l).getD x []).length, x)]) ∧ f < W.length ∧ W.getD f [] <:+ s.data.toList.take (i + 1)) := Lib.hid ⟨hF2, hfW, hfs⟩
            have hxn : x < n := by rw [← HPl.out]; exact hxP
            have hsz := HF.out.1.size HPne.out
            rw [HPl.out] at hsz
            have hout : out.length ≤ 2000 := Nat.le_trans hsz (Nat.le_trans (Nat.mul_le_mul (show s.data.toList.length ≤ 200 from hs) hn10) (by decide))
            have hr := h.below' hbr hB0
            obtain ⟨gp, op, rfl, hgp, hcp⟩ := hr.2 (by omega)
            have p0 := hcp (x * 1 + 0) (by rw [flat_length cStr 1 cStr_len, Hl.out]; omega)
            rw [flat_getD cStr 1 cStr_len ByteArray.empty l x _ (by rw [Hl.out]; exact hxn) (by omega)] at p0
            simp only [cStr, List.getD_cons_zero, Nat.mul_one, Nat.add_zero] at p0
            rw [pats_getD] at HF2 hxl
            obtain ⟨p, hp⟩ : ∃ p, p = l.getD x ByteArray.empty := ⟨_, rfl⟩
            rw [← hp] at p0 HF2 hxl
            have hpl : p.data.toList.length = p.size := rfl
            rw [hpl] at HF2 hxl
            obtain ⟨q, hq0⟩ : ∃ q, q = i + 1 - p.size := ⟨_, rfl⟩
            rw [← hq0] at HF2
            have e1 : IntKind.i64.wrap ((i : Int) + 1) = (i : Int) + 1 := by rw [IntKind.wrap_i64]; omega
            have e2 : IntKind.i64.wrap ((i : Int) + 1 - (p.size : Int)) = (q : Int) := by rw [IntKind.wrap_i64]; omega
            have hbE : Below wr.heap.size wr (wr.alloc (Obj.cells #[.int .i64 (q : Int), .int .i64 (x : Int)] 35)) := (Below.refl _ _).alloc (Nat.le_refl _) _
            have hqE := hq.after hbE
            have hTE := hT.after hbE
            have hbrE := chain hbE hbr
            have hcl := hit_cells wr q x
            have hK : ∀ y, y < w.heap.size → y < (wr.alloc (Obj.cells #[.int .i64 (q : Int), .int .i64 (x : Int)] 35)).heap.size := fun y hy => by have := hbr.size; simp; omega
            have hs1 : (out.length + 1) * 16 ≤ 140737488355328 := by omega
            have hs2 : out.length ≤ 8000000000000 := by omega
            have ix : (x : Int) < (n : Int) := by omega
            have hgbl : gb < wr.heap.size := (bytesAt_block hat hblk).1
            have HFf := Lib.hid hf
            clear hnode hfk hnd hfW hfs hends hF2 HF hf f0 f1 f2 c0 hk0 hpl hq0 hp hcp hr hsz hout hxP hxw hx hq hbr
            go_wp2_with (first
              | (at_builtin; refine wpList_append_K rfl (.tmp 54) (.tmp 65) 29 rfl (· < w.heap.size) (.agg #[.int .i64 0, .int .i64 0]) 16 infoHit Try.underlying29 rfl (by decide) (by decide) A2 out.length c2 _ rfl hqE ⟨wr.heap.size, 0, none⟩ 1 [.int .i64 (q : Int), .int .i64 (x : Int)] rfl rfl (by simp [Value.oneCell']) hcl hs1 hs2 hK ?_
                 intro A5 c5 w5 hown5 hg5 hp5
                 have hT5 := hTE.grown_hit hqE hg5
                 obtain ⟨g6, o6, hA6, -, -, -, m1, -, -, -, -⟩ := hT5.cells hkL
                 injection hA6 with hA6
                 injection hA6 with hA61 hA62
                 subst hA61
                 subst hA62
                 rw [← HFf.out] at m1))
            have hblk5 : w5.heap[gb]? = W1.heap[gb]? := by
              have hOE := ((hbE.block gb hgbl).trans hblk).trans hobj
              exact (hg5.block gb (some_lt hOE) (fun e => hqE.ne_obj hOE (by decide) e.symm)).trans ((hbE.block gb hgbl).trans hblk)
            have hbr5 := hbrE.grown hg5 hbrE.size (fun y hy => Nat.le_of_not_lt (hqE.lt y hy).1)
            have hBr5 : B ≤ w5.heap.size := Nat.le_trans (Nat.le_trans hBr hbE.size) hg5.size
            have hown6 : OwnK 35 2 w5 (· < w.heap.size) A5 (out ++ [(q, x)]).length c5 ((out ++ [(q, x)]).flatMap cHt) := by
              rw [List.length_append, List.length_singleton, List.flatMap_append]
              simpa [cHt] using hown5
            clear hTE hbrE hqE hcl hK hown5 hg5 hp5 hbE hblk hT
            go_wp2
            refine ⟨⟨f, A5, c5, _, rfl, by simp, hown6, hT5, HF2, hblk5, hbr5, hBr5⟩, by simp only [intOf, Int.toNat_natCast]; exact hfsh⟩
    · obtain rfl : i = s.size := by omega
      have hF := HF.out.1
      have hsz := hF.size HPne.out
      rw [HPl.out] at hsz
      have hout : out.length ≤ 2000 := Nat.le_trans hsz (Nat.le_trans (Nat.mul_le_mul (show s.data.toList.length ≤ 200 from hs) hn10) (by decide))
      have hbd : ∀ y ∈ out, y.1 ≤ 1000000 ∧ y.2 ≤ 1000000 := fun ⟨y1, y2⟩ hy => by
        obtain ⟨k1, k2, k3⟩ := (hF.mem y1 y2).1 hy
        rw [HPl.out] at k1
        have : y1 + ((pats l).getD y2 []).length ≤ s.size + 1 := by rcases k3 with k3 | ⟨k3, _⟩ <;> omega
        exact ⟨by omega, by omega⟩
      have HSo := Lib.hid (hitSort_any (· < w.heap.size) A2 out.length c2 out wr rfl hbd hq (by omega))
      have HFo := Lib.hid hF
      have hq2 := hq
      clear hF hsz hout hbd hT HF hblk hat hlt
      go_wp2_with fail
      refine HSo.out.mono ?_
      rintro e w6 ⟨rfl, H, hperm, hsort, hown, hg6⟩
      have hhits := HFo.out.hits HPne.out hperm hsort
      have hbr6 := hbr.grown hg6 hbr.size (fun y hy => Nat.le_of_not_lt (hq2.lt y hy).1)
      have hHl := hperm.length_eq
      have Hhits := Lib.hid hhits
      have HHl := Lib.hid hHl
      clear hhits hperm hsort hHl hg6 hq hq2
      go_wp2
      go_ret2
      exact ⟨A2, out.length, c2, H, rfl, HHl.out, hown, fun _ => Hhits.out, fun h => absurd rfl h, hbr6⟩
theorem tfind_no (s : ByteArray) (A : Option Addr) (n c B0 : Nat) (l : List ByteArray) (w : World) (hn : n ≤ 1125899906842624) (hnc : n ≤ c) (hl : l.length = n) (hz : ∀ p ∈ l, p.size ≤ 140737488351232) (hE : findE s l ≠ 0) (h : Reads w B0 A n 1 (l.flatMap cStr)) (hB0 : B0 ≤ w.heap.size) :
    Calls Try.prog 12 #[.string s, .slice A n c] w (ToldFind s l w) := by
  have HC := Lib.hid (trieCheck_any A n c B0 l w hn hnc hl hz h hB0)
  have hfin : ∀ w', Below w.heap.size w w' → ToldFind s l w (.returned (.tuple #[.slice none 0 0, .int .i64 (findE s l)])) w' := fun w' hb => ⟨none, 0, 0, [], rfl, rfl, OwnK.nil _ _ _ _, fun h => absurd h hE, fun _ => rfl, hb⟩
  unfold findE at hE
  by_cases hs : 200 < s.size
  · have e0 : findE s l = 2 := by unfold findE; rw [if_pos hs]
    rw [e0] at hfin
    clear hE e0
    go_enter Try.func12, Try.ntmps12
    go_wp2_with fail
    refine (wordCheck_no s hs _).mono ?_
    rintro e w1 ⟨rfl, rfl⟩
    go_wp2
    go_ret2
    exact hfin _ (Below.refl _ _)
  · have e0 : findE s l = checkP l := by unfold findE; rw [if_neg hs]
    rw [if_neg hs] at hE
    rw [e0] at hfin
    have q1 : (checkP l != 0) = true := by rw [bne_iff_ne]; exact hE
    generalize checkP l = E at *
    clear e0
    go_enter Try.func12, Try.ntmps12
    go_wp2_with fail
    refine (wordCheck_ok s (by omega) _).mono ?_
    rintro e w1 ⟨rfl, rfl⟩
    go_wp2_with fail
    refine HC.out.mono ?_
    rintro e w1 ⟨rfl, hb1⟩
    go_wp2
    go_ret2
    exact hfin _ hb1
/-- Find, whatever comes in. -/
theorem tfind_any (s : ByteArray) (A : Option Addr) (n c B0 : Nat) (l : List ByteArray) (w : World) (hn : n ≤ 1125899906842624) (hnc : n ≤ c) (hl : l.length = n) (hz : ∀ p ∈ l, p.size ≤ 140737488351232) (h : Reads w B0 A n 1 (l.flatMap cStr)) (hB0 : B0 ≤ w.heap.size) :
    Calls Try.prog 12 #[.string s, .slice A n c] w (ToldFind s l w) := by
  by_cases hE : findE s l = 0
  · unfold findE at hE
    by_cases hs : 200 < s.size
    · rw [if_pos hs] at hE; cases hE
    · rw [if_neg hs] at hE
      exact tfind_ok s (by omega) A n c B0 l w hnc hl hE h hB0
  · exact tfind_no s A n c B0 l w hn hnc hl hz hE h hB0
end Go.Proofs.Ytkbogiijbmjbmaa
