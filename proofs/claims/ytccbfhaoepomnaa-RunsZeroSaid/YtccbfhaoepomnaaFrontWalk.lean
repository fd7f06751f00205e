/- The walks of front.shelf, front.take, front.Put and front.Get. -/
import Derived.Test.YtccbfhaoepomnaaFront
import Derived.Test.YtccbfhaoepomnaaCheck
import Derived.Test.YtccbfhaoepomnaaStruct
import Derived.Deep.QuietTactic
import Derived.BigQuiet
import Derived.Deep.DeepMust
import Derived.Laws.CopyOwn
namespace Go.Proofs.Ytccbfhaoepomnaa
open Go.RowKit
set_option linter.unusedVariables false

/-- One byte's cell. -/
def cB (x : UInt8) : Value := .int .u8 (x.toNat : Int)
theorem cB_at {w : World} {g : Nat} {t : TypeId} {σ : List UInt8} (h : Blk w g t (σ.map cB).toArray) (k : Nat) (hk : k < σ.length) : w.cell? ⟨g, k, none⟩ = some (.int .u8 ((σ.getD k 0).toNat : Int)) := by
  rw [h.cell k, List.getElem?_toArray, List.getElem?_map, getElem?_of_getD σ 0 k hk]; rfl
theorem Blk.setB {w : World} {g : Nat} {t : TypeId} {σ : List UInt8} (h : Blk w g t (σ.map cB).toArray) (k : Nat) (x : UInt8) : Blk (w.setCell ⟨g, k, none⟩ (.int .u8 (x.toNat : Int))) g t ((σ.set k x).map cB).toArray := by
  have := h.set_ k (.int .u8 (x.toNat : Int))
  rw [List.setIfInBounds_toArray] at this
  rw [List.map_set]
  exact this
theorem make_bytes {P : Program} (t e : TypeId) (ht : P.underlying t = some (.slice e)) (hi : (P.info? e).map (fun i => (i.zero, i.size, i.bytes)) = some (some (.int .u8 0), 1, 1))
    (n : Nat) (x : Int) (hx : x = n) (h : n ≤ 35184372088832) (w : World) :
    (Instr.makeSlice t (.int .i64 x) (.int .i64 x)).run P w = .ok (.slice (some ⟨w.heap.size, 0, none⟩) n n) (w.alloc (.cells ((List.replicate n (0 : UInt8)).map cB).toArray e)) := by
  obtain ⟨i0, hi, hz0, hz1, hz2⟩ := info_parts hi
  have := run_make_rowN t e i0 (.int .u8 0) ht hi hz0 .i64 .i64 n n (Nat.le_refl _) (by rw [hz2]; omega) (by omega) w
  rw [hz1, Nat.mul_one] at this
  subst hx
  have e1 : madeCells (Value.int .u8 0).cells n = ((List.replicate n (0 : UInt8)).map cB).toArray := by
    have h1 := toList_madeCells_one (.int .u8 0) n
    apply Array.toList_inj.1
    rw [List.map_replicate]
    exact h1
  rw [e1] at this
  exact this
theorem infoByteF : (Try.prog.info? 5).map (fun i => (i.zero, i.size, i.bytes)) = some (some (.int .u8 0), 1, 1) := by kernel_rfl

set_option maxHeartbeats 1000000 in
set_option maxRecDepth 100000 in
theorem shelf_any (w : World) : Calls Try.prog 41 #[] w fun e w' => e = .returned (.slice (some ⟨w.heap.size, 0, none⟩) 256 256) ∧ Blk w' w.heap.size 5 (shelf0.map cB).toArray ∧ Below w.heap.size w w' := by
  have hmk := fun w : World => make_bytes (P := Try.prog) 27 5 Try.underlying27 infoByteF 256 256 rfl (by omega) w
  obtain ⟨Z, hZ⟩ : ∃ Z, Z = List.replicate 256 (0 : UInt8) := ⟨_, rfl⟩
  rw [← hZ] at hmk
  have HZ := Lib.hid hZ
  clear hZ
  go_enter Try.func41, Try.ntmps41
  go_wp2
  have hB := Blk.new w 5 (Z.map cB).toArray
  have hb := (Below.refl w.heap.size w).alloc (Nat.le_refl _) (.cells (Z.map cB).toArray 5)
  generalize w.alloc (.cells (Z.map cB).toArray 5) = W at *
  clear hmk
  generalize hg : w.heap.size = g at *
  have Hg := Lib.hid hg
  clear hg
  go_loopw [2, 6] (fun _ i wr => ∃ (k : Nat) (σ : List UInt8), k ≤ 256 ∧ i = .int .i64 k ∧ Hid (σ.length = 256) ∧ Blk wr g 5 (σ.map cB).toArray ∧ Below g w wr ∧ Hid (∀ j, j < k → σ.getD j 0 = UInt8.ofNat j)) (fun _ i _ => 256 - (intOf i).toNat)
  case atStart => exact ⟨0, Z, Nat.zero_le _, rfl, Lib.hid (by rw [HZ.out, List.length_replicate]), hB, hb, Lib.hid (fun j hj => by omega)⟩
  case round =>
    clear hB hb
    obtain ⟨k, σ, hk, rfl, Hl, hB, hb, Hv⟩ := hrel
    by_cases hlt : k < 256
    · have hc := cB_at hB k (by rw [Hl.out]; exact hlt)
      have hf := hB.frozen k
      go_wp2
      go_roundw
      case rel =>
        have e : ((k : Int)) = ((UInt8.ofNat k).toNat : Int) := by rw [UInt8.toNat_ofNat']; omega
        refine ⟨k + 1, σ.set k (UInt8.ofNat k), by omega, by go_num, Lib.hid (by rw [List.length_set]; exact Hl.out), ?_, hb.setCell (Nat.le_refl _) _, Lib.hid fun j hj => ?_⟩
        · have := hB.setB k (UInt8.ofNat k)
          rw [← e] at this
          exact this
        · rw [getD_set _ _ _ _ (by rw [Hl.out]; exact hlt)]
          by_cases e : j = k
          · rw [if_pos e, e]
          · rw [if_neg e]; exact Hv.out j (by omega)
      case measure => simp [intOf]; omega
    · obtain rfl : k = 256 := by omega
      go_wp2
      go_ret
      have e : σ = shelf0 := by
        refine ext_getD _ _ 0 (by rw [Hl.out]; simp [shelf0]) fun j hj => ?_
        rw [Hl.out] at hj
        rw [Hv.out j hj]
        unfold shelf0
        rw [getD_some _ _ _ (by simpa using hj)]
        simp
      rw [e] at hB
      exact ⟨by rw [Hg.out]; rfl, by rw [Hg.out]; exact hB, by rw [Hg.out]; exact hb⟩

theorem splice_take (σ : List UInt8) (k : Nat) (hk : k < σ.length) : (splice (σ.map cB) 1 ((σ.take k).map cB)).set 0 (.int .u8 ((σ.getD k 0).toNat : Int)) = (takeF σ k).map cB := by
  obtain ⟨x, τ, rfl⟩ : ∃ x τ, σ = x :: τ := by cases σ with | nil => simp at hk | cons x τ => exact ⟨x, τ, rfl⟩
  unfold splice takeF
  simp only [List.map_cons, List.take_succ_cons, List.take_zero, List.cons_append, List.nil_append, List.set_cons_zero, List.length_map, List.length_take, List.map_append, List.map_drop]
  rw [show 1 + min k (x :: τ).length = k + 1 from by omega, List.drop_succ_cons]
  rfl

/-- A copy into a block known whole, as one step of a region: nothing but that block turns. -/
theorem step_copy_only {P : Program} {ops : Array Oper} {o : Oper} {a : Act} {w : World} {K : Act → World → Prop} {Q : Exit → Act → World → Prop} {E : Prop} (hgd : o.guard = none) (d s : Operand) (dT sT : TypeId)
    (ho : o.op = .call { callee := .builtin .copy, args := #[d, s], argTypes := #[dT, sT] }) (elem : TypeId) (hu : P.underlying dT = some (.slice elem)) (hsz : (P.info? elem).map (·.size) = some 1)
    (dp sp : Option Addr) (dLen dCap sLen sCap : Nat) (hd : a.eval d = .slice dp dLen dCap) (hs : a.eval s = .slice sp sLen sCap)
    (g off : Nat) (cur : List Value) (t : TypeId) (hg : Blk w g t cur.toArray) (cs : List Value) (hn : cs.length = Nat.min sLen dLen)
    (hpos : 0 < cs.length → dp = some ⟨g, off, none⟩ ∧ ∃ ad, sp = some ad ∧ ∀ j v, cs[j]? = some v → w.cell? (ad.add j) = some v)
    (hfit : off + cs.length ≤ cur.length) (h1 : ∀ v ∈ cs, v.oneCell' = true)
    (h : ∀ w', Blk w' g t (splice cur off cs).toArray → w.grownBy w' (some g) → K (a.put o.dst (goInt cs.length)) w') :
    if Region.wanted o (yielded ops a.tmps) = true then Oper.wp P o a w K Q else E := by
  rw [if_pos (by simp [Region.wanted, hgd])]
  unfold Oper.wp
  rcases Nat.eq_zero_or_pos cs.length with h0 | h0
  · have hc : cs = [] := List.eq_nil_of_length_eq_zero h0
    subst hc
    simp [execOp, ho, resolve, invoke, builtin, hd, hs, run_copy_none (P := P) w dT sT o.type elem dp sp dLen dCap sLen sCap hu hsz (by simpa using hn.symm), Result.andThen]
    refine h w ?_ ⟨rfl, rfl, rfl, Nat.le_refl _, fun _ _ _ => rfl⟩
    have e : splice cur off [] = cur := by simp [splice]
    rw [e]; exact hg
  · obtain ⟨hdp, ad, hsp, hsrc⟩ := hpos h0
    subst hdp hsp
    simp [execOp, ho, resolve, invoke, builtin, hd, hs, run_copy_row (P := P) w dT sT o.type elem g off dLen dCap ad sLen sCap cur.toArray t cs hu hsz hg hn hsrc (by simpa using hfit) h1, Result.andThen]
    refine h _ ?_ ⟨rfl, rfl, rfl, by simp [World.setRow], fun k _ hne => setRow_other w g k _ (fun e => hne (by rw [e]))⟩
    have := setRow_heap w g _ (cur.take off ++ (cs ++ cur.drop (off + cs.length))).toArray t _ hg
    exact this

theorem below_only {B g : Nat} {a w w' : World} (h : Below B a w) (hg : w.grownBy w' (some g)) (hB : B ≤ g) (hl : g < w.heap.size) : Below B a w' :=
  h.grown hg (by omega) fun k e => by injection e with e; omega
theorem BytesAt.only {w w' : World} {g : Nat} {l : List UInt8} {row : Option Nat} (h : BytesAt w g l) (hg : w.grownBy w' row) (hne : some g ≠ row) : BytesAt w' g l :=
  ⟨Nat.lt_of_lt_of_le h.1 hg.size, fun j hj => ⟨(World.cell?_of_block (a := ⟨g, j, none⟩) (hg.block g h.1 hne)).trans (h.2 j hj).1, (World.frozen?_of_block (a := ⟨g, j, none⟩) (hg.block g h.1 hne)).trans (h.2 j hj).2⟩⟩
theorem grownBy_drew {w w' : World} {row : Option Nat} (h : w.drew.grownBy w' row) : w.grownBy w' row := ⟨h.os, h.tape, h.output, h.size, h.block⟩
theorem grownBy_setCell {a w : World} {g : Nat} (h : a.grownBy w (some g)) (i : Nat) (u : Value) : a.grownBy (w.setCell ⟨g, i, none⟩ u) (some g) :=
  ⟨h.os, h.tape, h.output, by rw [size_setCell]; exact h.size, fun k hk hne => (Below.heap_setCell w ⟨g, i, none⟩ u k (by rintro rfl; exact hne rfl)).trans (h.block k hk hne)⟩

set_option maxHeartbeats 1000000 in
theorem take_any (g k : Nat) (σ : List UInt8) (hσ : σ.length = 256) (hk : k < 256) (w : World) (hg : Blk w g 5 (σ.map cB).toArray) :
    Calls Try.prog 42 #[.slice (some ⟨g, 0, none⟩) 256 256, .int .i64 k] w fun e w' => e = .returned (.int .u8 ((σ.getD k 0).toNat : Int)) ∧ Blk w' g 5 ((takeF σ k).map cB).toArray ∧ w.grownBy w' (some g) := by
  have hc := cB_at hg k (by rw [hσ]; exact hk)
  have hsp := splice_take σ k (by rw [hσ]; exact hk)
  have Hs := Lib.hid hσ
  have Hsp := Lib.hid hsp
  have hk1 : (k : Int) + 1 ≤ 256 := by omega
  have hcs : ∀ j v, ((σ.take k).map cB)[j]? = some v → w.drew.cell? ((⟨g, 0, none⟩ : Addr).add j) = some v := fun j v hj => by
    rw [add_zero]
    have hj' : j < k := by
      have := (List.getElem?_eq_some_iff.1 hj).1
      rw [List.length_map, List.length_take] at this; omega
    have := cB_at hg j (by rw [hσ]; omega)
    rw [List.getElem?_map, List.getElem?_take_of_lt hj', getElem?_of_getD σ 0 j (by rw [hσ]; omega)] at hj
    rw [← hj]; exact this
  have h1c : ∀ v ∈ (σ.take k).map cB, v.oneCell' = true := fun v hv => by obtain ⟨x, _, rfl⟩ := List.mem_map.1 hv; rfl
  have hlc : ((σ.take k).map cB).length = k := by rw [List.length_map, List.length_take]; omega
  have hlσ : (σ.map cB).length = 256 := by rw [List.length_map, hσ]
  have Hcs := Lib.hid hcs
  have H1c := Lib.hid h1c
  have Hlc := Lib.hid hlc
  have Hlσ := Lib.hid hlσ
  clear hσ hsp hcs h1c hlc hlσ
  generalize σ.getD k 0 = v at *
  generalize (takeF σ k).map cB = Rw at *
  generalize hX : (σ.take k).map cB = X at *
  generalize hL : σ.map cB = L at *
  have hwr : IntKind.i64.wrap ((k : Int) + 1) = (k : Int) + 1 := by rw [IntKind.wrap_i64]; omega
  have hp0 : (0 : Int) ≤ (k : Int) + 1 := by omega
  have hp1 : (1 : Int) ≤ (k : Int) + 1 := by omega
  have hp2 : ((k : Int) + 1).toNat = k + 1 := by omega
  have hk2 : (k : Int) ≤ 256 := by omega
  clear hX hL
  go_enter Try.func42, Try.ntmps42
  go_wp2
  go_region_law ((refine step_copy_only rfl (.tmp 13) (.tmp 16) 27 27 rfl 5 Try.underlying27 (by kernel_rfl) (some ⟨g, 1, none⟩) (some ⟨g, 0, none⟩) k 255 k 256 (by simp [Act.eval, Act.put]) (by simp [Act.eval, Act.put]) g 1 L 5 hg X (by rw [Hlc.out]; simp) (fun _ => ⟨rfl, _, rfl, Hcs.out⟩) (by rw [Hlc.out, Hlσ.out]; omega) H1c.out ?_; intro w1 hg1 hb1))
  have hlen : 0 < (splice L 1 X).length := by rw [length_splice _ _ _ (by rw [Hlc.out, Hlσ.out]; omega), Hlσ.out]; omega
  have hc0 : ∃ u, w1.cell? ⟨g, 0, none⟩ = some u := ⟨(splice L 1 X)[0], by rw [hg1.cell 0]; simp [hlen]⟩
  obtain ⟨u0, hc0⟩ := hc0
  have hf0 := hg1.frozen 0
  clear hg hc
  go_wp2
  go_ret
  refine ⟨rfl, ?_, grownBy_setCell (grownBy_drew hb1) _ _⟩
  have := hg1.set_ 0 (.int .u8 ((v.toNat : Nat) : Int))
  rw [List.setIfInBounds_toArray, Hsp.out] at this
  exact this

theorem infoIntF : (Try.prog.info? 3).map (fun i => (i.zero, i.size, i.bytes)) = some (some (.int .i64 0), 1, 8) := by kernel_rfl
theorem own_cap {w : World} {B size n c : Nat} {e : TypeId} {A : Option Addr} {xs : List Value} (h : w.ownsRow B e size (.slice A n c) n xs) : n ≤ c := by
  rcases h.2 with ⟨h1, h0⟩ | ⟨g, cap, cur, h1, _, _, h2, _⟩
  · omega
  · injection h1 with _ _ h3
    omega
theorem own_blk_ne' {w : World} {base size n g : Nat} {e t : TypeId} {v : Value} {xs : List Value} {cs : Array Value} (h : w.ownsRow base e size v n xs) (hg : Blk w g t cs) (hne : g < base) : v.ownBlock ≠ some g := by
  intro he
  have := (h.lt g he).1
  omega

set_option maxHeartbeats 2000000 in
theorem frontPut_ok (s : ByteArray) (hs : s.size ≤ 200) (w : World) :
    Calls Try.prog 16 #[.string s] w fun e w' => ∃ A c, e = .returned (.tuple #[.slice A s.size c, .int .i64 0]) ∧
      Reads w' w'.heap.size A s.size 1 ((encF shelf0 s.data.toList).flatMap cInt) ∧ Below w.heap.size w w' ∧ s.size ≤ c := by
  have hcv := fun w s => run_bytes_of_string (P := Try.prog) w 9 27 5 s Try.underlying9 Try.underlying27 Try.underlying5
  go_enter Try.func16, Try.ntmps16
  go_wp2_with fail
  refine (wordCheck_ok s hs _).mono ?_
  rintro e w1 ⟨rfl, rfl⟩
  go_wp2_with fail
  refine (shelf_any _).mono ?_
  rintro e w1 ⟨rfl, hB1, hb1⟩
  go_wp2
  generalize hW : World.drew _ = W
  obtain ⟨hb0, hz0', hat0⟩ := bytes_at s _ (grownCap_ge _ _ _ _) _ _ _ hW
  clear hW
  generalize grownCap _ _ _ _ = cap
  have hB2 := hB1.after hb0
  have hbw := chain hb0 hb1
  have hsz1 := hb1.size
  have hltg := hB1.lt
  clear hb0 hb1 hB1
  generalize hg : w.heap.size = g at *
  generalize hg' : w1.heap.size = g' at *
  have hgg : g < g' := by omega
  have hgB : g' < W.heap.size := by omega
  have Hg := Lib.hid hg
  clear hg hg' hz0' hsz1 hltg
  obtain ⟨B, hB⟩ : ∃ B, B = W.heap.size := ⟨_, rfl⟩
  have hB3 : B ≤ W.heap.size := by omega
  have hgB' : g' < B := by omega
  clear hB hgB
  go_loopw [6, 8, 9, 19] (fun ov _ _ i wr => ∃ (k : Nat) (A : Option Addr) (c : Nat), k ≤ s.size ∧ i = .int .i64 k ∧ ov = .slice A k c ∧ wr.ownsRow B 3 1 (.slice A k c) k ((encF shelf0 (s.data.toList.take k)).flatMap cInt) ∧
      Blk wr g 5 ((shelfOf shelf0 (s.data.toList.take k)).map cB).toArray ∧ BytesAt wr g' s.data.toList ∧ Below g w wr ∧ B ≤ wr.heap.size)
    (fun _ _ _ i _ => s.size - (intOf i).toNat)
  case atStart => exact ⟨0, none, 0, Nat.zero_le _, rfl, rfl, World.ownsRow_nil _ _ _ _, hB2, hat0, hbw, hB3⟩
  case round =>
    clear hB2 hat0 hbw hB3
    obtain ⟨k, A, c, hk, rfl, rfl, hown, hblk, hat, hbr, hBr⟩ := hrel
    by_cases hlt : k < s.size
    · have hck := (hat.2 k hlt).1
      rw [getD_bytes s k hlt] at hck
      have hok := shelfOf_ok shelf0_ok (s.data.toList.take k)
      have he := encF_snoc shelf0 s[k] (s.data.toList.take k)
      have hsf := shelfOf_snoc shelf0 s[k] (s.data.toList.take k)
      rw [← take_succ_bytes s k hlt] at he hsf
      have hlen := encF_length shelf0 (s.data.toList.take k)
      generalize hcc : s[k] = ch at *
      have Hcc := Lib.hid hcc
      clear hcc
      generalize hσ' : shelfOf shelf0 (s.data.toList.take (k + 1)) = σ' at *
      generalize hE' : encF shelf0 (s.data.toList.take (k + 1)) = E' at *
      have Hσ' := Lib.hid hσ'
      have HE' := Lib.hid hE'
      clear hσ' hE'
      generalize shelfOf shelf0 (s.data.toList.take k) = σ at *
      generalize encF shelf0 (s.data.toList.take k) = E at *
      have hm := idxOf_lt' hok ch
      have hgm := getD_idxOf hok ch
      have hnm : ∀ j, j < σ.idxOf ch → σ.getD j 0 ≠ ch := fun j hj e => by
        have := idxOf_getD hok j (by omega)
        rw [e] at this; omega
      have hσl := hok.1
      have He := Lib.hid he
      have Hsf := Lib.hid hsf
      have Hlen := Lib.hid hlen
      have Hok := Lib.hid hok
      clear he hsf hlen hok
      generalize hmm : σ.idxOf ch = m at *
      have Hσl := Lib.hid hσl
      have Hgm := Lib.hid hgm
      have Hnm := Lib.hid hnm
      clear hmm hσl hgm hnm
      go_wp2
      go_loop [9] (fun i => ∃ j : Nat, j ≤ m ∧ i = .int .i64 j) (fun i => m - (intOf i).toNat)
      case atStart => exact ⟨0, Nat.zero_le _, rfl⟩
      case round =>
        obtain ⟨j, hj, rfl⟩ := hrel
        have hcj := cB_at hblk j (by rw [Hσl.out]; omega)
        by_cases hjm : j < m
        · have hne : (((σ.getD j 0).toNat : Int) != (ch.toNat : Int)) = true := by
            rw [bne_iff_ne]; intro h; exact Hnm.out j hjm (UInt8.toNat_inj.1 (by omega))
          generalize σ.getD j 0 = y at *
          go_wp2
          go_round
          case rel => exact ⟨j + 1, by omega, by go_num⟩
          case measure => simp [intOf]; omega
        · obtain rfl : j = m := by omega
          have hne : (((σ.getD j 0).toNat : Int) != (ch.toNat : Int)) = false := by rw [Hgm.out]; simp
          generalize σ.getD j 0 = y at *
          go_wp2_with fail
          refine (take_any g j σ Hσl.out (by omega) wr hblk).mono ?_
          rintro e w2 ⟨rfl, hblk2, hb2⟩
          have hown2 := hown.kept hb2 (.inr (own_blk_ne' hown hblk (by omega)))
          have hat2 := hat.only hb2 (by intro e; injection e with e; omega)
          have hbr2 := below_only hbr hb2 (Nat.le_refl _) hblk.lt
          have hBr2 : B ≤ w2.heap.size := Nat.le_trans hBr hb2.size
          clear hown hat hbr hBr hb2 hblk
          go_wp2_with (first | (at_builtin; go_must (refine wpList_append_new _ 23 (.tmp 34) (.tmp 36) rfl rfl B 3 infoIntF Try.underlying23 rfl (by decide) _ _ _ _ rfl hown2 #[.int .i64 (j : Int)] 1 rfl rfl (by simp [Value.oneCell']) (by unfold maxLen; omega) (by omega) hBr2 ?_); intro A3 c3 w3 hown3 hb3 hg3))
          go_roundw
          case rel =>
            refine ⟨k + 1, A3, c3, by omega, by go_num, rfl, ?_, ?_, ?_, ?_, ?_⟩
            · rw [HE'.out, He.out, flat_snoc]; exact hown3
            · rw [Hσ'.out, Hsf.out]; exact hblk2.grown hg3 (own_blk_ne' hown2 hblk2 (by omega))
            · exact hat2.below hb3 (by omega)
            · exact hbr2.trans (hb3.mono (by omega))
            · exact Nat.le_trans hBr2 hb3.size
          case measure => simp [intOf]; omega
    · obtain rfl : k = s.size := by omega
      have e : s.data.toList.take s.size = s.data.toList := List.take_of_length_le (Nat.le_refl _)
      rw [e] at hown
      go_wp2
      go_ret2
      exact ⟨A, c, rfl, Reads.of_own hown, by rw [Hg.out]; exact hbr, own_cap hown⟩

set_option maxHeartbeats 400000 in
theorem frontPut_no (s : ByteArray) (hs : 200 < s.size) (w : World) :
    Calls Try.prog 16 #[.string s] w fun e w' => e = .returned (.tuple #[.slice none 0 0, .int .i64 2]) ∧ w = w' := by
  go_enter Try.func16, Try.ntmps16
  go_wp2_with fail
  refine (wordCheck_no s hs _).mono ?_
  rintro e w1 ⟨rfl, rfl⟩
  go_wp2
  go_ret2
  exact ⟨rfl, rfl⟩

/-- Numbers that Get lets in. -/
def GetOk (l : List Int) : Prop := l.length ≤ 200 ∧ ∀ k ∈ l, 0 ≤ k ∧ k ≤ 255

set_option maxHeartbeats 2000000 in
theorem frontGet_any (A : Option Addr) (n c B0 : Nat) (l : List Int) (w : World) (hn : n ≤ 1125899906842624) (hl : l.length = n) (h : Reads w B0 A n 1 (l.flatMap cInt)) (hB0 : B0 ≤ w.heap.size) :
    Calls Try.prog 22 #[.slice A n c] w fun e w' => Below w.heap.size w w' ∧
      ((GetOk l ∧ e = .returned (.tuple #[.string ⟨(decF shelf0 l).toArray⟩, .int .i64 0])) ∨ (¬ GetOk l ∧ ∃ E : Int, E ≠ 0 ∧ e = .returned (.tuple #[.string ⟨#[]⟩, .int .i64 E]))) := by
  have Hl := Lib.hid hl
  by_cases hn2 : n ≤ 200
  case neg =>
    have q1 : decide ((200 : Int) < (n : Int)) = true := decide_eq_true (by omega)
    have hno : ¬ GetOk l := fun h => by have := h.1; omega
    go_enter Try.func22, Try.ntmps22
    go_wp2
    go_ret2
    exact ⟨Below.refl _ _, .inr ⟨hno, 2, by decide, rfl⟩⟩
  clear hl
  have q1 : decide ((200 : Int) < (n : Int)) = false := decide_eq_false (by omega)
  go_enter Try.func22, Try.ntmps22
  go_wp2_with fail
  refine (shelf_any _).mono ?_
  rintro e w1 ⟨rfl, hB1, hb1⟩
  have hlt1 := hB1.lt
  generalize hg : w.heap.size = g at *
  have Hg := Lib.hid hg
  clear hg
  obtain ⟨B, hB⟩ : ∃ B, B = w1.heap.size := ⟨_, rfl⟩
  have hBl : B ≤ w1.heap.size := by omega
  have hgB : g < B := by omega
  clear hB hlt1
  go_wp2
  go_loopw [5, 7, 14] (fun ov _ i wr => ∃ (k : Nat) (A' : Option Addr) (c' : Nat), k ≤ n ∧ i = .int .i64 k ∧ ov = .slice A' k c' ∧ Hid (∀ x ∈ l.take k, 0 ≤ x ∧ x ≤ 255) ∧ wr.ownsRow B 5 1 (.slice A' k c') k ((decF shelf0 (l.take k)).flatMap cByte) ∧
      Blk wr g 5 ((shelfBy shelf0 (l.take k)).map cB).toArray ∧ Below g w wr ∧ B ≤ wr.heap.size)
    (fun _ _ i _ => n - (intOf i).toNat)
  case atStart => exact ⟨0, none, 0, Nat.zero_le _, rfl, rfl, Lib.hid (by simp), World.ownsRow_nil _ _ _ _, hB1, hb1, hBl⟩
  case round =>
    clear hB1 hb1 hBl
    obtain ⟨k, A', c', hk, rfl, rfl, Hin, hown, hblk, hbr, hBr⟩ := hrel
    have h := h.below (hbr.mono hB0)
    by_cases hlt : k < n
    · obtain ⟨b, o, rfl, hbB, hc⟩ := h.2 (by omega)
      have c0 := hc (k * 1 + 0) (by rw [flat_length cInt 1 cInt_len, Hl.out]; omega)
      rw [flat_getD cInt 1 cInt_len 0 l k _ (by rw [Hl.out]; omega) (by omega)] at c0
      simp only [cInt, List.getD_cons_zero, Nat.mul_one, Nat.add_zero] at c0
      have hts := take_succ_getD l k 0 (by rw [Hl.out]; omega)
      have hmem : l.getD k 0 ∈ l := by rw [getD_some _ _ _ (by rw [Hl.out]; omega)]; exact List.getElem_mem _
      have hsb := shelfBy_snoc shelf0 (l.getD k 0) (l.take k)
      have hdc := decF_snoc shelf0 (l.getD k 0) (l.take k)
      rw [← hts] at hsb hdc
      have hok := shelfBy_ok shelf0_ok (l.take k) Hin.out
      have Hts := Lib.hid hts
      have Hmem := Lib.hid hmem
      have Hsb := Lib.hid hsb
      have Hdc := Lib.hid hdc
      clear hc hts hmem hsb hdc
      generalize l.getD k 0 = x at *
      by_cases hx : 0 ≤ x ∧ x ≤ 255
      · obtain ⟨m, rfl⟩ : ∃ m : Nat, x = m := ⟨x.toNat, by omega⟩
        rw [Int.toNat_natCast] at Hsb Hdc
        have hm : m < 256 := by omega
        have q2 : decide ((m : Int) < 0) = false := decide_eq_false (by omega)
        have q3 : decide ((255 : Int) < (m : Int)) = false := decide_eq_false (by omega)
        clear hx
        go_wp2_with fail
        refine (take_any g m _ hok.1 hm wr hblk).mono ?_
        rintro e w2 ⟨rfl, hblk2, hb2⟩
        have hown2 := hown.kept hb2 (.inr (own_blk_ne' hown hblk (by omega)))
        have hbr2 := below_only hbr hb2 (Nat.le_refl _) hblk.lt
        have hBr2 : B ≤ w2.heap.size := Nat.le_trans hBr hb2.size
        have Hok := Lib.hid hok
        clear hown hbr hBr hb2 hblk h hok
        generalize (shelfBy shelf0 (l.take k)).getD m 0 = ch at *
        go_wp2_with (first | (at_builtin; go_must (refine wpList_append_new _ 27 (.tmp 24) (.tmp 28) rfl rfl B 5 infoByteF Try.underlying27 rfl (by decide) _ _ _ _ rfl hown2 #[.int .u8 (ch.toNat : Int)] 1 rfl rfl (by simp [Value.oneCell']) (by unfold maxLen; omega) (by omega) hBr2 ?_); intro A3 c3 w3 hown3 hb3 hg3))
        go_roundw
        case rel =>
          refine ⟨k + 1, A3, c3, by omega, by go_num, rfl, Lib.hid fun x hx => ?_, ?_, ?_, ?_, ?_⟩
          · rw [Hts.out, List.mem_append, List.mem_singleton] at hx
            rcases hx with hx | rfl
            · exact Hin.out x hx
            · omega
          · rw [Hdc.out, flat_snoc]; exact hown3
          · rw [Hsb.out]; exact hblk2.grown hg3 (own_blk_ne' hown2 hblk2 (by omega))
          · exact hbr2.trans (hb3.mono (by omega))
          · exact Nat.le_trans hBr2 hb3.size
        case measure => simp [intOf]; omega
      · have hno : ¬ GetOk l := fun hh => hx (hh.2 x Hmem.out)
        have Hno := Lib.hid hno
        clear hno
        by_cases hx0 : x < 0
        · have q2 : decide (x < 0) = true := decide_eq_true hx0
          go_wp2
          go_ret2
          exact ⟨by rw [Hg.out]; exact hbr, .inr ⟨Hno.out, 1, by decide, rfl⟩⟩
        · have q2 : decide (x < 0) = false := decide_eq_false hx0
          have q3 : decide (255 < x) = true := decide_eq_true (by omega)
          go_wp2
          go_ret2
          exact ⟨by rw [Hg.out]; exact hbr, .inr ⟨Hno.out, 1, by decide, rfl⟩⟩
    · obtain rfl : k = n := by omega
      have e : l.take k = l := List.take_of_length_le (by rw [Hl.out]; omega)
      rw [e] at hown Hin
      have hdl := decF_length shelf0 l
      have hstr := run_string_own (P := Try.prog) wr 27 9 5 B A' k c' cByte (fun _ => rfl) (decF shelf0 l) hown Try.underlying27 Try.underlying5 Try.underlying9
      have hyes : GetOk l := ⟨by rw [Hl.out]; omega, Hin.out⟩
      have Hyes := Lib.hid hyes
      clear hyes hdl
      go_wp2
      go_ret2
      exact ⟨by rw [Hg.out]; exact hbr, .inl ⟨Hyes.out, rfl⟩⟩

end Go.Proofs.Ytccbfhaoepomnaa
