/- The walk of tree.Lens: Huffman's piles. -/
import Derived.Test.YtlnobikecmgocaaDoorTreePush
import Derived.Deep.RegionHeld3
import Derived.StillTailTactics
namespace Go.Proofs.YtlnobikecmgocaaDoor
open Go.RowKit Go.Sort
set_option linter.unusedVariables false

theorem infoPile : (Tryd.prog.info? 42).map (fun i => (i.zero, i.size, i.bytes)) = some (some (.agg #[.int .i64 0, .slice none 0 0]), 2, 32) := by kernel_rfl
theorem infoIntT : (Tryd.prog.info? 3).map (fun i => (i.zero, i.size, i.bytes)) = some (some (.int .i64 0), 1, 8) := by kernel_rfl
theorem blk_two {w : World} {p : Nat} {T : TypeId} {u v : Value} (h : Blk w p T #[u, v]) : w.cell? ⟨p, 0, none⟩ = some u ∧ w.cell? ⟨p, 1, none⟩ = some v ∧ w.frozen? ⟨p, 0, none⟩ = false ∧ w.frozen? ⟨p, 1, none⟩ = false :=
  ⟨h.cell 0, h.cell 1, h.frozen 0, h.frozen 1⟩
theorem KeepI.set {w : World} {p : Nat} {cs : Array Value} (h : Blk w p 42 cs) (i : Nat) (u : Value) : KeepI w (w.setCell ⟨p, i, none⟩ u) := fun k cs' hk =>
  hk.far (p := ⟨p, i, none⟩) (fun e => by
    have e : k = p := e
    subst e
    exact absurd (blk_type h hk) (by decide)) u
/-- What the piles are at first. -/
def startP (ws : List Nat) : List Pile := ws.zipIdx.map fun x => (x.1, [x.2])
theorem startP_take (ws : List Nat) (k : Nat) (hk : k < ws.length) : (startP ws).take (k + 1) = (startP ws).take k ++ [(ws.getD k 0, [k])] := by
  have hl : k < (startP ws).length := by simp [startP, hk]
  rw [List.take_succ_eq_append_getElem hl]
  congr 1
  simp [startP, hk, List.getD_eq_getElem?_getD]
/-- Lens has told, or is at it. -/
def LensIn (ws : List Nat) (L : LP) (o : List Nat) : Prop := (L.length ≤ 1 ∧ LensOk ws o) ∨ (2 ≤ ws.length ∧ 1 ≤ L.length ∧ HInv ws (bare L) o)
theorem LensIn.done {ws : List Nat} {L : LP} {o : List Nat} (h : LensIn ws L o) (hl : L.length ≤ 1) : LensOk ws o := by
  rcases h with ⟨_, h⟩ | ⟨h1, h2, h3⟩
  · exact h
  · rcases L with _ | ⟨x, _ | ⟨y, L⟩⟩
    · simp at h2
    · exact HInv.done h3 h1
    · simp at hl

def lenV : Value → Nat
  | .slice _ n _ => n
  | _ => 0
theorem lensReads {w0 W : World} {g : Nat} {A : Option Addr} {c n : Nat} {L : LP} {o : List Nat} (h : LensSt w0 g W A c L o) (ho : o.length = n) : Reads W W.heap.size (some ⟨g, 0, none⟩) n 1 ((ikN o).flatMap cInt) := by
  have hl : ((ikN o).flatMap cInt).length = n := by rw [flat_length cInt 1 cInt_len, ikN_len, ho, Nat.mul_one]
  refine ⟨by rw [hl, Nat.mul_one], fun hn => ⟨g, 0, rfl, h.out.lt, fun j hj => ?_⟩⟩
  rw [hl] at hj
  have e := flat_getD cInt 1 cInt_len 0 (ikN o) j 0 (by rw [ikN_len, ho]; exact hj) (by omega)
  rw [Nat.mul_one, Nat.add_zero, ikN_getD] at e
  rw [e, Nat.zero_add, (h.outCell j (by omega)).1]
  rfl

set_option maxRecDepth 100000 in
set_option maxHeartbeats 4000000 in
theorem treeLens_any (A : Option Addr) (n c B : Nat) (ws : List Int) (w : World) (hn : n ≤ 1125899906842624) (hl : ws.length = n) (h : Reads w B A n 1 (ws.flatMap cInt)) (hB : B ≤ w.heap.size) :
    Calls Tryd.prog 8 #[.slice A n c] w fun e w' => Below w.heap.size w w' ∧ ((checkT ws ≠ 0 ∧ e = .returned (.tuple #[.slice none 0 0, .int .i64 (checkT ws)])) ∨
      (checkT ws = 0 ∧ ∃ g o, e = .returned (.tuple #[.slice (some ⟨g, 0, none⟩) n n, .int .i64 0]) ∧ LensOk (nats ws) o ∧ Reads w' w'.heap.size (some ⟨g, 0, none⟩) n 1 ((ikN o).flatMap cInt))) := by
  have HC := Lib.hid (treeCheck_any A n c B ws w hn hl h)
  by_cases hc : checkT ws = 0
  case neg =>
    have q1 : (checkT ws != 0) = true := by simpa using hc
    generalize checkT ws = E at *
    go_enter Tryd.func8, Tryd.ntmps8
    go_wp2_with fail
    refine HC.out.mono ?_
    rintro e w1 ⟨rfl, rfl⟩
    go_wp2
    go_ret2
    exact ⟨Below.refl _ _, .inl ⟨hc, rfl⟩⟩
  obtain ⟨hl12, hws⟩ := (checkT_zero ws).1 hc
  rw [hc] at HC
  rw [hc]
  obtain ⟨N, hN⟩ : ∃ N, N = nats ws := ⟨_, rfl⟩
  have hNl : N.length = n := by rw [hN]; unfold nats; rw [List.length_map, hl]
  have hNk : ∀ k, k < n → ws.getD k 0 = ((N.getD k 0 : Nat) : Int) ∧ N.getD k 0 ≤ 10000 := fun k hk => by
    rw [hN, nats_getD]
    have hm : ws.getD k 0 ∈ ws := by rw [getD_some _ _ _ (by omega)]; exact List.getElem_mem _
    have := hws _ hm
    omega
  have hNb : ∀ k, N.getD k 0 ≤ 10000 := fun k => by
    rcases Nat.lt_or_ge k n with hk | hk
    · exact (hNk k hk).2
    · rw [List.getD_eq_getElem?_getD, List.getElem?_eq_none (by omega)]; simp
  have hn12 : n ≤ 12 := by omega
  rw [← hN]
  have Hl := Lib.hid hl
  have HNl := Lib.hid hNl
  have HNk := Lib.hid hNk
  have HNb := Lib.hid hNb
  have hmk := make_ints (P := Tryd.prog) 22 3 Tryd.underlying22 infoIntT n (n : Int) rfl (by omega) w
  have hout0 := Blk.new w 3 (madeCells #[.int .i64 0] n)
  rw [made_ints] at hout0
  have hb0 : Below w.heap.size w (w.alloc (.cells (madeCells #[.int .i64 0] n) 3)) := (Below.refl _ _).alloc (Nat.le_refl _) _
  rw [made_ints] at hmk hb0
  clear hc hws hN hl hNl hNk hNb hl12
  go_enter Tryd.func8, Tryd.ntmps8
  go_wp2_with fail
  refine HC.out.mono ?_
  rintro e w1 ⟨rfl, rfl⟩
  clear HC
  go_wp2
  have st0 : LensSt w w.heap.size (w.alloc (.cells ((ikN (List.replicate n 0)).map (Value.int .i64)).toArray 3)) none 0 [] (List.replicate n 0) :=
    ⟨OwnK.nil _ _ _ _, hout0, fun x hx => by simp at hx, hb0, Nat.le_refl _⟩
  generalize World.alloc _ _ = W at *
  obtain ⟨g, hg⟩ : ∃ g, g = w.heap.size := ⟨_, rfl⟩
  rw [← hg] at st0 ⊢
  have hgw : w.heap.size ≤ g := by omega
  clear hmk hout0 hb0 hg
  go_loopw [6, 7, 8, 22] (fun ov _ _ iv wr => ∃ (k : Nat) (A' : Option Addr) (c' : Nat) (L : LP), k ≤ n ∧ iv = .int .i64 k ∧ ov = .slice A' k c' ∧ Hid (L.length = k) ∧ Hid (bare L = (startP N).take k) ∧ LensSt w g wr A' c' L (List.replicate n 0)) (fun _ _ _ iv _ => n - (intOf iv).toNat)
  case atStart => exact ⟨0, none, 0, [], Nat.zero_le _, rfl, rfl, Lib.hid rfl, Lib.hid (by simp [bare]), st0⟩
  case round =>
    clear st0
    obtain ⟨k, A', c', L, hk, rfl, rfl, HL, Hbare, st⟩ := hrel
    by_cases hlt : k < n
    · obtain ⟨b', o', rfl, hbB', hc'⟩ := (h.below (st.low.mono hB)).2 (by omega)
      have c0 := hc' (k * 1 + 0) (by rw [flat_length cInt 1 cInt_len, Hl.out]; omega)
      rw [flat_getD cInt 1 cInt_len 0 ws k _ (by rw [Hl.out]; omega) (by omega)] at c0
      simp only [cInt, List.getD_cons_zero, Nat.mul_one, Nat.add_zero] at c0
      obtain ⟨e1, e2⟩ := HNk.out k hlt
      rw [e1] at c0
      have hst := startP_take N k (by rw [HNl.out]; omega)
      have Hst := Lib.hid hst
      clear hc' e1 hst
      generalize N.getD k 0 = x at *
      have hcl : ∀ j, j < 2 → ((wr.alloc (Obj.cells #[.int .i64 (k : Int)] 3)).alloc (Obj.cells #[.int .i64 (x : Int), .slice (some ⟨wr.heap.size, 0, none⟩) 1 1] 42)).cell? ((⟨wr.heap.size + 1, 0, none⟩ : Addr).add j) = ([.int .i64 (x : Int), .slice (some ⟨wr.heap.size, 0, none⟩) 1 1] : List Value)[j]? := fun j hj => by
        have hB := Blk.new (wr.alloc (Obj.cells #[.int .i64 (k : Int)] 3)) 42 #[.int .i64 (x : Int), .slice (some ⟨wr.heap.size, 0, none⟩) 1 1]
        rw [show (wr.alloc (Obj.cells #[.int .i64 (k : Int)] 3)).heap.size = wr.heap.size + 1 from by simp] at hB
        rw [add_at, Nat.zero_add, hB.cell, ← Array.getElem?_toList]
      have hof := (OfAt.one wr g k (by have := st.out.lt; exact this)).keep (KeepI.alloc _ (Obj.cells #[.int .i64 (x : Int), .slice (some ⟨wr.heap.size, 0, none⟩) 1 1] 42))
      have hb2 : Below wr.heap.size wr ((wr.alloc (Obj.cells #[.int .i64 (k : Int)] 3)).alloc (Obj.cells #[.int .i64 (x : Int), .slice (some ⟨wr.heap.size, 0, none⟩) 1 1] 42)) := ((Below.refl _ _).alloc (Nat.le_refl _) _).alloc (by simp) _
      have hrow2 := st.row.after hb2
      rw [HL.out] at hrow2
      have hk8 : k ≤ 8000000000000 := by omega
      have hk9 : (k + 1) * 32 ≤ 140737488355328 := by omega
      have hK : ∀ j, j < w.heap.size → j < ((wr.alloc (Obj.cells #[.int .i64 (k : Int)] 3)).alloc (Obj.cells #[.int .i64 (x : Int), .slice (some ⟨wr.heap.size, 0, none⟩) 1 1] 42)).heap.size := fun j hj => by have := st.low.size; simp; omega
      go_wp2_with (first | (at_builtin; go_must (refine wpList_append_K rfl (.tmp 27) (.tmp 32) 40 rfl (· < w.heap.size) (.agg #[.int .i64 0, .slice none 0 0]) 32 infoPile Tryd.underlying40 rfl (by decide) (by decide) A' k c' _ rfl hrow2 ⟨wr.heap.size + 1, 0, none⟩ 1 [.int .i64 (x : Int), .slice (some ⟨wr.heap.size, 0, none⟩) 1 1] rfl rfl (by simp [Value.oneCell']) hcl hk9 hk8 hK ?_); intro A3 c3 w3 hown3 hg3 hp3))
      have stn := st.push hb2 HL.out.symm hown3 hg3 (x := (⟨(x, some ⟨wr.heap.size, 0, none⟩, 1, 1), by simp only; omega⟩, [k])) hof
      go_wp2
      go_roundw
      case rel =>
        exact ⟨k + 1, A3, c3, _, by omega, by go_num, rfl, Lib.hid (by rw [List.length_append, HL.out]; rfl), Lib.hid (by
          rw [Hst.out, ← Hbare.out]; unfold bare; rw [List.map_append]; rfl), stn⟩
      case measure => simp [intOf]; omega
    · obtain rfl : k = n := by omega
      have hbr : bare L = startP N := by rw [Hbare.out]; exact List.take_of_length_le (by simp [startP, HNl.out])
      have Hbr := Lib.hid hbr
      clear Hbare hbr hlt hk
      -- at one number alone
      by_cases h1 : k = 1
      case pos =>
        subst h1
        obtain ⟨hc0, hf0⟩ := st.outCell 0 (by simp)
        have st1 := st.put 0 1
        have hok : LensOk N [1] := by
          have hN := HNl.out
          rcases N with _ | ⟨x, _ | ⟨y, N⟩⟩
          · simp at hN
          · exact lens_one x
          · simp at hN
        have Hok := Lib.hid hok
        clear hok
        go_wp2
        have st1 : LensSt w g (wr.setCell ⟨g, 0, none⟩ (.int .i64 1)) A' c' L [1] := st1
        clear st hc0 hf0
        generalize wr.setCell ⟨g, 0, none⟩ (.int .i64 1) = W2 at *
        go_loopw [6, 9, 11] (fun ov _ _ wq => ov = .slice A' 1 c' ∧ wq = W2) (fun _ _ _ _ => 0)
        case atStart => exact ⟨rfl, rfl⟩
        case round =>
          obtain ⟨rfl, rfl⟩ := hrel
          go_wp2
          go_ret2
          exact ⟨st1.low, .inr ⟨trivial, g, [1], rfl, Hok.out, lensReads st1 rfl⟩⟩
      case neg =>
        have q1 : ((k : Int) == 1) = false := by rw [beq_eq_false_iff_ne]; omega
        have q1' : (k == 1) = false := by rw [beq_eq_false_iff_ne]; omega
        have hin : LensIn N L (List.replicate k 0) := by
          by_cases h0 : k = 0
          · left
            subst h0
            refine ⟨by rw [HL.out]; omega, ?_⟩
            have : N = [] := List.eq_nil_of_length_eq_zero HNl.out
            rw [this]; exact lens_none
          · right
            refine ⟨by rw [HNl.out]; omega, by rw [HL.out]; omega, ?_⟩
            rw [Hbr.out, ← HNl.out]
            exact HInv.start N
        have Hin := Lib.hid hin
        have Hol := Lib.hid (List.length_replicate (n := k) (a := (0 : Nat)))
        generalize List.replicate k 0 = o at *
        clear hin
        go_wp2_with fail
        go_loopw [6, 9, 11] (fun ov _ _ wq => ∃ (A1 : Option Addr) (c1 : Nat) (M : LP) (o : List Nat), ov = .slice A1 M.length c1 ∧ LensSt w g wq A1 c1 M o ∧ Hid (LensIn N M o) ∧ Hid (o.length = k)) (fun ov _ _ _ => lenV ov)
        case atStart => exact ⟨A', c', L, o, by rw [HL.out], st, Hin, Hol⟩
        case round =>
          clear st Hin Hol HL Hbr
          obtain ⟨A1, c1, M, o, rfl, st, Hin, Hol⟩ := hrel
          by_cases hM : M.length ≤ 1
          · have Hdone := Lib.hid (Hin.out.done hM)
            have q2 : decide ((1 : Int) < (M.length : Int)) = false := decide_eq_false (by omega)
            have q2' : decide (1 < M.length) = false := decide_eq_false (by omega)
            go_wp2
            go_ret2
            exact ⟨st.low, .inr ⟨trivial, g, o, rfl, Hdone.out, lensReads st Hol.out⟩⟩
          · have q2 : decide ((1 : Int) < (M.length : Int)) = true := decide_eq_true (by omega)
            have q2' : decide (1 < M.length) = true := decide_eq_true (by omega)
            have hin : 2 ≤ N.length ∧ HInv N (bare M) o := by
              rcases Hin.out with ⟨h1, _⟩ | ⟨h1, _, h2⟩
              · exact absurd h1 hM
              · exact ⟨h1, h2⟩
            have hM12 : M.length ≤ 12 := by
              have h3 := hin.2.deep 0 (by omega)
              have h4 : (bare M).length = M.length := by unfold bare; rw [List.length_map]
              rw [HNl.out] at h3
              omega
            have HS := Lib.hid (lensSort st (by omega) hM12)
            have Hinv := Lib.hid hin.2
            have H2N := Lib.hid hin.1
            clear Hin hin
            go_wp2_with fail
            refine HS.out.mono ?_
            rintro e w2 ⟨rfl, M2, hp, hup, st2⟩
            obtain ⟨x, y, r, rfl⟩ : ∃ x y r, M2 = x :: y :: r := by
              rcases M2 with _ | ⟨x, _ | ⟨y, r⟩⟩
              · have h3 : M.length = 0 := hp.length_eq
                omega
              · have h3 : M.length = 1 := hp.length_eq
                omega
              · exact ⟨x, y, r, rfl⟩
            have hpl := hp.length_eq
            have hl2 : M.length = r.length + 2 := hpl
            have hinv2 : HInv N ((x.1.1.1, x.2) :: (y.1.1.1, y.2) :: bare r) o := Hinv.out.perm (hp.map fun x : Pil × List Nat => (x.1.1.1, x.2))
            have hxy : x.1.1.1 ≤ y.1.1.1 := hup 0 1 (by omega) (by simp)
            have hyr : ∀ p ∈ bare r, y.1.1.1 ≤ p.1 := fun p hp => by
              obtain ⟨z, hz, rfl⟩ := List.mem_map.1 hp
              obtain ⟨i, hi, rfl⟩ := List.getElem_of_mem hz
              have h3 := hup 1 (i + 2) (by omega) (by simp; omega)
              have e : ((x :: y :: r).map fun x : Pil × List Nat => x.1).getD (i + 2) default = (r[i]).1 := by
                rw [List.getD_eq_getElem?_getD, List.getElem?_map, List.getElem?_cons_succ, List.getElem?_cons_succ, List.getElem?_eq_getElem hi]
                rfl
              rw [e] at h3
              exact h3
            have Hmerge := Lib.hid (hinv2.merge hxy hyr)
            obtain ⟨hsum, hlen, hmem, ho12, hinc⟩ := hinv2.two (by rw [HNl.out]; exact hn12) HNb.out
            have Hmem := Lib.hid hmem
            have Hinc := Lib.hid hinc
            have hofx := st2.of x (by simp)
            have hofy := st2.of y (by simp)
            have hlx := hofx.1
            have hly := hofy.1
            obtain ⟨b, off, rfl, hbsz, hbK⟩ : ∃ b off, A1 = some ⟨b, off, none⟩ ∧ b < w2.heap.size ∧ ¬ b < w.heap.size := st2.row.shape (by simp)
            rw [hl2] at q2 q2' ⊢
            clear hinv2 hup hyr hp hinc hmem Hinv hM HS hpl hxy st
            obtain ⟨x0, x1, y0, y1, hbsz⟩ := st2.cells
            obtain ⟨⟨⟨a, Ax, nx, cx⟩, hax⟩, Kx⟩ := x
            obtain ⟨⟨⟨bb, Ay, ny, cy⟩, hay⟩, Ky⟩ := y
            simp only at x0 x1 y0 y1 hofx hofy hlx hly Hmerge hsum hlen Hmem Hinc
            have rx := hofx.reads
            have ry := hofy.reads
            have KP : ∀ W', Below w2.heap.size w2 W' → W'.cell? ⟨b, off, none⟩ = some (.int .i64 (a : Int)) ∧ W'.cell? ⟨b, off + 1, none⟩ = some (.slice Ax nx cx) ∧ W'.cell? ⟨b, off + 2, none⟩ = some (.int .i64 (bb : Int)) ∧ W'.cell? ⟨b, off + 3, none⟩ = some (.slice Ay ny cy) := fun W' hW =>
              ⟨(hW.cell (p := ⟨b, off, none⟩) hbsz).trans x0, (hW.cell (p := ⟨b, off + 1, none⟩) hbsz).trans x1, (hW.cell (p := ⟨b, off + 2, none⟩) hbsz).trans y0, (hW.cell (p := ⟨b, off + 3, none⟩) hbsz).trans y1⟩
            have KPa : ∀ W' o, Below w2.heap.size w2 W' → (W'.alloc o).cell? ⟨b, off, none⟩ = some (.int .i64 (a : Int)) ∧ (W'.alloc o).cell? ⟨b, off + 1, none⟩ = some (.slice Ax nx cx) ∧ (W'.alloc o).cell? ⟨b, off + 2, none⟩ = some (.int .i64 (bb : Int)) ∧ (W'.alloc o).cell? ⟨b, off + 3, none⟩ = some (.slice Ay ny cy) := fun W' o hW => KP _ (hW.alloc hW.size o)
            have KPs : ∀ W' q u u', Below w2.heap.size w2 W' → w2.heap.size ≤ q → ((W'.setCell ⟨q, 0, none⟩ u).setCell ⟨q, 1, none⟩ u').cell? ⟨b, off, none⟩ = some (.int .i64 (a : Int)) ∧ ((W'.setCell ⟨q, 0, none⟩ u).setCell ⟨q, 1, none⟩ u').cell? ⟨b, off + 1, none⟩ = some (.slice Ax nx cx) ∧ ((W'.setCell ⟨q, 0, none⟩ u).setCell ⟨q, 1, none⟩ u').cell? ⟨b, off + 2, none⟩ = some (.int .i64 (bb : Int)) ∧ ((W'.setCell ⟨q, 0, none⟩ u).setCell ⟨q, 1, none⟩ u').cell? ⟨b, off + 3, none⟩ = some (.slice Ay ny cy) := fun W' q u u' hW hq => KP _ ((hW.setCell (p := ⟨q, 0, none⟩) hq u).setCell (p := ⟨q, 1, none⟩) hq u')
            have RX : ∀ W', Below w2.heap.size w2 W' → Reads W' w2.heap.size Ax nx 1 ((ikN Kx).flatMap cInt) := fun W' hW => rx.below hW
            have RY : ∀ W', Below w2.heap.size w2 W' → Reads W' w2.heap.size Ay ny 1 ((ikN Ky).flatMap cInt) := fun W' hW => ry.below hW
            have b0 : Below w2.heap.size w2 w2.drew := (Below.refl _ _).drew
            have b1S : Below w2.heap.size w2 (w2.alloc (Obj.cells #[.slice Ax nx cx, .slice Ay ny cy] 22)) := (Below.refl _ _).alloc (Nat.le_refl _) _
            have b1A : Below w2.heap.size w2 (w2.alloc (Obj.cells #[.int .i64 0, .slice none 0 0] 42)) := (Below.refl _ _).alloc (Nat.le_refl _) _
            have bS : Below w2.heap.size w2 (w2.alloc (Obj.cells #[.slice Ax nx cx, .slice Ay ny cy] 22)).drew := b1S.drew
            have bA : Below w2.heap.size w2 (w2.alloc (Obj.cells #[.int .i64 0, .slice none 0 0] 42)).drew := b1A.drew
            have bSA : Below w2.heap.size w2 ((w2.alloc (Obj.cells #[.slice Ax nx cx, .slice Ay ny cy] 22)).alloc (Obj.cells #[.int .i64 0, .slice none 0 0] 42)).drew := (b1S.alloc b1S.size _).drew
            have bAS : Below w2.heap.size w2 ((w2.alloc (Obj.cells #[.int .i64 0, .slice none 0 0] 42)).alloc (Obj.cells #[.slice Ax nx cx, .slice Ay ny cy] 22)).drew := (b1A.alloc b1A.size _).drew
            have g1S := Blk.new w2 22 #[.slice Ax nx cx, .slice Ay ny cy]
            have gS : Blk (w2.alloc (Obj.cells #[.slice Ax nx cx, .slice Ay ny cy] 22)).drew w2.heap.size 22 #[.slice Ax nx cx, .slice Ay ny cy] := g1S.drewN 1
            have gSA : Blk ((w2.alloc (Obj.cells #[.slice Ax nx cx, .slice Ay ny cy] 22)).alloc (Obj.cells #[.int .i64 0, .slice none 0 0] 42)).drew w2.heap.size 22 #[.slice Ax nx cx, .slice Ay ny cy] := (g1S.alloc (Obj.cells #[.int .i64 0, .slice none 0 0] 42)).drewN 1
            have g2 := Blk.new (w2.alloc (Obj.cells #[.int .i64 0, .slice none 0 0] 42)) 22 #[.slice Ax nx cx, .slice Ay ny cy]
            rw [show (w2.alloc (Obj.cells #[.int .i64 0, .slice none 0 0] 42)).heap.size = w2.heap.size + 1 from by simp] at g2
            have gAS : Blk ((w2.alloc (Obj.cells #[.int .i64 0, .slice none 0 0] 42)).alloc (Obj.cells #[.slice Ax nx cx, .slice Ay ny cy] 22)).drew (w2.heap.size + 1) 22 #[.slice Ax nx cx, .slice Ay ny cy] := g2.drewN 1
            have z1A := Blk.new w2 42 #[.int .i64 0, .slice none 0 0]
            have zAS : Blk ((w2.alloc (Obj.cells #[.int .i64 0, .slice none 0 0] 42)).alloc (Obj.cells #[.slice Ax nx cx, .slice Ay ny cy] 22)).drew w2.heap.size 42 #[.int .i64 0, .slice none 0 0] := (z1A.alloc (Obj.cells #[.slice Ax nx cx, .slice Ay ny cy] 22)).drewN 1
            have z2 := Blk.new (w2.alloc (Obj.cells #[.slice Ax nx cx, .slice Ay ny cy] 22)) 42 #[.int .i64 0, .slice none 0 0]
            rw [show (w2.alloc (Obj.cells #[.slice Ax nx cx, .slice Ay ny cy] 22)).heap.size = w2.heap.size + 1 from by simp] at z2
            have zSA : Blk ((w2.alloc (Obj.cells #[.slice Ax nx cx, .slice Ay ny cy] 22)).alloc (Obj.cells #[.int .i64 0, .slice none 0 0] 42)).drew (w2.heap.size + 1) 42 #[.int .i64 0, .slice none 0 0] := z2.drewN 1
            clear b1S b1A g1S g2 z1A z2
            have hgl : g < w2.heap.size := st2.out.lt
            have hkk : (Kx ++ Ky).length = nx + ny := by rw [List.length_append, hlx, hly]
            have hkx : (ikN Kx).length = nx := by rw [ikN_len]; exact hlx
            have hky : (ikN Ky).length = ny := by rw [ikN_len]; exact hly
            have HcS := Lib.hid (concatI_ok w2.heap.size 2 Ax Ay nx ny cx cy w2.heap.size (ikN Kx) (ikN Ky) hkx hky (by omega) (by omega) _ (RX _ bS) (RY _ bS) (gS.cell 0) (gS.cell 1) gS.lt bS.size)
            have HcSA := Lib.hid (concatI_ok w2.heap.size 2 Ax Ay nx ny cx cy w2.heap.size (ikN Kx) (ikN Ky) hkx hky (by omega) (by omega) _ (RX _ bSA) (RY _ bSA) (gSA.cell 0) (gSA.cell 1) gSA.lt bSA.size)
            have HcAS := Lib.hid (concatI_ok (w2.heap.size + 1) 2 Ax Ay nx ny cx cy w2.heap.size (ikN Kx) (ikN Ky) hkx hky (by omega) (by omega) _ (RX _ bAS) (RY _ bAS) (gAS.cell 0) (gAS.cell 1) gAS.lt bAS.size)
            have ZSA := Lib.hid zSA
            have ZAS := Lib.hid zAS
            clear RX RY gS gSA gAS zSA zAS
            have i0 : (0 : Int) < (r.length : Int) + 2 := by omega
            have i1 : (1 : Int) < (r.length : Int) + 2 := by omega
            have w12 : IntKind.i64.wrap ((a : Int) + (bb : Int)) = (a : Int) + (bb : Int) := by rw [IntKind.wrap_i64]; omega
            go_wp2_with fail
            go_region_held3 (fun w' => w'.cell? ⟨b, off, none⟩ = some (.int .i64 (a : Int)) ∧ w'.cell? ⟨b, off + 1, none⟩ = some (.slice Ax nx cx) ∧ w'.cell? ⟨b, off + 2, none⟩ = some (.int .i64 (bb : Int)) ∧ w'.cell? ⟨b, off + 3, none⟩ = some (.slice Ay ny cy))
              (first | with_reducible exact KP _ b0 | with_reducible exact KP _ bS | with_reducible exact KP _ bA | with_reducible exact KP _ bSA | with_reducible exact KP _ bAS | with_reducible exact KP _ (by assumption) | with_reducible exact KPa _ _ (by assumption) | with_reducible exact KPs _ _ _ _ (by assumption) (Nat.le_add_right _ _) | with_reducible exact KPs _ _ _ _ (by assumption) (Nat.le_refl _))
              ((first
                | (go_at_call 19; with_reducible refine HcS.out.mono ?_; rintro e w6 ⟨A4, c4, rfl, hown4, hb4⟩; rw [← ikN_app] at hown4; have hbc := bS.trans (hb4.mono bS.size); have hbz := hbc.size; have hof6 := OfAt.own hown4 (Nat.lt_of_lt_of_le hgl bS.size) hkk)
                | (go_at_call 19; with_reducible refine HcAS.out.mono ?_; rintro e w6 ⟨A4, c4, rfl, hown4, hb4⟩; rw [← ikN_app] at hown4; have hbc := bAS.trans (hb4.mono bAS.size); have hbz := hbc.size; have hof6 := OfAt.own hown4 (Nat.lt_of_lt_of_le hgl bAS.size) hkk; have gz := ZAS.out.after hb4; obtain ⟨z0, z1, zf0, zf1⟩ := blk_two gz)
                | (go_at_call 19; with_reducible refine HcSA.out.mono ?_; rintro e w6 ⟨A4, c4, rfl, hown4, hb4⟩; rw [← ikN_app] at hown4; have hbc := bSA.trans (hb4.mono bSA.size); have hbz := hbc.size; have hof6 := OfAt.own hown4 (Nat.lt_of_lt_of_le hgl bSA.size) hkk; have gz := ZSA.out.after hb4; obtain ⟨z0, z1, zf0, zf1⟩ := blk_two gz)))
            · have hBlk := Blk.new w6 42 #[.int .i64 ((a : Int) + (bb : Int)), .slice A4 (nx + ny) c4]
              have hbf := hbc.alloc hbc.size (Obj.cells #[.int .i64 ((a : Int) + (bb : Int)), .slice A4 (nx + ny) c4] 42)
              have hof := hof6.keep (KeepI.alloc w6 (Obj.cells #[.int .i64 ((a : Int) + (bb : Int)), .slice A4 (nx + ny) c4] 42))
              generalize w6.alloc (Obj.cells #[.int .i64 ((a : Int) + (bb : Int)), .slice A4 (nx + ny) c4] 42) = W at *
              have st3 := st2.after hbf
              obtain ⟨d0, d1, _, _⟩ := blk_two hBlk
              clear hbf hof6 hown4 hbc hbz HcS HcSA HcAS KP KPa KPs
              go_wp2
              go_loopw [11, 68] (fun _ iv wq => ∃ j : Nat, j ≤ nx + ny ∧ iv = .int .i64 j ∧ LensSt w g wq (some ⟨b, off, none⟩) c1 ((⟨(a, Ax, nx, cx), hax⟩, Kx) :: (⟨(bb, Ay, ny, cy), hay⟩, Ky) :: r) (inc o ((Kx ++ Ky).take j)) ∧ Blk wq (w6.heap.size) 42 #[.int .i64 ((a : Int) + (bb : Int)), .slice A4 (nx + ny) c4] ∧ OfAt wq g A4 (nx + ny) (Kx ++ Ky)) (fun _ iv _ => nx + ny - (intOf iv).toNat)
              case atStart => exact ⟨0, Nat.zero_le _, rfl, st3, hBlk, hof⟩
              case round =>
                clear st3 hBlk hof d0 d1
                obtain ⟨j, hj, rfl, stj, hBk, hofj⟩ := hrel
                by_cases hlt : j < nx + ny
                · obtain ⟨b4, o4, cs, hA4, hb4g, hB4, hc4⟩ := hofj.2.resolve_left (by omega)
                  have c4j := (hB4.cell (o4 + j)).trans (hc4 j hlt)
                  subst hA4
                  have htk := take_succ_getD (Kx ++ Ky) j 0 (by rw [hkk]; exact hlt)
                  have hmm : (Kx ++ Ky).getD j 0 < o.length := Hmem.out _ (by rw [getD_some _ _ _ (by rw [hkk]; exact hlt)]; exact List.getElem_mem _)
                  obtain ⟨e1, f1⟩ := stj.outCell ((Kx ++ Ky).getD j 0) (by rw [inc_length]; exact hmm)
                  have hbd := Hinc.out j _ hmm
                  have hstep : inc o ((Kx ++ Ky).take (j + 1)) = (inc o ((Kx ++ Ky).take j)).set ((Kx ++ Ky).getD j 0) ((inc o ((Kx ++ Ky).take j)).getD ((Kx ++ Ky).getD j 0) 0 + 1) := by rw [htk, inc_snoc]
                  have stn := stj.put ((Kx ++ Ky).getD j 0) ((inc o ((Kx ++ Ky).take j)).getD ((Kx ++ Ky).getD j 0) 0 + 1)
                  rw [← hstep] at stn
                  have Stn := Lib.hid stn
                  have hofn := hofj
                  rw [Hol.out] at hmm
                  clear htk hstep stn hc4 hB4
                  generalize (inc o ((Kx ++ Ky).take j)).getD ((Kx ++ Ky).getD j 0) 0 = v at *
                  generalize (Kx ++ Ky).getD j 0 = m at *
                  have hmi : (m : Int) < (k : Int) := by omega
                  have wv : IntKind.i64.wrap ((v : Int) + 1) = (v : Int) + 1 := by rw [IntKind.wrap_i64]; omega
                  have hpg : w6.heap.size ≠ g := fun e => by
                    subst e
                    exact absurd (blk_type hBk stj.out) (by decide)
                  have hBn := hBk.far (p := ⟨g, m, none⟩) hpg (.int .i64 ((v : Int) + 1))
                  have hofn := hofj.store m (.int .i64 ((v : Int) + 1))
                  go_wp2
                  go_roundw
                  case rel => exact ⟨j + 1, by omega, by go_num, by have h9 := Stn.out; rwa [Int.natCast_add] at h9, hBn, hofn⟩
                  case measure => simp [intOf]; omega
                · obtain rfl : j = nx + ny := by omega
                  have hall : (Kx ++ Ky).take (nx + ny) = Kx ++ Ky := List.take_of_length_le (by rw [hkk]; exact Nat.le_refl _)
                  rw [hall] at stj
                  have strest := stj.rest
                  have hcap := stj.row.cap
                  have hx : OfAt wr g A4 (nx + ny) (Kx ++ Ky) := hofj
                  obtain ⟨d0, d1, _, _⟩ := blk_two hBk
                  have hl2' : r.length + 2 ≤ 12 := by rw [← hl2]; exact hM12
                  have hr8 : r.length ≤ 8000000000000 := by omega
                  have hr9 : (r.length + 1) * 32 ≤ 140737488355328 := by omega
                  have hb5 : Below wr.heap.size wr (wr.alloc (Obj.cells #[.int .i64 ((a : Int) + (bb : Int)), .slice A4 (nx + ny) c4] 42)).drew := ((Below.refl _ _).alloc (Nat.le_refl _) _).drew
                  have hz5 := Blk.new wr 42 #[.int .i64 ((a : Int) + (bb : Int)), .slice A4 (nx + ny) c4]
                  have hcl : ∀ i, i < 2 → (wr.alloc (Obj.cells #[.int .i64 ((a : Int) + (bb : Int)), .slice A4 (nx + ny) c4] 42)).drew.cell? ((⟨wr.heap.size, 0, none⟩ : Addr).add i) = ([.int .i64 ((a : Int) + (bb : Int)), .slice A4 (nx + ny) c4] : List Value)[i]? := fun i hi => by
                    rw [add_at, Nat.zero_add]
                    show (wr.alloc _).cell? _ = _
                    rw [hz5.cell, ← Array.getElem?_toList]
                  have hK : ∀ i, i < w.heap.size → i < (wr.alloc (Obj.cells #[.int .i64 ((a : Int) + (bb : Int)), .slice A4 (nx + ny) c4] 42)).drew.heap.size := fun i hi => Nat.lt_of_lt_of_le hi (Nat.le_trans stj.low.size hb5.size)
                  have hof5 := hx.keep (KeepI.below hb5)
                  have hc2 : 2 ≤ c1 := by have h9 : r.length + 2 ≤ c1 := hcap.1
                                          omega
                  have hc2i : (2 : Int) ≤ (c1 : Int) := by omega
                  have hrl : r.length + 2 ≤ c1 := hcap.1
                  have hrli : (r.length : Int) + 2 ≤ (c1 : Int) := by omega
                  have hi2 : (2 : Int) ≤ (r.length : Int) + 2 := by omega
                  clear stj hofj hx hBk hcap hz5
                  by_cases hce : c1 = 2
                  · obtain rfl : r = [] := List.eq_nil_of_length_eq_zero (by omega)
                    subst hce
                    rw [if_pos rfl] at strest
                    clear hrl hrli hi2 hc2 hc2i
                    have hrow3 : OwnK 42 2 (wr.alloc (Obj.cells #[.int .i64 ((a : Int) + (bb : Int)), .slice A4 (nx + ny) c4] 42)).drew (· < w.heap.size) (some ⟨b, off, none⟩) 0 (2 - 2) ((([] : LP).map fun x => x.1).flatMap cPil) := (strest.row.alloc _).drew
                    go_wp2
                    go_region_law
                      ((refine step_append_K rfl (.tmp 80) (.tmp 82) 40 rfl (· < w.heap.size) (.agg #[.int .i64 0, .slice none 0 0]) 32 infoPile Tryd.underlying40 rfl (by decide) (by decide) (some ⟨b, off, none⟩) 0 (2 - 2) _ rfl hrow3 ⟨wr.heap.size, 0, none⟩ 1 [.int .i64 ((a : Int) + (bb : Int)), .slice A4 (nx + ny) c4] rfl rfl (by simp [Value.oneCell']) hcl hr9 hr8 hK ?_; intro A5 c5 w5 hown5 hg5 hp5))
                    have stz := strest.push hb5 rfl (x := (⟨(a + bb, A4, nx + ny, c4), hsum⟩, Kx ++ Ky)) (by rw [← Int.natCast_add] at hown5; exact hown5) hg5 hof5
                    go_wp2
                    go_roundw
                    case rel =>
                      have hin9 : LensIn N (([] : LP) ++ [(⟨(a + bb, A4, nx + ny, c4), hsum⟩, Kx ++ Ky)]) (inc o (Kx ++ Ky)) := .inr ⟨H2N.out, by simp, by
                        have h9 := Hmerge.out
                        unfold bare at h9 ⊢
                        rw [List.map_append]
                        exact h9⟩
                      have hol9 : (inc o (Kx ++ Ky)).length = k := by rw [inc_length]; exact Hol.out
                      repeat apply Exists.intro
                      exact ⟨⟨A5, c5, _, _, by rw [List.length_append]; rfl, stz, Lib.hid hin9, Lib.hid hol9⟩, rfl⟩
                    case measure =>
                      have h9 : M.length = 2 := hl2
                      show 0 + 1 < M.length
                      omega

                  · rw [if_neg hce] at strest
                    have hrow3 : OwnK 42 2 (wr.alloc (Obj.cells #[.int .i64 ((a : Int) + (bb : Int)), .slice A4 (nx + ny) c4] 42)).drew (· < w.heap.size) (some ⟨b, off + 4, none⟩) r.length (c1 - 2) ((r.map fun x => x.1).flatMap cPil) := (strest.row.alloc _).drew
                    go_wp2
                    go_region_law
                      ((refine step_append_K rfl (.tmp 80) (.tmp 82) 40 rfl (· < w.heap.size) (.agg #[.int .i64 0, .slice none 0 0]) 32 infoPile Tryd.underlying40 rfl (by decide) (by decide) (some ⟨b, off + 4, none⟩) r.length (c1 - 2) _ rfl hrow3 ⟨wr.heap.size, 0, none⟩ 1 [.int .i64 ((a : Int) + (bb : Int)), .slice A4 (nx + ny) c4] rfl rfl (by simp [Value.oneCell']) hcl hr9 hr8 hK ?_; intro A5 c5 w5 hown5 hg5 hp5))
                    have stz := strest.push hb5 rfl (x := (⟨(a + bb, A4, nx + ny, c4), hsum⟩, Kx ++ Ky)) (by rw [← Int.natCast_add] at hown5; exact hown5) hg5 hof5
                    go_wp2
                    go_roundw
                    case rel =>
                      have hin9 : LensIn N (r ++ [(⟨(a + bb, A4, nx + ny, c4), hsum⟩, Kx ++ Ky)]) (inc o (Kx ++ Ky)) := .inr ⟨H2N.out, by simp, by
                        have h9 := Hmerge.out
                        unfold bare at h9 ⊢
                        rw [List.map_append]
                        exact h9⟩
                      have hol9 : (inc o (Kx ++ Ky)).length = k := by rw [inc_length]; exact Hol.out
                      repeat apply Exists.intro
                      exact ⟨⟨A5, c5, _, _, by rw [List.length_append]; rfl, stz, Lib.hid hin9, Lib.hid hol9⟩, rfl⟩
                    case measure =>
                      show r.length + 1 < M.length
                      omega
            · have hBlk : Blk ((w6.setCell ⟨w2.heap.size + 1, 0, none⟩ (.int .i64 ((a : Int) + (bb : Int)))).setCell ⟨w2.heap.size + 1, 1, none⟩ (.slice A4 (nx + ny) c4)) (w2.heap.size + 1) 42 #[.int .i64 ((a : Int) + (bb : Int)), .slice A4 (nx + ny) c4] := (gz.set_ 0 (.int .i64 ((a : Int) + (bb : Int)))).set_ 1 (.slice A4 (nx + ny) c4)
              have hbf := (hbc.setCell (p := ⟨w2.heap.size + 1, 0, none⟩) (Nat.le_add_right _ _) (.int .i64 ((a : Int) + (bb : Int)))).setCell (p := ⟨w2.heap.size + 1, 1, none⟩) (Nat.le_add_right _ _) (.slice A4 (nx + ny) c4)
              have hof := (hof6.keep (KeepI.set gz 0 (.int .i64 ((a : Int) + (bb : Int))))).keep (KeepI.set (gz.set_ 0 (.int .i64 ((a : Int) + (bb : Int)))) 1 (.slice A4 (nx + ny) c4))
              generalize (w6.setCell ⟨w2.heap.size + 1, 0, none⟩ (.int .i64 ((a : Int) + (bb : Int)))).setCell ⟨w2.heap.size + 1, 1, none⟩ (.slice A4 (nx + ny) c4) = W at *
              clear gz z0 z1 zf0 zf1
              have st3 := st2.after hbf
              obtain ⟨d0, d1, _, _⟩ := blk_two hBlk
              clear hbf hof6 hown4 hbc hbz HcS HcSA HcAS KP KPa KPs
              go_wp2
              go_loopw [11, 68] (fun _ iv wq => ∃ j : Nat, j ≤ nx + ny ∧ iv = .int .i64 j ∧ LensSt w g wq (some ⟨b, off, none⟩) c1 ((⟨(a, Ax, nx, cx), hax⟩, Kx) :: (⟨(bb, Ay, ny, cy), hay⟩, Ky) :: r) (inc o ((Kx ++ Ky).take j)) ∧ Blk wq (w2.heap.size + 1) 42 #[.int .i64 ((a : Int) + (bb : Int)), .slice A4 (nx + ny) c4] ∧ OfAt wq g A4 (nx + ny) (Kx ++ Ky)) (fun _ iv _ => nx + ny - (intOf iv).toNat)
              case atStart => exact ⟨0, Nat.zero_le _, rfl, st3, hBlk, hof⟩
              case round =>
                clear st3 hBlk hof d0 d1
                obtain ⟨j, hj, rfl, stj, hBk, hofj⟩ := hrel
                by_cases hlt : j < nx + ny
                · obtain ⟨b4, o4, cs, hA4, hb4g, hB4, hc4⟩ := hofj.2.resolve_left (by omega)
                  have c4j := (hB4.cell (o4 + j)).trans (hc4 j hlt)
                  subst hA4
                  have htk := take_succ_getD (Kx ++ Ky) j 0 (by rw [hkk]; exact hlt)
                  have hmm : (Kx ++ Ky).getD j 0 < o.length := Hmem.out _ (by rw [getD_some _ _ _ (by rw [hkk]; exact hlt)]; exact List.getElem_mem _)
                  obtain ⟨e1, f1⟩ := stj.outCell ((Kx ++ Ky).getD j 0) (by rw [inc_length]; exact hmm)
                  have hbd := Hinc.out j _ hmm
                  have hstep : inc o ((Kx ++ Ky).take (j + 1)) = (inc o ((Kx ++ Ky).take j)).set ((Kx ++ Ky).getD j 0) ((inc o ((Kx ++ Ky).take j)).getD ((Kx ++ Ky).getD j 0) 0 + 1) := by rw [htk, inc_snoc]
                  have stn := stj.put ((Kx ++ Ky).getD j 0) ((inc o ((Kx ++ Ky).take j)).getD ((Kx ++ Ky).getD j 0) 0 + 1)
                  rw [← hstep] at stn
                  have Stn := Lib.hid stn
                  have hofn := hofj
                  rw [Hol.out] at hmm
                  clear htk hstep stn hc4 hB4
                  generalize (inc o ((Kx ++ Ky).take j)).getD ((Kx ++ Ky).getD j 0) 0 = v at *
                  generalize (Kx ++ Ky).getD j 0 = m at *
                  have hmi : (m : Int) < (k : Int) := by omega
                  have wv : IntKind.i64.wrap ((v : Int) + 1) = (v : Int) + 1 := by rw [IntKind.wrap_i64]; omega
                  have hpg : (w2.heap.size + 1) ≠ g := fun e => by
                    subst e
                    exact absurd (blk_type hBk stj.out) (by decide)
                  have hBn := hBk.far (p := ⟨g, m, none⟩) hpg (.int .i64 ((v : Int) + 1))
                  have hofn := hofj.store m (.int .i64 ((v : Int) + 1))
                  go_wp2
                  go_roundw
                  case rel => exact ⟨j + 1, by omega, by go_num, by have h9 := Stn.out; rwa [Int.natCast_add] at h9, hBn, hofn⟩
                  case measure => simp [intOf]; omega
                · obtain rfl : j = nx + ny := by omega
                  have hall : (Kx ++ Ky).take (nx + ny) = Kx ++ Ky := List.take_of_length_le (by rw [hkk]; exact Nat.le_refl _)
                  rw [hall] at stj
                  have strest := stj.rest
                  have hcap := stj.row.cap
                  have hx : OfAt wr g A4 (nx + ny) (Kx ++ Ky) := hofj
                  obtain ⟨d0, d1, _, _⟩ := blk_two hBk
                  have hl2' : r.length + 2 ≤ 12 := by rw [← hl2]; exact hM12
                  have hr8 : r.length ≤ 8000000000000 := by omega
                  have hr9 : (r.length + 1) * 32 ≤ 140737488355328 := by omega
                  have hb5 : Below wr.heap.size wr (wr.alloc (Obj.cells #[.int .i64 ((a : Int) + (bb : Int)), .slice A4 (nx + ny) c4] 42)).drew := ((Below.refl _ _).alloc (Nat.le_refl _) _).drew
                  have hz5 := Blk.new wr 42 #[.int .i64 ((a : Int) + (bb : Int)), .slice A4 (nx + ny) c4]
                  have hcl : ∀ i, i < 2 → (wr.alloc (Obj.cells #[.int .i64 ((a : Int) + (bb : Int)), .slice A4 (nx + ny) c4] 42)).drew.cell? ((⟨wr.heap.size, 0, none⟩ : Addr).add i) = ([.int .i64 ((a : Int) + (bb : Int)), .slice A4 (nx + ny) c4] : List Value)[i]? := fun i hi => by
                    rw [add_at, Nat.zero_add]
                    show (wr.alloc _).cell? _ = _
                    rw [hz5.cell, ← Array.getElem?_toList]
                  have hK : ∀ i, i < w.heap.size → i < (wr.alloc (Obj.cells #[.int .i64 ((a : Int) + (bb : Int)), .slice A4 (nx + ny) c4] 42)).drew.heap.size := fun i hi => Nat.lt_of_lt_of_le hi (Nat.le_trans stj.low.size hb5.size)
                  have hof5 := hx.keep (KeepI.below hb5)
                  have hc2 : 2 ≤ c1 := by have h9 : r.length + 2 ≤ c1 := hcap.1
                                          omega
                  have hc2i : (2 : Int) ≤ (c1 : Int) := by omega
                  have hrl : r.length + 2 ≤ c1 := hcap.1
                  have hrli : (r.length : Int) + 2 ≤ (c1 : Int) := by omega
                  have hi2 : (2 : Int) ≤ (r.length : Int) + 2 := by omega
                  clear stj hofj hx hBk hcap hz5
                  by_cases hce : c1 = 2
                  · obtain rfl : r = [] := List.eq_nil_of_length_eq_zero (by omega)
                    subst hce
                    rw [if_pos rfl] at strest
                    clear hrl hrli hi2 hc2 hc2i
                    have hrow3 : OwnK 42 2 (wr.alloc (Obj.cells #[.int .i64 ((a : Int) + (bb : Int)), .slice A4 (nx + ny) c4] 42)).drew (· < w.heap.size) (some ⟨b, off, none⟩) 0 (2 - 2) ((([] : LP).map fun x => x.1).flatMap cPil) := (strest.row.alloc _).drew
                    go_wp2
                    go_region_law
                      ((refine step_append_K rfl (.tmp 80) (.tmp 82) 40 rfl (· < w.heap.size) (.agg #[.int .i64 0, .slice none 0 0]) 32 infoPile Tryd.underlying40 rfl (by decide) (by decide) (some ⟨b, off, none⟩) 0 (2 - 2) _ rfl hrow3 ⟨wr.heap.size, 0, none⟩ 1 [.int .i64 ((a : Int) + (bb : Int)), .slice A4 (nx + ny) c4] rfl rfl (by simp [Value.oneCell']) hcl hr9 hr8 hK ?_; intro A5 c5 w5 hown5 hg5 hp5))
                    have stz := strest.push hb5 rfl (x := (⟨(a + bb, A4, nx + ny, c4), hsum⟩, Kx ++ Ky)) (by rw [← Int.natCast_add] at hown5; exact hown5) hg5 hof5
                    go_wp2
                    go_roundw
                    case rel =>
                      have hin9 : LensIn N (([] : LP) ++ [(⟨(a + bb, A4, nx + ny, c4), hsum⟩, Kx ++ Ky)]) (inc o (Kx ++ Ky)) := .inr ⟨H2N.out, by simp, by
                        have h9 := Hmerge.out
                        unfold bare at h9 ⊢
                        rw [List.map_append]
                        exact h9⟩
                      have hol9 : (inc o (Kx ++ Ky)).length = k := by rw [inc_length]; exact Hol.out
                      repeat apply Exists.intro
                      exact ⟨⟨A5, c5, _, _, by rw [List.length_append]; rfl, stz, Lib.hid hin9, Lib.hid hol9⟩, rfl⟩
                    case measure =>
                      have h9 : M.length = 2 := hl2
                      show 0 + 1 < M.length
                      omega

                  · rw [if_neg hce] at strest
                    have hrow3 : OwnK 42 2 (wr.alloc (Obj.cells #[.int .i64 ((a : Int) + (bb : Int)), .slice A4 (nx + ny) c4] 42)).drew (· < w.heap.size) (some ⟨b, off + 4, none⟩) r.length (c1 - 2) ((r.map fun x => x.1).flatMap cPil) := (strest.row.alloc _).drew
                    go_wp2
                    go_region_law
                      ((refine step_append_K rfl (.tmp 80) (.tmp 82) 40 rfl (· < w.heap.size) (.agg #[.int .i64 0, .slice none 0 0]) 32 infoPile Tryd.underlying40 rfl (by decide) (by decide) (some ⟨b, off + 4, none⟩) r.length (c1 - 2) _ rfl hrow3 ⟨wr.heap.size, 0, none⟩ 1 [.int .i64 ((a : Int) + (bb : Int)), .slice A4 (nx + ny) c4] rfl rfl (by simp [Value.oneCell']) hcl hr9 hr8 hK ?_; intro A5 c5 w5 hown5 hg5 hp5))
                    have stz := strest.push hb5 rfl (x := (⟨(a + bb, A4, nx + ny, c4), hsum⟩, Kx ++ Ky)) (by rw [← Int.natCast_add] at hown5; exact hown5) hg5 hof5
                    go_wp2
                    go_roundw
                    case rel =>
                      have hin9 : LensIn N (r ++ [(⟨(a + bb, A4, nx + ny, c4), hsum⟩, Kx ++ Ky)]) (inc o (Kx ++ Ky)) := .inr ⟨H2N.out, by simp, by
                        have h9 := Hmerge.out
                        unfold bare at h9 ⊢
                        rw [List.map_append]
                        exact h9⟩
                      have hol9 : (inc o (Kx ++ Ky)).length = k := by rw [inc_length]; exact Hol.out
                      repeat apply Exists.intro
                      exact ⟨⟨A5, c5, _, _, by rw [List.length_append]; rfl, stz, Lib.hid hin9, Lib.hid hol9⟩, rfl⟩
                    case measure =>
                      show r.length + 1 < M.length
                      omega
            · have hBlk : Blk ((w6.setCell ⟨w2.heap.size, 0, none⟩ (.int .i64 ((a : Int) + (bb : Int)))).setCell ⟨w2.heap.size, 1, none⟩ (.slice A4 (nx + ny) c4)) (w2.heap.size) 42 #[.int .i64 ((a : Int) + (bb : Int)), .slice A4 (nx + ny) c4] := (gz.set_ 0 (.int .i64 ((a : Int) + (bb : Int)))).set_ 1 (.slice A4 (nx + ny) c4)
              have hbf := (hbc.setCell (p := ⟨w2.heap.size, 0, none⟩) (Nat.le_refl _) (.int .i64 ((a : Int) + (bb : Int)))).setCell (p := ⟨w2.heap.size, 1, none⟩) (Nat.le_refl _) (.slice A4 (nx + ny) c4)
              have hof := (hof6.keep (KeepI.set gz 0 (.int .i64 ((a : Int) + (bb : Int))))).keep (KeepI.set (gz.set_ 0 (.int .i64 ((a : Int) + (bb : Int)))) 1 (.slice A4 (nx + ny) c4))
              generalize (w6.setCell ⟨w2.heap.size, 0, none⟩ (.int .i64 ((a : Int) + (bb : Int)))).setCell ⟨w2.heap.size, 1, none⟩ (.slice A4 (nx + ny) c4) = W at *
              clear gz z0 z1 zf0 zf1
              have st3 := st2.after hbf
              obtain ⟨d0, d1, _, _⟩ := blk_two hBlk
              clear hbf hof6 hown4 hbc hbz HcS HcSA HcAS KP KPa KPs
              go_wp2
              go_loopw [11, 68] (fun _ iv wq => ∃ j : Nat, j ≤ nx + ny ∧ iv = .int .i64 j ∧ LensSt w g wq (some ⟨b, off, none⟩) c1 ((⟨(a, Ax, nx, cx), hax⟩, Kx) :: (⟨(bb, Ay, ny, cy), hay⟩, Ky) :: r) (inc o ((Kx ++ Ky).take j)) ∧ Blk wq (w2.heap.size) 42 #[.int .i64 ((a : Int) + (bb : Int)), .slice A4 (nx + ny) c4] ∧ OfAt wq g A4 (nx + ny) (Kx ++ Ky)) (fun _ iv _ => nx + ny - (intOf iv).toNat)
              case atStart => exact ⟨0, Nat.zero_le _, rfl, st3, hBlk, hof⟩
              case round =>
                clear st3 hBlk hof d0 d1
                obtain ⟨j, hj, rfl, stj, hBk, hofj⟩ := hrel
                by_cases hlt : j < nx + ny
                · obtain ⟨b4, o4, cs, hA4, hb4g, hB4, hc4⟩ := hofj.2.resolve_left (by omega)
                  have c4j := (hB4.cell (o4 + j)).trans (hc4 j hlt)
                  subst hA4
                  have htk := take_succ_getD (Kx ++ Ky) j 0 (by rw [hkk]; exact hlt)
                  have hmm : (Kx ++ Ky).getD j 0 < o.length := Hmem.out _ (by rw [getD_some _ _ _ (by rw [hkk]; exact hlt)]; exact List.getElem_mem _)
                  obtain ⟨e1, f1⟩ := stj.outCell ((Kx ++ Ky).getD j 0) (by rw [inc_length]; exact hmm)
                  have hbd := Hinc.out j _ hmm
                  have hstep : inc o ((Kx ++ Ky).take (j + 1)) = (inc o ((Kx ++ Ky).take j)).set ((Kx ++ Ky).getD j 0) ((inc o ((Kx ++ Ky).take j)).getD ((Kx ++ Ky).getD j 0) 0 + 1) := by rw [htk, inc_snoc]
                  have stn := stj.put ((Kx ++ Ky).getD j 0) ((inc o ((Kx ++ Ky).take j)).getD ((Kx ++ Ky).getD j 0) 0 + 1)
                  rw [← hstep] at stn
                  have Stn := Lib.hid stn
                  have hofn := hofj
                  rw [Hol.out] at hmm
                  clear htk hstep stn hc4 hB4
                  generalize (inc o ((Kx ++ Ky).take j)).getD ((Kx ++ Ky).getD j 0) 0 = v at *
                  generalize (Kx ++ Ky).getD j 0 = m at *
                  have hmi : (m : Int) < (k : Int) := by omega
                  have wv : IntKind.i64.wrap ((v : Int) + 1) = (v : Int) + 1 := by rw [IntKind.wrap_i64]; omega
                  have hpg : w2.heap.size ≠ g := fun e => by
                    subst e
                    exact absurd (blk_type hBk stj.out) (by decide)
                  have hBn := hBk.far (p := ⟨g, m, none⟩) hpg (.int .i64 ((v : Int) + 1))
                  have hofn := hofj.store m (.int .i64 ((v : Int) + 1))
                  go_wp2
                  go_roundw
                  case rel => exact ⟨j + 1, by omega, by go_num, by have h9 := Stn.out; rwa [Int.natCast_add] at h9, hBn, hofn⟩
                  case measure => simp [intOf]; omega
                · obtain rfl : j = nx + ny := by omega
                  have hall : (Kx ++ Ky).take (nx + ny) = Kx ++ Ky := List.take_of_length_le (by rw [hkk]; exact Nat.le_refl _)
                  rw [hall] at stj
                  have strest := stj.rest
                  have hcap := stj.row.cap
                  have hx : OfAt wr g A4 (nx + ny) (Kx ++ Ky) := hofj
                  obtain ⟨d0, d1, _, _⟩ := blk_two hBk
                  have hl2' : r.length + 2 ≤ 12 := by rw [← hl2]; exact hM12
                  have hr8 : r.length ≤ 8000000000000 := by omega
                  have hr9 : (r.length + 1) * 32 ≤ 140737488355328 := by omega
                  have hb5 : Below wr.heap.size wr (wr.alloc (Obj.cells #[.int .i64 ((a : Int) + (bb : Int)), .slice A4 (nx + ny) c4] 42)).drew := ((Below.refl _ _).alloc (Nat.le_refl _) _).drew
                  have hz5 := Blk.new wr 42 #[.int .i64 ((a : Int) + (bb : Int)), .slice A4 (nx + ny) c4]
                  have hcl : ∀ i, i < 2 → (wr.alloc (Obj.cells #[.int .i64 ((a : Int) + (bb : Int)), .slice A4 (nx + ny) c4] 42)).drew.cell? ((⟨wr.heap.size, 0, none⟩ : Addr).add i) = ([.int .i64 ((a : Int) + (bb : Int)), .slice A4 (nx + ny) c4] : List Value)[i]? := fun i hi => by
                    rw [add_at, Nat.zero_add]
                    show (wr.alloc _).cell? _ = _
                    rw [hz5.cell, ← Array.getElem?_toList]
                  have hK : ∀ i, i < w.heap.size → i < (wr.alloc (Obj.cells #[.int .i64 ((a : Int) + (bb : Int)), .slice A4 (nx + ny) c4] 42)).drew.heap.size := fun i hi => Nat.lt_of_lt_of_le hi (Nat.le_trans stj.low.size hb5.size)
                  have hof5 := hx.keep (KeepI.below hb5)
                  have hc2 : 2 ≤ c1 := by have h9 : r.length + 2 ≤ c1 := hcap.1
                                          omega
                  have hc2i : (2 : Int) ≤ (c1 : Int) := by omega
                  have hrl : r.length + 2 ≤ c1 := hcap.1
                  have hrli : (r.length : Int) + 2 ≤ (c1 : Int) := by omega
                  have hi2 : (2 : Int) ≤ (r.length : Int) + 2 := by omega
                  clear stj hofj hx hBk hcap hz5
                  by_cases hce : c1 = 2
                  · obtain rfl : r = [] := List.eq_nil_of_length_eq_zero (by omega)
                    subst hce
                    rw [if_pos rfl] at strest
                    clear hrl hrli hi2 hc2 hc2i
                    have hrow3 : OwnK 42 2 (wr.alloc (Obj.cells #[.int .i64 ((a : Int) + (bb : Int)), .slice A4 (nx + ny) c4] 42)).drew (· < w.heap.size) (some ⟨b, off, none⟩) 0 (2 - 2) ((([] : LP).map fun x => x.1).flatMap cPil) := (strest.row.alloc _).drew
                    go_wp2
                    go_region_law
                      ((refine step_append_K rfl (.tmp 80) (.tmp 82) 40 rfl (· < w.heap.size) (.agg #[.int .i64 0, .slice none 0 0]) 32 infoPile Tryd.underlying40 rfl (by decide) (by decide) (some ⟨b, off, none⟩) 0 (2 - 2) _ rfl hrow3 ⟨wr.heap.size, 0, none⟩ 1 [.int .i64 ((a : Int) + (bb : Int)), .slice A4 (nx + ny) c4] rfl rfl (by simp [Value.oneCell']) hcl hr9 hr8 hK ?_; intro A5 c5 w5 hown5 hg5 hp5))
                    have stz := strest.push hb5 rfl (x := (⟨(a + bb, A4, nx + ny, c4), hsum⟩, Kx ++ Ky)) (by rw [← Int.natCast_add] at hown5; exact hown5) hg5 hof5
                    go_wp2
                    go_roundw
                    case rel =>
                      have hin9 : LensIn N (([] : LP) ++ [(⟨(a + bb, A4, nx + ny, c4), hsum⟩, Kx ++ Ky)]) (inc o (Kx ++ Ky)) := .inr ⟨H2N.out, by simp, by
                        have h9 := Hmerge.out
                        unfold bare at h9 ⊢
                        rw [List.map_append]
                        exact h9⟩
                      have hol9 : (inc o (Kx ++ Ky)).length = k := by rw [inc_length]; exact Hol.out
                      repeat apply Exists.intro
                      exact ⟨⟨A5, c5, _, _, by rw [List.length_append]; rfl, stz, Lib.hid hin9, Lib.hid hol9⟩, rfl⟩
                    case measure =>
                      have h9 : M.length = 2 := hl2
                      show 0 + 1 < M.length
                      omega

                  · rw [if_neg hce] at strest
                    have hrow3 : OwnK 42 2 (wr.alloc (Obj.cells #[.int .i64 ((a : Int) + (bb : Int)), .slice A4 (nx + ny) c4] 42)).drew (· < w.heap.size) (some ⟨b, off + 4, none⟩) r.length (c1 - 2) ((r.map fun x => x.1).flatMap cPil) := (strest.row.alloc _).drew
                    go_wp2
                    go_region_law
                      ((refine step_append_K rfl (.tmp 80) (.tmp 82) 40 rfl (· < w.heap.size) (.agg #[.int .i64 0, .slice none 0 0]) 32 infoPile Tryd.underlying40 rfl (by decide) (by decide) (some ⟨b, off + 4, none⟩) r.length (c1 - 2) _ rfl hrow3 ⟨wr.heap.size, 0, none⟩ 1 [.int .i64 ((a : Int) + (bb : Int)), .slice A4 (nx + ny) c4] rfl rfl (by simp [Value.oneCell']) hcl hr9 hr8 hK ?_; intro A5 c5 w5 hown5 hg5 hp5))
                    have stz := strest.push hb5 rfl (x := (⟨(a + bb, A4, nx + ny, c4), hsum⟩, Kx ++ Ky)) (by rw [← Int.natCast_add] at hown5; exact hown5) hg5 hof5
                    go_wp2
                    go_roundw
                    case rel =>
                      have hin9 : LensIn N (r ++ [(⟨(a + bb, A4, nx + ny, c4), hsum⟩, Kx ++ Ky)]) (inc o (Kx ++ Ky)) := .inr ⟨H2N.out, by simp, by
                        have h9 := Hmerge.out
                        unfold bare at h9 ⊢
                        rw [List.map_append]
                        exact h9⟩
                      have hol9 : (inc o (Kx ++ Ky)).length = k := by rw [inc_length]; exact Hol.out
                      repeat apply Exists.intro
                      exact ⟨⟨A5, c5, _, _, by rw [List.length_append]; rfl, stz, Lib.hid hin9, Lib.hid hol9⟩, rfl⟩
                    case measure =>
                      show r.length + 1 < M.length
                      omega
end Go.Proofs.YtlnobikecmgocaaDoor
