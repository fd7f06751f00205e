/- SameWord: every common subsequence is at most as long as returned, and the returned one is a common subsequence. -/
import Derived.Test.YtbcendaiakeabaaSameLaws
import Derived.Test.YtbcendaiakeabaaPlacesWalk
import Derived.Test.YtbcendaiakeabaaOwnU
import Derived.Test.YtbcendaiakeabaaGood
namespace Go.Proofs.Ytbcendaiakeabaa
open Go.RowKit
set_option linter.unusedVariables false

/-- Two rows of bytes of one's own, apart. -/
structure TwoU (w0 W : World) (B : Nat) (A : Option Addr) (n c : Nat) (l : List UInt8) (A' : Option Addr) (n' c' : Nat) (l' : List UInt8) : Prop where
  u : OwnU W (· < B) A n c l
  v : OwnU W (· < B) A' n' c' l'
  apart : ∀ k, (Value.slice A n c).ownBlock = some k → (Value.slice A' n' c').ownBlock ≠ some k
  kept : Below B w0 W
  big : B ≤ W.heap.size
section
variable {w0 W W' : World} {B n c n' c' c3 : Nat} {A A' A3 : Option Addr} {l l' : List UInt8} {x : UInt8}
theorem TwoU.alloc (h : TwoU w0 W B A n c l A' n' c' l') (o : Obj) : TwoU w0 (W.alloc o) B A n c l A' n' c' l' :=
  ⟨h.u.alloc o, h.v.alloc o, h.apart, h.kept.alloc h.big o, by simp; have := h.big; omega⟩
theorem TwoU.drew (h : TwoU w0 W B A n c l A' n' c' l') : TwoU w0 W.drew B A n c l A' n' c' l' := ⟨h.u, h.v, h.apart, h.kept.drew, h.big⟩
theorem TwoU.stepU (h : TwoU w0 W B A n c l A' n' c' l') (hown : OwnU W' (· < B) A3 (n + 1) c3 (l ++ [x])) (hg : W.grownBy W' (Value.slice A n c).ownBlock)
    (hp : ∀ k, (Value.slice A3 (n + 1) c3).ownBlock = some k → (Value.slice A n c).ownBlock = some k ∨ W.heap.size ≤ k) : TwoU w0 W' B A3 (n + 1) c3 (l ++ [x]) A' n' c' l' := by
  refine ⟨hown, h.v.grown hg (fun k hk hq => h.apart k hk hq), fun k hk hq => ?_, h.kept.grown hg h.big (fun g hk => by have := (h.u.lt g hk).1; omega), Nat.le_trans h.big hg.size⟩
  rcases hp k hk with h1 | h1
  · exact h.apart k h1 hq
  · have := (h.v.lt k hq).2; omega
theorem TwoU.swap (h : TwoU w0 W B A n c l A' n' c' l') : TwoU w0 W B A' n' c' l' A n c l := ⟨h.v, h.u, fun k h1 h2 => h.apart k h2 h1, h.kept, h.big⟩
theorem TwoU.stepV (h : TwoU w0 W B A n c l A' n' c' l') (hown : OwnU W' (· < B) A3 (n' + 1) c3 (l' ++ [x])) (hg : W.grownBy W' (Value.slice A' n' c').ownBlock)
    (hp : ∀ k, (Value.slice A3 (n' + 1) c3).ownBlock = some k → (Value.slice A' n' c').ownBlock = some k ∨ W.heap.size ≤ k) : TwoU w0 W' B A n c l A3 (n' + 1) c3 (l' ++ [x]) := (h.swap.stepU hown hg hp).swap
theorem TwoU.room (h : TwoU w0 W B A n c l A' n' c' l') : ∀ k, k < B → k < W.heap.size := fun k hk => Nat.lt_of_lt_of_le hk h.big
end

theorem new_cell (W : World) (x : UInt8) (t : TypeId) (g : Nat) (hg : g = W.heap.size) : (W.alloc (Obj.cells #[.int .u8 (x.toNat : Int)] t)).drew.cell? ⟨g, 0, none⟩ = some (b8 x) := by
  subst hg
  show (W.alloc _).cell? _ = _
  rw [World.cell?_alloc_mark]; rfl
theorem old_cell (W : World) (o : Obj) (v : Value) (g : Nat) (hg : g < W.heap.size) (h : W.drew.cell? ⟨g, 0, none⟩ = some v) : (W.alloc o).drew.cell? ⟨g, 0, none⟩ = some v :=
  (World.cell?_alloc_lt W o ⟨g, 0, none⟩ hg).trans h
theorem grown_cell {W W' : World} {row : Option Nat} {g : Nat} {v : Value} (hg : W.grownBy W' row) (hl : g < W.heap.size) (hr : row ≠ some g) (h : W.cell? ⟨g, 0, none⟩ = some v) : W'.cell? ⟨g, 0, none⟩ = some v := by
  have := hg.block g hl (fun e => hr e.symm)
  rw [← h]
  simp only [World.cell?, this]

set_option maxRecDepth 100000 in
set_option maxHeartbeats 16000000 in
theorem sameWord_walk (a b v0 : ByteArray) (ha : a.size ≤ 140737488351232) (hb : b.size ≤ 140737488351232) (hv : v0.size ≤ 140737488351232) {w : World} :
    Calls Try.prog 4 #[.string a, .string b, .string v0] w fun e w' => e = .returned (.bool true) ∧ Below w.heap.size w w' := by
  by_cases hs : a.size ≤ 200 ∧ b.size ≤ 200
  case neg =>
    have hs' : 200 < a.size ∨ 200 < b.size := by omega
    have H1 := Lib.hid (long_no a b hs')
    have H2 := Lib.hid (places_no a b hs')
    go_enter Try.func4, Try.ntmps4
    go_wp2_with fail
    refine (sames_any _).mono ?_
    rintro e w1 ⟨rfl, hb1⟩
    go_wp2_with fail
    refine (H1.out w1).mono ?_
    rintro e w2 ⟨rfl, rfl⟩
    go_wp2_with fail
    refine (H2.out w1).mono ?_
    rintro e w2 ⟨rfl, rfl⟩
    go_wp2
    go_ret
    exact ⟨rfl, hb1⟩
  obtain ⟨ha2, hb2⟩ := hs
  have hpl := places_ok a.data.toList b.data.toList
  have hplen := places_length a.data.toList b.data.toList
  obtain ⟨s1, s2, s3⟩ := places_sub a.data.toList b.data.toList
  have hmax := fun v => lcs_max a.data.toList b.data.toList v
  have hle := lcs_le_left a.data.toList b.data.toList
  have H1 := Lib.hid (long_ok a b ha2 hb2)
  have H2 := Lib.hid (places_walk a b ha2 hb2)
  have hmem := hpl.mem
  rw [← hplen] at hmax hle
  generalize placesOf a.data.toList b.data.toList = R at *
  have Hmem := Lib.hid hmem
  have Hs1 := Lib.hid s1
  have Hs2 := Lib.hid s2
  have Hs3 := Lib.hid s3
  have Hmax := Lib.hid hmax
  have Hlen := Lib.hid hplen
  obtain ⟨n, hn⟩ : ∃ n, n = R.length := ⟨_, rfl⟩
  have Hn := Lib.hid hn
  have hn200 : n ≤ 200 := by have e : a.data.toList.length = a.size := rfl; omega
  rw [← hn] at H2
  clear hpl hplen s1 s2 s3 hmax hle hmem hn
  go_enter Try.func4, Try.ntmps4
  go_wp2_with fail
  refine (sames_any _).mono ?_
  rintro e w1 ⟨rfl, hb1⟩
  go_wp2_with fail
  refine (H1.out w1).mono ?_
  rintro e w2 ⟨rfl, hb2'⟩
  go_wp2_with fail
  refine (H2.out w2).mono ?_
  rintro e w3 ⟨X, cx, Y, cy, rfl, rx, ry, hb3, hcx, hcy⟩
  have hbw3 := chain hb3 (chain hb2' hb1)
  clear hb1 hb2' hb3 H1 H2
  go_wp2
  obtain ⟨B, hB⟩ : ∃ B, B = w3.heap.size := ⟨_, rfl⟩
  rw [← hB] at rx ry
  have hwB : w.heap.size ≤ B := by rw [hB]; exact hbw3.size
  go_loopw [12, 13, 14, 53] (fun uv vv _ kv wr => ∃ (k : Nat) (A : Option Addr) (c : Nat) (A' : Option Addr) (c' : Nat), k ≤ n ∧ kv = .int .i64 k ∧ uv = .slice A k c ∧ vv = .slice A' k c' ∧
    TwoU w3 wr B A k c ((R.take k).map fun p => a.data.toList.getD p.1 0) A' k c' ((R.take k).map fun p => b.data.toList.getD p.2 0)) (fun _ _ _ kv _ => n - (intOf kv).toNat)
  case atStart => exact ⟨0, none, 0, none, 0, Nat.zero_le _, rfl, rfl, rfl, ⟨OwnU.nil _ _, OwnU.nil _ _, (fun k hk => by cases hk), (by rw [hB]; exact Below.refl _ _), by omega⟩⟩
  case round =>
    obtain ⟨k, A, c, A', c', hk, rfl, rfl, rfl, T0⟩ := hrel
    by_cases hlt : k < n
    · obtain ⟨bx, ox, rfl, hbx, hcX⟩ := (rx.below T0.kept).2 (by omega)
      obtain ⟨by_, oy, rfl, hby, hcY⟩ := (ry.below T0.kept).2 (by omega)
      have c1 := hcX (k * 1 + 0) (by rw [flat_length cInt 1 cInt_len, px_length, ← Hn.out]; omega)
      have c2 := hcY (k * 1 + 0) (by rw [flat_length cInt 1 cInt_len, py_length, ← Hn.out]; omega)
      rw [flat_getD cInt 1 cInt_len 0 _ k _ (by rw [px_length, ← Hn.out]; omega) (by omega)] at c1
      rw [flat_getD cInt 1 cInt_len 0 _ k _ (by rw [py_length, ← Hn.out]; omega) (by omega)] at c2
      simp only [cInt, List.getD_cons_zero, Nat.mul_one, Nat.add_zero] at c1 c2
      have hkR : k < R.length := by rw [← Hn.out]; exact hlt
      have hp := Hmem.out _ (List.getElem_mem hkR)
      have e1 : (px R).getD k 0 = ((R[k].1 : Nat) : Int) := by rw [getD_some _ _ _ (by rw [px_length]; exact hkR)]; simp [px]
      have e2 : (py R).getD k 0 = ((R[k].2 : Nat) : Int) := by rw [getD_some _ _ _ (by rw [py_length]; exact hkR)]; simp [py]
      have hu : (R.take (k + 1)).map (fun p => a.data.toList.getD p.1 0) = (R.take k).map (fun p => a.data.toList.getD p.1 0) ++ [a.data.toList.getD R[k].1 0] := by rw [List.take_succ_eq_append_getElem hkR, List.map_append]; rfl
      have hv' : (R.take (k + 1)).map (fun p => b.data.toList.getD p.2 0) = (R.take k).map (fun p => b.data.toList.getD p.2 0) ++ [b.data.toList.getD R[k].2 0] := by rw [List.take_succ_eq_append_getElem hkR, List.map_append]; rfl
      rw [e1] at c1
      rw [e2] at c2
      generalize R[k].1 = p at *
      generalize R[k].2 = q at *
      obtain ⟨_, hpa, _, hqb, _⟩ := hp
      have hpa' : p < a.size := hpa
      have hqb' : q < b.size := hqb
      rw [getD_some _ _ _ hpa, show a.data.toList[p] = a[p] from rfl] at hu
      rw [getD_some _ _ _ hqb, show b.data.toList[q] = b[q] from rfl] at hv'
      have Hu := Lib.hid hu
      have Hv := Lib.hid hv'
      have d1 : decide ((n : Int) ≤ (k : Int)) = false := decide_eq_false (by omega)
      have d2 : decide ((p : Int) < 0) = false := decide_eq_false (by omega)
      have d3 : decide ((a.size : Int) ≤ (p : Int)) = false := decide_eq_false (by omega)
      have d4 : decide ((q : Int) < 0) = false := decide_eq_false (by omega)
      have d5 : decide ((b.size : Int) ≤ (q : Int)) = false := decide_eq_false (by omega)
      have i1 : (k : Int) < (n : Int) := by omega
      have i2 : (p : Int) < (a.size : Int) := by omega
      have i3 : (q : Int) < (b.size : Int) := by omega
      clear hcX hcY e1 e2 hu hv' hpa hqb
      generalize hLu : (R.take k).map (fun p => a.data.toList.getD p.1 0) = Lu at *
      generalize hLv : (R.take k).map (fun p => b.data.toList.getD p.2 0) = Lv at *
      clear hLu hLv
      go_wp2
      have hk8 : k ≤ 8000000000000 := by omega
      have TA := (T0.alloc (Obj.cells #[.int .u8 (a[p].toNat : Int)] 5)).drew
      have TB := (T0.alloc (Obj.cells #[.int .u8 (b[q].toNat : Int)] 5)).drew
      have TAB := ((T0.alloc (Obj.cells #[.int .u8 (a[p].toNat : Int)] 5)).alloc (Obj.cells #[.int .u8 (b[q].toNat : Int)] 5)).drew
      have TBA := ((T0.alloc (Obj.cells #[.int .u8 (b[q].toNat : Int)] 5)).alloc (Obj.cells #[.int .u8 (a[p].toNat : Int)] 5)).drew
      have cA : (wr.alloc (Obj.cells #[.int .u8 (a[p].toNat : Int)] 5)).drew.cell? ⟨wr.heap.size, 0, none⟩ = some (b8 (a[p])) := new_cell wr _ _ wr.heap.size rfl
      have cB : (wr.alloc (Obj.cells #[.int .u8 (b[q].toNat : Int)] 5)).drew.cell? ⟨wr.heap.size, 0, none⟩ = some (b8 (b[q])) := new_cell wr _ _ wr.heap.size rfl
      have cAB2 : ((wr.alloc (Obj.cells #[.int .u8 (a[p].toNat : Int)] 5)).alloc (Obj.cells #[.int .u8 (b[q].toNat : Int)] 5)).drew.cell? ⟨(wr.heap.size + 1), 0, none⟩ = some (b8 (b[q])) := new_cell (wr.alloc (Obj.cells #[.int .u8 (a[p].toNat : Int)] 5)) _ _ (wr.heap.size + 1) (by simp)
      have cBA1 : ((wr.alloc (Obj.cells #[.int .u8 (b[q].toNat : Int)] 5)).alloc (Obj.cells #[.int .u8 (a[p].toNat : Int)] 5)).drew.cell? ⟨(wr.heap.size + 1), 0, none⟩ = some (b8 (a[p])) := new_cell (wr.alloc (Obj.cells #[.int .u8 (b[q].toNat : Int)] 5)) _ _ (wr.heap.size + 1) (by simp)
      have cAB1 : ((wr.alloc (Obj.cells #[.int .u8 (a[p].toNat : Int)] 5)).alloc (Obj.cells #[.int .u8 (b[q].toNat : Int)] 5)).drew.cell? ⟨wr.heap.size, 0, none⟩ = some (b8 (a[p])) := old_cell (wr.alloc (Obj.cells #[.int .u8 (a[p].toNat : Int)] 5)) _ _ wr.heap.size (by simp) (new_cell wr _ _ wr.heap.size rfl)
      have cBA2 : ((wr.alloc (Obj.cells #[.int .u8 (b[q].toNat : Int)] 5)).alloc (Obj.cells #[.int .u8 (a[p].toNat : Int)] 5)).drew.cell? ⟨wr.heap.size, 0, none⟩ = some (b8 (b[q])) := old_cell (wr.alloc (Obj.cells #[.int .u8 (b[q].toNat : Int)] 5)) _ _ wr.heap.size (by simp) (new_cell wr _ _ wr.heap.size rfl)
      have hlAB1 : wr.heap.size < ((wr.alloc (Obj.cells #[.int .u8 (a[p].toNat : Int)] 5)).alloc (Obj.cells #[.int .u8 (b[q].toNat : Int)] 5)).drew.heap.size := by show _ < (World.alloc _ _).heap.size; simp; omega
      have hlAB2 : wr.heap.size + 1 < ((wr.alloc (Obj.cells #[.int .u8 (a[p].toNat : Int)] 5)).alloc (Obj.cells #[.int .u8 (b[q].toNat : Int)] 5)).drew.heap.size := by show _ < (World.alloc _ _).heap.size; simp
      have hlBA1 : wr.heap.size < ((wr.alloc (Obj.cells #[.int .u8 (b[q].toNat : Int)] 5)).alloc (Obj.cells #[.int .u8 (a[p].toNat : Int)] 5)).drew.heap.size := by show _ < (World.alloc _ _).heap.size; simp; omega
      have hlBA2 : wr.heap.size + 1 < ((wr.alloc (Obj.cells #[.int .u8 (b[q].toNat : Int)] 5)).alloc (Obj.cells #[.int .u8 (a[p].toNat : Int)] 5)).drew.heap.size := by show _ < (World.alloc _ _).heap.size; simp
      have hru1 : (Value.slice A k c).ownBlock ≠ some wr.heap.size := fun hg => by have := (T0.u.lt _ hg).2; omega
      have hru2 : (Value.slice A k c).ownBlock ≠ some (wr.heap.size + 1) := fun hg => by have := (T0.u.lt _ hg).2; omega
      have hrv1 : (Value.slice A' k c').ownBlock ≠ some wr.heap.size := fun hg => by have := (T0.v.lt _ hg).2; omega
      have hrv2 : (Value.slice A' k c').ownBlock ≠ some (wr.heap.size + 1) := fun hg => by have := (T0.v.lt _ hg).2; omega
      have hnou : ∀ g, (Value.slice A k c).ownBlock = some g → ¬ wr.heap.size ≤ g := fun g hg => by have := (T0.u.lt g hg).2; omega
      have hnov : ∀ g, (Value.slice A' k c').ownBlock = some g → ¬ wr.heap.size ≤ g := fun g hg => by have := (T0.v.lt g hg).2; omega
      have KS : ∀ W, Below B w3 W → W.cell? ⟨bx, ox + k, none⟩ = some (.int .i64 (p : Int)) ∧ W.cell? ⟨by_, oy + k, none⟩ = some (.int .i64 (q : Int)) := fun W hW =>
        ⟨(hW.cell (by show bx < B; omega)).trans ((T0.kept.cell (by show bx < B; omega)).symm.trans c1), (hW.cell (by show by_ < B; omega)).trans ((T0.kept.cell (by show by_ < B; omega)).symm.trans c2)⟩
      go_region_held_law (fun W2 => W2.cell? ⟨bx, ox + k, none⟩ = some (.int .i64 (p : Int)) ∧ W2.cell? ⟨by_, oy + k, none⟩ = some (.int .i64 (q : Int)))
        (first | exact KS _ T0.kept | exact KS _ T0.drew.kept | exact KS _ TA.kept | exact KS _ TB.kept | exact KS _ TAB.kept | exact KS _ TBA.kept | exact KS _ Ta1.kept | exact KS _ Tb1.kept | exact KS _ Ta2.kept | exact KS _ Ta3.kept | exact KS _ Tb2.kept | exact KS _ Tb3.kept | exact KS _ (Ta1.alloc (Obj.cells #[.int .u8 (b[q].toNat : Int)] 5)).kept | exact KS _ (Tb1.alloc (Obj.cells #[.int .u8 (a[p].toNat : Int)] 5)).kept | exact KS _ Tf.kept | exact KS _ (T0.alloc (Obj.cells #[.int .u8 (a[p].toNat : Int)] 5)).kept | exact KS _ (T0.alloc (Obj.cells #[.int .u8 (b[q].toNat : Int)] 5)).kept | exact KS _ ((T0.alloc (Obj.cells #[.int .u8 (a[p].toNat : Int)] 5)).alloc (Obj.cells #[.int .u8 (b[q].toNat : Int)] 5)).kept | exact KS _ ((T0.alloc (Obj.cells #[.int .u8 (b[q].toNat : Int)] 5)).alloc (Obj.cells #[.int .u8 (a[p].toNat : Int)] 5)).kept)
        ((first
          | (refine step_append_U rfl (.tmp 92) (.tmp 99) 22 rfl (· < B) infoU8 Try.underlying22 A k c Lu rfl TA.u ⟨wr.heap.size, 0, none⟩ 1 (a[p]) rfl cA rfl hk8 TA.room ?_; intro Aa ca Wa howna hga hpa; have Ta1 := TA.stepU howna hga hpa)
          | (refine step_append_U rfl (.tmp 101) (.tmp 108) 22 rfl (· < B) infoU8 Try.underlying22 A' k c' Lv rfl TB.v ⟨wr.heap.size, 0, none⟩ 1 (b[q]) rfl cB rfl hk8 TB.room ?_; intro Ab cb Wb hownb hgb hpb; have Tb1 := TB.stepV hownb hgb hpb)
          | (refine step_append_U rfl (.tmp 92) (.tmp 99) 22 rfl (· < B) infoU8 Try.underlying22 A k c Lu rfl TAB.u ⟨wr.heap.size, 0, none⟩ 1 (a[p]) rfl cAB1 rfl hk8 TAB.room ?_; intro Aa ca Wa howna hga hpa; have Ta2 := TAB.stepU howna hga hpa; have kb2 := grown_cell hga hlAB2 hru2 cAB2)
          | (refine step_append_U rfl (.tmp 92) (.tmp 99) 22 rfl (· < B) infoU8 Try.underlying22 A k c Lu rfl TBA.u ⟨wr.heap.size + 1, 0, none⟩ 1 (a[p]) rfl cBA1 rfl hk8 TBA.room ?_; intro Aa ca Wa howna hga hpa; have Ta3 := TBA.stepU howna hga hpa; have kb3 := grown_cell hga hlBA1 hru1 cBA2)
          | (refine step_append_U rfl (.tmp 101) (.tmp 108) 22 rfl (· < B) infoU8 Try.underlying22 A' k c' Lv rfl TAB.v ⟨wr.heap.size + 1, 0, none⟩ 1 (b[q]) rfl cAB2 rfl hk8 TAB.room ?_; intro Ab cb Wb hownb hgb hpb; have Tb2 := TAB.stepV hownb hgb hpb; have ka2 := grown_cell hgb hlAB1 hrv1 cAB1)
          | (refine step_append_U rfl (.tmp 101) (.tmp 108) 22 rfl (· < B) infoU8 Try.underlying22 A' k c' Lv rfl TBA.v ⟨wr.heap.size, 0, none⟩ 1 (b[q]) rfl cBA2 rfl hk8 TBA.room ?_; intro Ab cb Wb hownb hgb hpb; have Tb3 := TBA.stepV hownb hgb hpb; have ka3 := grown_cell hgb hlBA2 hrv2 cBA1)
          | (refine step_append_U rfl (.tmp 101) (.tmp 108) 22 rfl (· < B) infoU8 Try.underlying22 A' k c' Lv rfl (Ta1.alloc (Obj.cells #[.int .u8 (b[q].toNat : Int)] 5)).v ⟨Wa.heap.size, 0, none⟩ 1 (b[q]) rfl (new_cell Wa _ _ Wa.heap.size rfl) rfl hk8 (Ta1.alloc (Obj.cells #[.int .u8 (b[q].toNat : Int)] 5)).room ?_; intro Ab cb Wb hownb hgb hpb; have Tf := (Ta1.alloc (Obj.cells #[.int .u8 (b[q].toNat : Int)] 5)).stepV hownb hgb hpb)
          | (refine step_append_U rfl (.tmp 92) (.tmp 99) 22 rfl (· < B) infoU8 Try.underlying22 A k c Lu rfl (Tb1.alloc (Obj.cells #[.int .u8 (a[p].toNat : Int)] 5)).u ⟨Wb.heap.size, 0, none⟩ 1 (a[p]) rfl (new_cell Wb _ _ Wb.heap.size rfl) rfl hk8 (Tb1.alloc (Obj.cells #[.int .u8 (a[p].toNat : Int)] 5)).room ?_; intro Aa ca Wa howna hga hpa; have Tf := (Tb1.alloc (Obj.cells #[.int .u8 (a[p].toNat : Int)] 5)).stepU howna hga hpa)
          | (refine step_append_U rfl (.tmp 101) (.tmp 108) 22 rfl (· < B) infoU8 Try.underlying22 A' k c' Lv rfl Ta2.v ⟨wr.heap.size + 1, 0, none⟩ 1 (b[q]) rfl kb2 rfl hk8 Ta2.room ?_; intro Ab cb Wb hownb hgb hpb; have Tf := Ta2.stepV hownb hgb hpb)
          | (refine step_append_U rfl (.tmp 101) (.tmp 108) 22 rfl (· < B) infoU8 Try.underlying22 A' k c' Lv rfl Ta3.v ⟨wr.heap.size, 0, none⟩ 1 (b[q]) rfl kb3 rfl hk8 Ta3.room ?_; intro Ab cb Wb hownb hgb hpb; have Tf := Ta3.stepV hownb hgb hpb)
          | (refine step_append_U rfl (.tmp 92) (.tmp 99) 22 rfl (· < B) infoU8 Try.underlying22 A k c Lu rfl Tb2.u ⟨wr.heap.size, 0, none⟩ 1 (a[p]) rfl ka2 rfl hk8 Tb2.room ?_; intro Aa ca Wa howna hga hpa; have Tf := Tb2.stepU howna hga hpa)
          | (refine step_append_U rfl (.tmp 92) (.tmp 99) 22 rfl (· < B) infoU8 Try.underlying22 A k c Lu rfl Tb3.u ⟨wr.heap.size + 1, 0, none⟩ 1 (a[p]) rfl ka3 rfl hk8 Tb3.room ?_; intro Aa ca Wa howna hga hpa; have Tf := Tb3.stepU howna hga hpa)))
      all_goals
        have hT2 : Hid (TwoU w3 _ B _ _ _ _ _ _ _ _) := Lib.hid Tf
        clear TA TB TAB TBA cA cB cAB2 cBA1 cAB1 cBA2 hlAB1 hlAB2 hlBA1 hlBA2 hru1 hru2 hrv1 hrv2 hnou hnov KS T0 Tf c1 c2 hga hgb hpa hpb howna hownb
        generalize World.drewN _ _ = Wf at *
        go_wp2
        go_roundw
        case rel => exact ⟨k + 1, _, _, _, _, by omega, by go_num, rfl, rfl, by rw [Hu.out, Hv.out]; exact hT2.out⟩
        case measure => simp [intOf]; omega
    · obtain rfl : n = k := by omega
      have hTk : R.take n = R := by rw [Hn.out]; exact List.take_length
      rw [hTk, ← Hs3.out] at T0
      have hUl : (R.map fun p => a.data.toList.getD p.1 0).length = n := by rw [List.length_map, Hn.out]
      have hsa := Hs1.out
      have hsb := Hs2.out
      rw [← Hs3.out] at hsb
      generalize (R.map fun p => a.data.toList.getD p.1 0) = U at *
      have cu : ∀ W, OwnU W (· < B) A n c U → (convert 22 9 (.slice A n c)).run Try.prog W = .ok (.string ⟨U.toArray⟩) W := fun W h => run_string_U 22 9 h Try.underlying22 Try.underlying5 Try.underlying9
      have cv : ∀ W, OwnU W (· < B) A' n c' U → (convert 22 9 (.slice A' n c')).run Try.prog W = .ok (.string ⟨U.toArray⟩) W := fun W h => run_string_U 22 9 h Try.underlying22 Try.underlying5 Try.underlying9
      have hss : (ByteArray.mk U.toArray).size ≤ 200 := by show U.length ≤ 200; omega
      have w1a := sameWithin_ok ⟨U.toArray⟩ a hss ha2
      have w1b := sameWithin_ok ⟨U.toArray⟩ b hss hb2
      rw [show (ByteArray.mk U.toArray).data.toList = U from rfl, decide_eq_true hsa] at w1a
      rw [show (ByteArray.mk U.toArray).data.toList = U from rfl, decide_eq_true hsb] at w1b
      have W1a := Lib.hid w1a
      have W1b := Lib.hid w1b
      have Cu := Lib.hid cu
      have Cv := Lib.hid cv
      have HUl := Lib.hid hUl
      have hcu := cu wr T0.u
      have hbwr : Below w.heap.size w wr := chain (T0.kept.mono (by rw [hB]; exact Nat.le_refl _)) hbw3
      clear w1a w1b cu cv hUl hTk hsa hsb hss
      generalize ByteArray.mk U.toArray = sU at *
      go_wp2_with fail
      refine (W1a.out _).mono ?_
      rintro e w5 ⟨rfl, hb5⟩
      have hcv := Cv.out w5 (T0.v.after hb5)
      clear hcu
      go_wp2_with fail
      refine (W1b.out _).mono ?_
      rintro e w6 ⟨rfl, hb6⟩
      clear hcv
      go_wp2_with fail
      refine (good_fresh [0, 0] 2 2 rfl (by decide) _ _).mono ?_
      rintro e w7 ⟨rfl, hb7⟩
      have q0 : ([0, 0] : List Int).all (· == 0) = true := by decide
      have hb67 := chain hb7 (chain hb6 hb5)
      have hcu := Cu.out w7 (T0.u.after hb67)
      have hcv := Cv.out w7 (T0.v.after hb67)
      have hbw7 := chain hb67 hbwr
      have q1 : (sU.toList != sU.toList) = false := by simp
      have q2 : ((n : Int) != ((lcs a.data.toList b.data.toList : Nat) : Int)) = false := by rw [bne_eq_false_iff_eq, Hn.out, Hlen.out]
      have hmax := Hmax.out v0.data.toList
      rw [Hlen.out] at hmax
      generalize lcs a.data.toList b.data.toList = LC at *
      clear hb5 hb6 hb7 hb67 hbwr W1a W1b Cu Cv
      by_cases hv2 : v0.size ≤ 200
      · have V1 := Lib.hid (sameWithin_ok v0 a hv2 ha2)
        have V2 := Lib.hid (sameWithin_ok v0 b hv2 hb2)
        have hfin : ∃ d1 d2 d3 : Bool, d1 = decide (v0.data.toList.Sublist a.data.toList) ∧ d2 = decide (v0.data.toList.Sublist b.data.toList) ∧ decide (v0.size ≤ LC) = d3 ∧ decide ((v0.size : Int) ≤ (LC : Int)) = d3 ∧ (d1 = true → d2 = true → d3 = true) := by
          refine ⟨_, _, _, rfl, rfl, rfl, by rw [decide_eq_decide]; omega, fun h1 h2 => ?_⟩
          exact decide_eq_true (hmax (of_decide_eq_true h1) (of_decide_eq_true h2))
        obtain ⟨d1, d2, d3, e1, e2, e3, e4, himp⟩ := hfin
        rw [← e1] at V1
        rw [← e2] at V2
        clear e1 e2 hmax
        have Himp := Lib.hid himp
        clear himp
        go_wp2_with fail
        refine (V1.out _).mono ?_
        rintro e w8 ⟨rfl, hb8⟩
        go_wp2_with fail
        refine (V2.out _).mono ?_
        rintro e w9 ⟨rfl, hb9⟩
        have hbw9 := chain hb9 (chain hb8 hbw7)
        clear hcu hcv
        cases d1 <;> cases d2 <;> cases d3 <;> first | (exfalso; exact absurd (Himp.out rfl rfl) (by decide)) | (go_wp2; go_ret; exact ⟨rfl, hbw9⟩)
      · have V1 := Lib.hid (sameWithin_no v0 a (.inl (by omega)))
        have V2 := Lib.hid (sameWithin_no v0 b (.inl (by omega)))
        go_wp2_with fail
        refine (V1.out _).mono ?_
        rintro e w8 ⟨rfl, rfl⟩
        go_wp2_with fail
        refine (V2.out _).mono ?_
        rintro e w9 ⟨rfl, rfl⟩
        clear hcu hcv
        go_wp2
        go_ret
        exact ⟨rfl, hbw7⟩
end Go.Proofs.Ytbcendaiakeabaa
