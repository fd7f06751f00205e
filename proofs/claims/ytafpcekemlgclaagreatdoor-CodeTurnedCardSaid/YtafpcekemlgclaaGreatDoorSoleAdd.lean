/- The walk of what code.Sole does with a word that is left over: two rows of strings grow, once each. -/
import Derived.Test.YtafpcekemlgclaaGreatDoorCodeFront
import Derived.Test.YtafpcekemlgclaaGreatDoorOwnL
import Derived.Test.YtafpcekemlgclaaGreatDoorContains
namespace Go.Proofs.YtafpcekemlgclaaGreatDoor
open Go.RowKit
set_option linter.unusedVariables false

/-- Two rows of strings of one's own, apart. -/
structure TwoS (w0 W : World) (B : Nat) (A : Option Addr) (n c : Nat) (l : List ByteArray) (A' : Option Addr) (n' c' : Nat) (l' : List ByteArray) : Prop where
  u : OwnL W (· < B) A n c l
  v : OwnL W (· < B) A' n' c' l'
  apart : ∀ k, (Value.slice A n c).ownBlock = some k → (Value.slice A' n' c').ownBlock ≠ some k
  kept : Below B w0 W
  big : B ≤ W.heap.size
section
variable {w0 W W' : World} {B n c n' c' c3 : Nat} {A A' A3 : Option Addr} {l l' : List ByteArray} {x : ByteArray}
theorem TwoS.alloc (h : TwoS w0 W B A n c l A' n' c' l') (o : Obj) : TwoS w0 (W.alloc o) B A n c l A' n' c' l' :=
  ⟨h.u.alloc o, h.v.alloc o, h.apart, h.kept.alloc h.big o, by simp; have := h.big; omega⟩
theorem TwoS.drew (h : TwoS w0 W B A n c l A' n' c' l') : TwoS w0 W.drew B A n c l A' n' c' l' := ⟨h.u, h.v, h.apart, h.kept.drew, h.big⟩
theorem TwoS.stepU (h : TwoS w0 W B A n c l A' n' c' l') (hown : OwnL W' (· < B) A3 (n + 1) c3 (l ++ [x])) (hg : W.grownBy W' (Value.slice A n c).ownBlock)
    (hp : ∀ k, (Value.slice A3 (n + 1) c3).ownBlock = some k → (Value.slice A n c).ownBlock = some k ∨ W.heap.size ≤ k) : TwoS w0 W' B A3 (n + 1) c3 (l ++ [x]) A' n' c' l' := by
  refine ⟨hown, h.v.grown hg (fun k hk hq => h.apart k hk hq), fun k hk hq => ?_, h.kept.grown hg h.big (fun g hk => by have := (h.u.lt g hk).1; omega), Nat.le_trans h.big hg.size⟩
  rcases hp k hk with h1 | h1
  · exact h.apart k h1 hq
  · have := (h.v.lt k hq).2; omega
theorem TwoS.swap (h : TwoS w0 W B A n c l A' n' c' l') : TwoS w0 W B A' n' c' l' A n c l := ⟨h.v, h.u, fun k h1 h2 => h.apart k h2 h1, h.kept, h.big⟩
theorem TwoS.stepV (h : TwoS w0 W B A n c l A' n' c' l') (hown : OwnL W' (· < B) A3 (n' + 1) c3 (l' ++ [x])) (hg : W.grownBy W' (Value.slice A' n' c').ownBlock)
    (hp : ∀ k, (Value.slice A3 (n' + 1) c3).ownBlock = some k → (Value.slice A' n' c').ownBlock = some k ∨ W.heap.size ≤ k) : TwoS w0 W' B A n c l A3 (n' + 1) c3 (l' ++ [x]) := (h.swap.stepU hown hg hp).swap
theorem TwoS.room (h : TwoS w0 W B A n c l A' n' c' l') : ∀ k, k < B → k < W.heap.size := fun k hk => Nat.lt_of_lt_of_le hk h.big
end
theorem newS_cell (W : World) (x : ByteArray) (t : TypeId) (g : Nat) (hg : g = W.heap.size) : (W.alloc (Obj.cells #[.string x] t)).drew.cell? ⟨g, 0, none⟩ = some (.string x) := by
  subst hg
  show (W.alloc _).cell? _ = _
  rw [World.cell?_alloc_mark]; rfl
theorem oldS_cell (W : World) (o : Obj) (v : Value) (g : Nat) (hg : g < W.heap.size) (h : W.drew.cell? ⟨g, 0, none⟩ = some v) : (W.alloc o).drew.cell? ⟨g, 0, none⟩ = some v :=
  (World.cell?_alloc_lt W o ⟨g, 0, none⟩ hg).trans h
theorem grownS_cell {W W' : World} {row : Option Nat} {g : Nat} {v : Value} (hg : W.grownBy W' row) (hl : g < W.heap.size) (hr : row ≠ some g) (h : W.cell? ⟨g, 0, none⟩ = some v) : W'.cell? ⟨g, 0, none⟩ = some v := by
  have := hg.block g hl (fun e => hr e.symm)
  rw [← h]
  simp only [World.cell?, this]

/-- Two boxes that hold two rows: what is seen, and what is to do. -/
structure SoleAt (W : World) (b : Nat) (S T : List ByteArray) : Prop where
  ex : ∃ (A : Option Addr) (n c : Nat) (A' : Option Addr) (n' c' : Nat), Blk W b 22 #[.slice A n c] ∧ Blk W (b + 1) 22 #[.slice A' n' c'] ∧ OwnL W (· < b + 2) A n c S ∧ OwnL W (· < b + 2) A' n' c' T ∧
    (∀ k, (Value.slice A n c).ownBlock = some k → (Value.slice A' n' c').ownBlock ≠ some k)
theorem SoleAt.after {W W' : World} {b : Nat} {S T : List ByteArray} (h : SoleAt W b S T) (hb : Below W.heap.size W W') : SoleAt W' b S T := by
  obtain ⟨A, n, c, A', n', c', h1, h2, h3, h4, h5⟩ := h.ex
  exact ⟨A, n, c, A', n', c', h1.after hb, h2.after hb, h3.after hb, h4.after hb, h5⟩
theorem SoleAt.of_two {w0 W : World} {b n c n' c' : Nat} {A A' : Option Addr} {S T : List ByteArray} {cs cs' : Array Value} (h1 : Blk w0 b 22 cs) (h2 : Blk w0 (b + 1) 22 cs') (e1 : cs.size = 1) (e2 : cs'.size = 1) (h : TwoS w0 W (b + 2) A n c S A' n' c' T) :
    SoleAt ((W.setCell ⟨b, 0, none⟩ (.slice A n c)).setCell ⟨b + 1, 0, none⟩ (.slice A' n' c')) b S T ∧ Below b w0 ((W.setCell ⟨b, 0, none⟩ (.slice A n c)).setCell ⟨b + 1, 0, none⟩ (.slice A' n' c')) := by
  have k1 := h1.below h.kept (by omega)
  have k2 := h2.below h.kept (by omega)
  have s1 : cs.setIfInBounds 0 (.slice A n c) = #[.slice A n c] := by
    refine Array.ext (by simp [e1]) fun j hj _ => ?_
    obtain rfl : j = 0 := by simp [e1] at hj; omega
    simp
  have s2 : cs'.setIfInBounds 0 (.slice A' n' c') = #[.slice A' n' c'] := by
    refine Array.ext (by simp [e2]) fun j hj _ => ?_
    obtain rfl : j = 0 := by simp [e2] at hj; omega
    simp
  have nu := h.u.ne_blk k1 (by decide)
  have nu2 := h.u.ne_blk k2 (by decide)
  have nv := h.v.ne_blk k1 (by decide)
  have nv2 := h.v.ne_blk k2 (by decide)
  refine ⟨⟨A, n, c, A', n', c', ?_, ?_, (h.u.far nu 0 _).far nu2 0 _, (h.v.far nv 0 _).far nv2 0 _, h.apart⟩, ?_⟩
  · have := (k1.set_ 0 (.slice A n c)).far (p := ⟨b + 1, 0, none⟩) (by show b ≠ b + 1; omega) (.slice A' n' c')
    rwa [s1] at this
  · have := (k2.far (p := ⟨b, 0, none⟩) (by show b + 1 ≠ b; omega) (.slice A n c)).set_ 0 (.slice A' n' c')
    rwa [s2] at this
  · exact ((h.kept.mono (show b ≤ b + 2 by omega)).setCell (p := ⟨b, 0, none⟩) (Nat.le_refl _) _).setCell (p := ⟨b + 1, 0, none⟩) (by show b ≤ b + 1; omega) _
/-- Both rows, when a word is added. -/
def addS (S : List ByteArray) (s : ByteArray) : List ByteArray := if hasB s S = true then S else S ++ [s]
def addT (S T : List ByteArray) (s : ByteArray) : List ByteArray := if hasB s S = true then T else T ++ [s]

set_option maxRecDepth 100000 in
set_option maxHeartbeats 8000000 in
theorem soleAdd (b : Nat) (s : ByteArray) (S T : List ByteArray) (w : World) (h : SoleAt w b S T) (hS : S.length ≤ 1000000) (hT : T.length ≤ 1000000) :
    Calls Tryz.prog 15 #[.string s, .pointer (some ⟨b, 0, none⟩), .pointer (some ⟨b + 1, 0, none⟩)] w fun e w' => e = .returned (.tuple #[]) ∧ SoleAt w' b (addS S s) (addT S T s) ∧ Below b w w' := by
  obtain ⟨A, n, c, A', n', c', h1, h2, h3, h4, h5⟩ := h.ex
  have c1 : w.cell? ⟨b, 0, none⟩ = some (.slice A n c) := h1.cell 0
  have c2 : w.cell? ⟨b + 1, 0, none⟩ = some (.slice A' n' c') := h2.cell 0
  have f1 : w.frozen? ⟨b, 0, none⟩ = false := h1.frozen 0
  have f2 : w.frozen? ⟨b + 1, 0, none⟩ = false := h2.frozen 0
  have hn8 : n ≤ 8000000000000 := by have := h3.1; omega
  have hm8 : n' ≤ 8000000000000 := by have := h4.1; omega
  have hBw : b + 2 ≤ w.heap.size := h2.lt
  have hrd : Reads w w.heap.size A n 1 (S.flatMap cStr) := by
    refine ⟨by rw [flat_length cStr 1 cStr_len, h3.1], fun hp => ?_⟩
    obtain ⟨g, o, hA, hg⟩ := h3.shape hp
    subst hA
    refine ⟨g, o, rfl, hg, fun j hj => ?_⟩
    rw [flat_length cStr 1 cStr_len, h3.1] at hj
    rw [h3.cell j (by omega)]
    have e1 := flat_getD cStr 1 cStr_len ByteArray.empty S j 0 (by rw [h3.1]; omega) (by omega)
    simp only [Nat.mul_one, Nat.add_zero] at e1
    rw [e1]; rfl
  have HCt := Lib.hid (containsStr_any s A n c w.heap.size S w (by omega) h3.1 hrd)
  by_cases hin : s ∈ S
  · have e1 : addS S s = S := by unfold addS; rw [if_pos (hasB_iff.2 hin)]
    have e2 : addT S T s = T := by unfold addT; rw [if_pos (hasB_iff.2 hin)]
    rw [e1, e2]
    rw [hasB_iff.2 hin] at HCt
    clear hin e1 e2 hrd
    go_enter Tryz.func15, Tryz.ntmps15
    go_wp2_with fail
    refine HCt.out.mono ?_
    rintro e w1 ⟨rfl, rfl⟩
    go_wp2
    refine bodyPost_end (v := .tuple #[]) (by simp [results, Tryz.results15, go_sem]) rfl ⟨rfl, h, Below.refl _ _⟩
  have e1 : addS S s = S ++ [s] := by unfold addS; rw [if_neg (fun h => hin (hasB_iff.1 h))]
  have e2 : addT S T s = T ++ [s] := by unfold addT; rw [if_neg (fun h => hin (hasB_iff.1 h))]
  rw [e1, e2]
  rw [hasB_no.2 hin] at HCt
  have T0 : TwoS w w (b + 2) A n c S A' n' c' T := ⟨h3, h4, h5, Below.refl _ _, hBw⟩
  clear hin e1 e2 hrd h3 h4 h5 h hS hT
  go_enter Tryz.func15, Tryz.ntmps15
  go_wp2_with fail
  refine HCt.out.mono ?_
  rintro e w1 ⟨rfl, rfl⟩
  go_wp2
  have TA := (T0.alloc (Obj.cells #[.string s] 9)).drew
  have TAB := ((T0.alloc (Obj.cells #[.string s] 9)).alloc (Obj.cells #[.string s] 9)).drew
  have cA : (w.alloc (Obj.cells #[.string s] 9)).drew.cell? ⟨w.heap.size, 0, none⟩ = some (.string s) := newS_cell w _ _ w.heap.size rfl
  have cAB2 : ((w.alloc (Obj.cells #[.string s] 9)).alloc (Obj.cells #[.string s] 9)).drew.cell? ⟨(w.heap.size + 1), 0, none⟩ = some (.string s) := newS_cell (w.alloc (Obj.cells #[.string s] 9)) _ _ (w.heap.size + 1) (by simp)
  have cAB1 : ((w.alloc (Obj.cells #[.string s] 9)).alloc (Obj.cells #[.string s] 9)).drew.cell? ⟨w.heap.size, 0, none⟩ = some (.string s) := oldS_cell (w.alloc (Obj.cells #[.string s] 9)) _ _ w.heap.size (by simp) (newS_cell w _ _ w.heap.size rfl)
  have hlAB1 : w.heap.size < ((w.alloc (Obj.cells #[.string s] 9)).alloc (Obj.cells #[.string s] 9)).drew.heap.size := by show _ < (World.alloc _ _).heap.size; simp; omega
  have hlAB2 : w.heap.size + 1 < ((w.alloc (Obj.cells #[.string s] 9)).alloc (Obj.cells #[.string s] 9)).drew.heap.size := by show _ < (World.alloc _ _).heap.size; simp
  have hru1 : (Value.slice A n c).ownBlock ≠ some w.heap.size := fun hg => by have := (T0.u.lt _ hg).2; omega
  have hru2 : (Value.slice A n c).ownBlock ≠ some (w.heap.size + 1) := fun hg => by have := (T0.u.lt _ hg).2; omega
  have hrv1 : (Value.slice A' n' c').ownBlock ≠ some w.heap.size := fun hg => by have := (T0.v.lt _ hg).2; omega
  have hrv2 : (Value.slice A' n' c').ownBlock ≠ some (w.heap.size + 1) := fun hg => by have := (T0.v.lt _ hg).2; omega
  have KS : ∀ W, Below (b + 2) w W → W.cell? ⟨b, 0, none⟩ = some (.slice A n c) ∧ W.cell? ⟨b + 1, 0, none⟩ = some (.slice A' n' c') := fun W hW =>
    ⟨(hW.cell (p := ⟨b, 0, none⟩) (by show b < b + 2; omega)).trans c1, (hW.cell (p := ⟨b + 1, 0, none⟩) (by show b + 1 < b + 2; omega)).trans c2⟩
  have FS : ∀ W, Below (b + 2) w W → W.frozen? ⟨b, 0, none⟩ = false ∧ W.frozen? ⟨b + 1, 0, none⟩ = false := fun W hW =>
    ⟨(hW.frozen (p := ⟨b, 0, none⟩) (by show b < b + 2; omega)).trans f1, (hW.frozen (p := ⟨b + 1, 0, none⟩) (by show b + 1 < b + 2; omega)).trans f2⟩
  obtain ⟨m1, m2⟩ := KS _ TA.kept
  obtain ⟨m3, m4⟩ := KS _ TAB.kept
  obtain ⟨m5, m6⟩ := KS _ T0.drew.kept
  have hb1 : b < w.heap.size := by omega
  have hb2 : b + 1 < w.heap.size := by omega
  go_region_law
    ((first
      | (refine step_append_L rfl (.tmp 8) (.tmp 10) 22 rfl (· < b + 2) infoStrE Tryz.underlying22 A n c S rfl TA.u ⟨w.heap.size, 0, none⟩ 1 s rfl cA rfl hn8 TA.room ?_; intro Aa ca Wa howna hga hpa; have Ta1 := TA.stepU howna hga hpa; obtain ⟨yTa11, yTa12⟩ := KS _ Ta1.kept; obtain ⟨vTa11, vTa12⟩ := KS _ (Ta1.alloc (Obj.cells #[.string s] 9)).kept)
      | (refine step_append_L rfl (.tmp 12) (.tmp 14) 22 rfl (· < b + 2) infoStrE Tryz.underlying22 A' n' c' T rfl TA.v ⟨w.heap.size, 0, none⟩ 1 s rfl cA rfl hm8 TA.room ?_; intro Ab cb Wb hownb hgb hpb; have Tb1 := TA.stepV hownb hgb hpb; obtain ⟨yTb11, yTb12⟩ := KS _ Tb1.kept; obtain ⟨vTb11, vTb12⟩ := KS _ (Tb1.alloc (Obj.cells #[.string s] 9)).kept)
      | (refine step_append_L rfl (.tmp 8) (.tmp 10) 22 rfl (· < b + 2) infoStrE Tryz.underlying22 A n c S rfl TAB.u ⟨w.heap.size, 0, none⟩ 1 s rfl cAB1 rfl hn8 TAB.room ?_; intro Aa ca Wa howna hga hpa; have Ta2 := TAB.stepU howna hga hpa; obtain ⟨yTa21, yTa22⟩ := KS _ Ta2.kept; obtain ⟨vTa21, vTa22⟩ := KS _ (Ta2.alloc (Obj.cells #[.string s] 9)).kept; have kb2 := grownS_cell hga hlAB2 hru2 cAB2)
      | (refine step_append_L rfl (.tmp 8) (.tmp 10) 22 rfl (· < b + 2) infoStrE Tryz.underlying22 A n c S rfl TAB.u ⟨w.heap.size + 1, 0, none⟩ 1 s rfl cAB2 rfl hn8 TAB.room ?_; intro Aa ca Wa howna hga hpa; have Ta3 := TAB.stepU howna hga hpa; obtain ⟨yTa31, yTa32⟩ := KS _ Ta3.kept; obtain ⟨vTa31, vTa32⟩ := KS _ (Ta3.alloc (Obj.cells #[.string s] 9)).kept; have kb3 := grownS_cell hga hlAB1 hru1 cAB1)
      | (refine step_append_L rfl (.tmp 12) (.tmp 14) 22 rfl (· < b + 2) infoStrE Tryz.underlying22 A' n' c' T rfl TAB.v ⟨w.heap.size + 1, 0, none⟩ 1 s rfl cAB2 rfl hm8 TAB.room ?_; intro Ab cb Wb hownb hgb hpb; have Tb2 := TAB.stepV hownb hgb hpb; obtain ⟨yTb21, yTb22⟩ := KS _ Tb2.kept; obtain ⟨vTb21, vTb22⟩ := KS _ (Tb2.alloc (Obj.cells #[.string s] 9)).kept; have ka2 := grownS_cell hgb hlAB1 hrv1 cAB1)
      | (refine step_append_L rfl (.tmp 12) (.tmp 14) 22 rfl (· < b + 2) infoStrE Tryz.underlying22 A' n' c' T rfl TAB.v ⟨w.heap.size, 0, none⟩ 1 s rfl cAB1 rfl hm8 TAB.room ?_; intro Ab cb Wb hownb hgb hpb; have Tb3 := TAB.stepV hownb hgb hpb; obtain ⟨yTb31, yTb32⟩ := KS _ Tb3.kept; obtain ⟨vTb31, vTb32⟩ := KS _ (Tb3.alloc (Obj.cells #[.string s] 9)).kept; have ka3 := grownS_cell hgb hlAB2 hrv2 cAB2)
      | (refine step_append_L rfl (.tmp 12) (.tmp 14) 22 rfl (· < b + 2) infoStrE Tryz.underlying22 A' n' c' T rfl (Ta1.alloc (Obj.cells #[.string s] 9)).v ⟨Wa.heap.size, 0, none⟩ 1 s rfl (newS_cell Wa _ _ Wa.heap.size rfl) rfl hm8 (Ta1.alloc (Obj.cells #[.string s] 9)).room ?_; intro Ab cb Wb hownb hgb hpb; have Tf := (Ta1.alloc (Obj.cells #[.string s] 9)).stepV hownb hgb hpb; obtain ⟨y1, y2⟩ := KS _ Tf.kept; obtain ⟨z1, z2⟩ := FS _ Tf.kept)
      | (refine step_append_L rfl (.tmp 8) (.tmp 10) 22 rfl (· < b + 2) infoStrE Tryz.underlying22 A n c S rfl (Tb1.alloc (Obj.cells #[.string s] 9)).u ⟨Wb.heap.size, 0, none⟩ 1 s rfl (newS_cell Wb _ _ Wb.heap.size rfl) rfl hn8 (Tb1.alloc (Obj.cells #[.string s] 9)).room ?_; intro Aa ca Wa howna hga hpa; have Tf := (Tb1.alloc (Obj.cells #[.string s] 9)).stepU howna hga hpa; obtain ⟨y1, y2⟩ := KS _ Tf.kept; obtain ⟨z1, z2⟩ := FS _ Tf.kept)
      | (refine step_append_L rfl (.tmp 12) (.tmp 14) 22 rfl (· < b + 2) infoStrE Tryz.underlying22 A' n' c' T rfl Ta2.v ⟨w.heap.size + 1, 0, none⟩ 1 s rfl kb2 rfl hm8 Ta2.room ?_; intro Ab cb Wb hownb hgb hpb; have Tf := Ta2.stepV hownb hgb hpb; obtain ⟨y1, y2⟩ := KS _ Tf.kept; obtain ⟨z1, z2⟩ := FS _ Tf.kept)
      | (refine step_append_L rfl (.tmp 12) (.tmp 14) 22 rfl (· < b + 2) infoStrE Tryz.underlying22 A' n' c' T rfl Ta3.v ⟨w.heap.size, 0, none⟩ 1 s rfl kb3 rfl hm8 Ta3.room ?_; intro Ab cb Wb hownb hgb hpb; have Tf := Ta3.stepV hownb hgb hpb; obtain ⟨y1, y2⟩ := KS _ Tf.kept; obtain ⟨z1, z2⟩ := FS _ Tf.kept)
      | (refine step_append_L rfl (.tmp 8) (.tmp 10) 22 rfl (· < b + 2) infoStrE Tryz.underlying22 A n c S rfl Tb2.u ⟨w.heap.size, 0, none⟩ 1 s rfl ka2 rfl hn8 Tb2.room ?_; intro Aa ca Wa howna hga hpa; have Tf := Tb2.stepU howna hga hpa; obtain ⟨y1, y2⟩ := KS _ Tf.kept; obtain ⟨z1, z2⟩ := FS _ Tf.kept)
      | (refine step_append_L rfl (.tmp 8) (.tmp 10) 22 rfl (· < b + 2) infoStrE Tryz.underlying22 A n c S rfl Tb3.u ⟨w.heap.size + 1, 0, none⟩ 1 s rfl ka3 rfl hn8 Tb3.room ?_; intro Aa ca Wa howna hga hpa; have Tf := Tb3.stepU howna hga hpa; obtain ⟨y1, y2⟩ := KS _ Tf.kept; obtain ⟨z1, z2⟩ := FS _ Tf.kept)))
  all_goals
    have hh := SoleAt.of_two h1 h2 rfl rfl Tf
    clear TA TAB cA cAB2 cAB1 hlAB1 hlAB2 hru1 hru2 hrv1 hrv2 KS FS T0 Tf
    refine bodyPost_end (v := .tuple #[]) (by simp [results, Tryz.results15, go_sem]) rfl ⟨rfl, hh.1, hh.2⟩
end Go.Proofs.YtafpcekemlgclaaGreatDoor
