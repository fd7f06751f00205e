/- quillkeep.spoil, of ints and of hits: a row of one's own and its spare memory. -/
import Derived.Test.YtkbogiijbmjbmaaLib
import Derived.Test.YtkbogiijbmjbmaaOwnK
import Derived.Test.YtkbogiijbmjbmaaStruct
import Derived.BigQuiet
namespace Go.Proofs.Ytkbogiijbmjbmaa
open Go.RowKit
set_option linter.unusedVariables false

theorem grown_setW {w wr : World} {g : Nat} (h : w.grownBy wr (some g)) (i : Nat) (u : Value) : w.grownBy (wr.setCell ⟨g, i, none⟩ u) (some g) :=
  ⟨h.os, h.tape, h.output, by rw [size_setCell]; exact h.size, fun k hk hne => (Below.heap_setCell wr _ u k (fun e => hne (by rw [e]))).trans (h.block k hk hne)⟩
theorem grown_reflW (w : World) (r : Option Nat) : w.grownBy w r := ⟨rfl, rfl, rfl, Nat.le_refl _, fun _ _ _ => rfl⟩
/-- A row of ints of one's own, no spare place behind it. -/
def IntsOwn (w : World) (base : Nat) (A : Option Addr) (n c : Nat) : Prop := (A = none ∧ n = 0 ∧ c = 0) ∨ ∃ g l, A = some ⟨g, 0, none⟩ ∧ base ≤ g ∧ c = n ∧ IntsAt w g l ∧ l.length = n
theorem IntsOwn.lt {w : World} {base n c : Nat} {A : Option Addr} (h : IntsOwn w base A n c) : ∀ k, (Value.slice A n c).ownBlock = some k → base ≤ k := fun k hk => by
  rcases h with ⟨rfl, _⟩ | ⟨g, l, rfl, hb, _⟩
  · cases hk
  · injection hk with hk; rw [← hk]; exact hb

theorem IntsOwn.top {w : World} {base n c : Nat} {A : Option Addr} (h : IntsOwn w base A n c) : ∀ k, (Value.slice A n c).ownBlock = some k → k < w.heap.size := fun k hk => by
  rcases h with ⟨rfl, _⟩ | ⟨g, l, rfl, hb, _, hat, _⟩
  · cases hk
  · injection hk with hk; rw [← hk]; exact hat.1
theorem IntsOwn.kept {w w' : World} {base n c : Nat} {A : Option Addr} (h : IntsOwn w base A n c) (hs : w.heap.size ≤ w'.heap.size) (hk : ∀ k, base ≤ k → k < w.heap.size → w'.heap[k]? = w.heap[k]?) : IntsOwn w' base A n c := by
  rcases h with h | ⟨g, l, hA, hb, hc, hat, hl⟩
  · exact .inl h
  · have hgk := hk g hb hat.1
    refine .inr ⟨g, l, hA, hb, hc, ⟨Nat.lt_of_lt_of_le hat.1 hs, fun j hj => ?_⟩, hl⟩
    have := hat.2 j hj
    simp only [World.cell?, World.frozen?, hgk] at this ⊢
    exact this
theorem IntsOwn.after {w w' : World} {base n c : Nat} {A : Option Addr} (h : IntsOwn w base A n c) (hb : Below w.heap.size w w') : IntsOwn w' base A n c := h.kept hb.size fun k _ hk => hb.block k hk
theorem IntsOwn.grown {w w' : World} {base n c : Nat} {A : Option Addr} {row : Option Nat} (h : IntsOwn w base A n c) (hg : w.grownBy w' row) (hp : ∀ k, row = some k → k < base) : IntsOwn w' base A n c :=
  h.kept hg.size fun k h1 h2 => hg.block k h2 (fun e => by have := hp k e.symm; omega)

set_option maxHeartbeats 1000000 in
theorem spoilInt_any (base : Nat) (A : Option Addr) (n c : Nat) (b : Int) (w : World) (h : IntsOwn w base A n c) (hn : n ≤ 1000000) :
    Calls Try.prog 13 #[.slice A n c, .int .i64 b] w fun e w' => e = .returned (.tuple #[]) ∧ w.grownBy w' (Value.slice A n c).ownBlock := by
  rcases h with ⟨rfl, rfl, rfl⟩ | ⟨g, l, rfl, _, rfl, hat, hl⟩
  · go_enter Try.func13, Try.ntmps13
    go_wp2
    go_loopw [4, 11] (fun _ iv wr => iv = .int .i64 0 ∧ w.grownBy wr none) (fun _ _ _ => 0)
    case atStart => exact ⟨rfl, grown_reflW w none⟩
    case round =>
      obtain ⟨rfl, hb⟩ := hrel
      go_wp2
      refine bodyPost_end (v := .tuple #[]) (by simp [results, Try.results13, go_sem]) rfl ⟨rfl, hb⟩
  · have Hl := Lib.hid hl
    clear hl
    go_enter Try.func13, Try.ntmps13
    go_wp2
    go_loopw [4, 11] (fun _ iv wr => ∃ (i : Nat) (cs : List Int), i ≤ c ∧ iv = .int .i64 i ∧ Hid (cs.length = c) ∧ IntsAt wr g cs ∧ w.grownBy wr (some g)) (fun _ iv _ => c - (intOf iv).toNat)
    case atStart => exact ⟨0, l, by omega, rfl, Hl, hat, grown_reflW w _⟩
    case round =>
      clear hat Hl
      obtain ⟨i, cs, hi, rfl, Hcs, hat, hbr⟩ := hrel
      by_cases hlt : i < c
      · obtain ⟨c0, f0⟩ := hat.2 i (by rw [Hcs.out]; exact hlt)
        have ilt : (i : Int) < c := by omega
        have hB2 := hat.set i (by rw [Hcs.out]; exact hlt) b
        have hg2 := grown_setW hbr i (.int .i64 b)
        go_wp2
        go_roundw
        case rel => exact ⟨i + 1, _, by omega, by go_num, Lib.hid (by rw [List.length_set]; exact Hcs.out), hB2, hg2⟩
        case measure => simp only [intOf]; omega
      · obtain rfl : i = c := by omega
        go_wp2
        refine bodyPost_end (v := .tuple #[]) (by simp [results, Try.results13, go_sem]) rfl ⟨rfl, hbr⟩

set_option maxHeartbeats 1000000 in
theorem spoilHit_any (K : Nat → Prop) (A : Option Addr) (n c : Nat) (xs : List Value) (k a : Int) (w : World) (h : OwnK 35 2 w K A n c xs) :
    Calls Try.prog 14 #[.slice A n c, .agg #[.int .i64 k, .int .i64 a]] w fun e w' => e = .returned (.tuple #[]) ∧ w.grownBy w' (Value.slice A n c).ownBlock := by
  rcases h.2 with ⟨rfl, rfl, rfl⟩ | ⟨g, o, cur, rfl, _, hG, hnc, hcm, hcs, _⟩
  · go_enter Try.func14, Try.ntmps14
    go_wp2
    go_loopw [4, 11] (fun _ iv wr => iv = .int .i64 0 ∧ w.grownBy wr none) (fun _ _ _ => 0)
    case atStart => exact ⟨rfl, World.grownBy_alloc w _ none⟩
    case round =>
      obtain ⟨rfl, hb⟩ := hrel
      go_wp2
      refine bodyPost_end (v := .tuple #[]) (by simp [results, Try.results14, go_sem]) rfl ⟨rfl, hb⟩
  · have hc : c ≤ 9223372036854775807 := by unfold maxLen at hcm; omega
    have hglt : g < w.heap.size := hG.lt
    have hX := Blk.new w 35 #[.int .i64 k, .int .i64 a]
    have hGX := hG.alloc (Obj.cells #[.int .i64 k, .int .i64 a] 35)
    have hgr := World.grownBy_alloc w (Obj.cells #[.int .i64 k, .int .i64 a] 35) (some g)
    clear h hG
    go_enter Try.func14, Try.ntmps14
    go_wp2
    go_loopw [4, 11] (fun _ iv wr => ∃ (i : Nat) (cs : Array Value), i ≤ c ∧ iv = .int .i64 i ∧ o + c * 2 ≤ cs.size ∧ Blk wr g 35 cs ∧ Blk wr w.heap.size 35 #[.int .i64 k, .int .i64 a] ∧ w.grownBy wr (some g)) (fun _ iv _ => c - (intOf iv).toNat)
    case atStart => exact ⟨0, cur, by omega, rfl, hcs, hGX, hX, hgr⟩
    case round =>
      obtain ⟨i, cs, hi, rfl, hcs, hB, hXr, hbr⟩ := hrel
      by_cases hlt : i < c
      · have x0 : wr.cell? ⟨w.heap.size, 0, none⟩ = some (.int .i64 k) := hXr.cell 0
        have x1 : wr.cell? ⟨w.heap.size, 1, none⟩ = some (.int .i64 a) := hXr.cell 1
        have c0 : wr.cell? ⟨g, o + i * 2, none⟩ = some (cs[o + i * 2]'(by omega)) := by rw [hB.cell, Array.getElem?_eq_getElem]
        have c1 : wr.cell? ⟨g, o + i * 2 + 1, none⟩ = some (cs[o + i * 2 + 1]'(by omega)) := by rw [hB.cell, Array.getElem?_eq_getElem]
        have f0 := hB.frozen (o + i * 2)
        have f1 := hB.frozen (o + i * 2 + 1)
        have ilt : (i : Int) < c := by omega
        have hne : g ≠ w.heap.size := by omega
        have hn2 : w.heap.size ≠ g := by omega
        have hB2 := (hB.set_ (o + i * 2) (.int .i64 k)).set_ (o + i * 2 + 1) (.int .i64 a)
        have hX2 := (hXr.far (p := ⟨g, o + i * 2, none⟩) hn2 (.int .i64 k)).far (p := ⟨g, o + i * 2 + 1, none⟩) hn2 (.int .i64 a)
        have hg2 := grown_setW (grown_setW hbr (o + i * 2) (.int .i64 k)) (o + i * 2 + 1) (.int .i64 a)
        have hs2 : o + c * 2 ≤ ((cs.setIfInBounds (o + i * 2) (.int .i64 k)).setIfInBounds (o + i * 2 + 1) (.int .i64 a)).size := by simpa using hcs
        have HS := Lib.hid hs2
        generalize h1 : cs[o + i * 2]'(by omega) = v1 at c0
        generalize h2 : cs[o + i * 2 + 1]'(by omega) = v2 at c1
        clear h1 h2 hs2 hcs
        go_wp2
        go_roundw
        case rel => exact ⟨i + 1, _, by omega, by go_num, HS.out, hB2, hX2, hg2⟩
        case measure => simp only [intOf]; omega
      · obtain rfl : i = c := by omega
        go_wp2
        refine bodyPost_end (v := .tuple #[]) (by simp [results, Try.results14, go_sem]) rfl ⟨rfl, hbr⟩
end Go.Proofs.Ytkbogiijbmjbmaa
