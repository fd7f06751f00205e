/- strings.Replacer's build, at the four strings "0", "1", "1", "0": a table of bytes. -/
import Derived.Test.YtafpcekemlgclaaGreatDoorOnceParts
import Derived.Test.YtafpcekemlgclaaGreatDoorStruct
namespace Go.Proofs.YtafpcekemlgclaaGreatDoor
open Go.RowKit
set_option linter.unusedVariables false

def rp0 : ByteArray := ⟨#[48]⟩
def rp1 : ByteArray := ⟨#[49]⟩
/-- The table: 0 and 1 change places. -/
def flipC (c : UInt8) : UInt8 := if c = 48 then 49 else if c = 49 then 48 else c
/-- A table of 256 bytes. -/
structure TabAt (w : World) (g : Nat) (f : Nat → Nat) : Prop where
  ex : ∃ cs, Blk w g 72 cs ∧ cs.size = 256 ∧ ∀ j, j < 256 → cs[j]? = some (.int .u8 (f j : Int))
/-- The first k of them are their own places. -/
def TabUp (w : World) (g : Nat) (k : Nat) : Prop := ∃ cs, Blk w g 72 cs ∧ cs.size = 256 ∧ ∀ j, j < k → cs[j]? = some (.int .u8 (j : Int))
theorem zero256 : ∀ w, (zeroValue 72).run Tryz.prog w = .ok (.agg (Array.replicate 256 (.int .u8 0))) w := fun w => by
  have h : (Tryz.prog.info? 72).map (fun i => i.zero) = some (some (.agg (Array.replicate 256 (.int .u8 0)))) := by kernel_rfl
  obtain ⟨i, hi, hz⟩ := Option.map_eq_some_iff.1 h
  simp [zeroValue, typeInfo, hi, hz]

theorem zeroTab : ∃ Z : Array Value, (∀ w, (zeroValue 72).run Tryz.prog w = .ok (.agg Z) w) ∧ Z.size = 256 ∧ (∀ j, j < 256 → Z[j]? = some (.int .u8 0)) ∧ ∀ u ∈ Z.toList, u.oneCell' = true := ⟨_, zero256, by simp, fun j hj => by rw [Array.getElem?_replicate, if_pos hj], fun u hu => by rw [Array.toList_replicate] at hu; rw [(List.mem_replicate.1 hu).2]; rfl⟩
theorem store_tab (w : World) (Z : Array Value) (h1 : ∀ u ∈ Z.toList, u.oneCell' = true) :
    ∃ W, (storeCells ⟨w.heap.size, 0, none⟩ Z.toList).run Tryz.prog (w.alloc (Obj.cells Z 72)) = .ok () W ∧ Blk W w.heap.size 72 Z ∧ Below w.heap.size w W := by
  have hg : (w.alloc (Obj.cells Z 72)).heap[w.heap.size]? = some (.cells Z 72 (0, 0)) := Blk.new w _ _
  have hst := run_storeCells_T Tryz.prog w.heap.size 0 72 (0, 0) Z.toList 0 Z (w.alloc (Obj.cells Z 72)) hg (fun i _ hh => by omega) (by simp) h1
  have hrow := setRow_heap (w.alloc (Obj.cells Z 72)) w.heap.size Z (Z.toList.take (0 + 0) ++ Z.toList ++ Z.toList.drop (0 + 0 + Z.toList.length)).toArray 72 (0, 0) hg
  have e : (Z.toList.take (0 + 0) ++ Z.toList ++ Z.toList.drop (0 + 0 + Z.toList.length)).toArray = Z := by
    have hd : Z.toList.drop (0 + 0 + Z.toList.length) = [] := List.drop_eq_nil_of_le (by omega)
    rw [hd]
    simp
  refine ⟨_, hst, ?_, rfl, rfl, rfl, ?_, fun k hk => ?_⟩
  · rw [e] at hrow ⊢; exact hrow
  · simp [World.setRow]
  · rw [setRow_other _ _ k _ (by omega)]
    exact Below.heap_alloc w _ k hk
def flip1 (j : Nat) : Nat := if j = 49 then 48 else j
def flipN (j : Nat) : Nat := if j = 48 then 49 else if j = 49 then 48 else j
set_option maxRecDepth 100000 in
set_option maxHeartbeats 2000000 in
theorem replBuild (gr g o c : Nat) (d s q : Value) (w : World) (hB : Blk w gr 49 #[d, s, q, .nilIface, .slice (some ⟨g, o, none⟩) 4 c])
    (h0 : w.cell? ⟨g, o, none⟩ = some (.string ⟨#[48]⟩)) (h1 : w.cell? ⟨g, o + 1, none⟩ = some (.string ⟨#[49]⟩)) (h2 : w.cell? ⟨g, o + 2, none⟩ = some (.string ⟨#[49]⟩)) (h3 : w.cell? ⟨g, o + 3, none⟩ = some (.string ⟨#[48]⟩)) (hg : g < w.heap.size) :
    Calls Tryz.prog 22 #[.pointer (some ⟨gr, 0, none⟩)] w fun e w' => e = .returned (.iface 73 (.pointer (some ⟨w.heap.size, 0, none⟩))) ∧ TabAt w' w.heap.size flipN ∧ Below w.heap.size w w' := by
  have c4 := hB.cell 4
  have h0' := h0
  have h1' := h1
  have h2' := h2
  have h3' := h3
  obtain ⟨Z, hz, hZs, hZ0, hZ1⟩ := zeroTab
  go_enter Tryz.func22, Tryz.ntmps22
  go_wp2
  go_loopw [4, 5] (fun av iv wr => av = .bool true ∧ w = wr ∧ (iv = .int .i64 0 ∨ iv = .int .i64 2 ∨ iv = .int .i64 4)) (fun _ iv _ => 4 - (intOf iv).toNat)
  case atStart => exact ⟨rfl, rfl, .inl rfl⟩
  case round =>
    obtain ⟨rfl, rfl, rfl | rfl | rfl⟩ := hrel
    · go_wp2
      go_roundw
      case rel => simp
      case measure => simp [intOf]
    · go_wp2
      go_roundw
      case rel => simp
      case measure => simp [intOf]
    · have hgw := hg
      obtain ⟨W, hst, hWb, hWB⟩ := store_tab w Z hZ1
      have hZc : ∀ j, j < 256 → Z[j]? = some (.int .u8 0) := hZ0
      go_wp2
      go_loopw [7, 61] (fun _ iv wr => ∃ (k : Nat) (cs : Array Value), k ≤ 256 ∧ iv = .int .i64 k ∧ cs.size = 256 ∧ (∀ j, j < k → cs[j]? = some (.int .u8 (j : Int))) ∧ Blk wr w.heap.size 72 cs ∧ Below w.heap.size w wr) (fun _ iv _ => 256 - (intOf iv).toNat)
      case atStart => exact ⟨0, Z, Nat.zero_le _, rfl, hZs, fun j hj => absurd hj (Nat.not_lt_zero _), hWb, hWB⟩
      case round =>
        clear hst hWb hWB hZc
        obtain ⟨k, cs, hk, rfl, hcs, hall, hT, hbk⟩ := hrel
        by_cases hlt : k < 256
        · have f0 := hT.frozen k
          have x0 : wr.cell? ⟨w.heap.size, k, none⟩ = some (cs[k]'(by omega)) := by rw [hT.cell, Array.getElem?_eq_getElem (by omega)]
          generalize hck : cs[k]'(by omega) = ck at x0
          have hT2 := hT.set_ k (.int .u8 (k : Int))
          have hs2 : (cs.setIfInBounds k (.int .u8 (k : Int))).size = 256 := by simpa using hcs
          have hall2 : ∀ j, j < k + 1 → (cs.setIfInBounds k (.int .u8 (k : Int)))[j]? = some (.int .u8 (j : Int)) := fun j hj => by
            by_cases e : j = k
            · subst e; rw [Array.getElem?_setIfInBounds_self_of_lt (by omega)]
            · rw [Array.getElem?_setIfInBounds_ne (by omega)]; exact hall j (by omega)
          have hb2 := hbk.setCell (p := ⟨w.heap.size, k, none⟩) (Nat.le_refl _) (.int .u8 (k : Int))
          have q1 : IntKind.u8.wrap (k : Int) = (k : Int) := by
            rw [IntKind.wrap_u8]; omega
          have q2 : (k : Int) < 256 := by omega
          have q3 : (0 : Int) ≤ (k : Int) := by omega
          have Hs2 := Lib.hid hs2
          have Hall2 := Lib.hid hall2
          clear hck hs2 hall2 hall hcs
          go_wp2
          go_roundw
          case rel => exact ⟨k + 1, _, by omega, by go_num, Hs2.out, Hall2.out, hT2, hb2⟩
          case measure => simp only [intOf]; omega
        · obtain rfl : k = 256 := by omega
          clear hlt hk
          have Hcs := Lib.hid hcs
          have Hall := Lib.hid hall
          have hx0 := h0
          clear hcs hall
          have g0 := (hbk.cell hg).trans h0
          have g1 := (hbk.cell hg).trans h1
          have g2 := (hbk.cell hg).trans h2
          have g3 := (hbk.cell hg).trans h3
          clear h0 h1 h2 h3 hx0
          go_wp2
          go_loopw [8, 9, 10] (fun iv _ _ w2 => ∃ (cs : Array Value), cs.size = 256 ∧ Blk w2 w.heap.size 72 cs ∧ Below w.heap.size w w2 ∧ ((iv = .int .i64 2 ∧ ∀ j, j < 256 → cs[j]? = some (.int .u8 (id j : Nat))) ∨ (iv = .int .i64 0 ∧ ∀ j, j < 256 → cs[j]? = some (.int .u8 (flip1 j : Int))) ∨ (iv = .int .i64 (-2) ∧ ∀ j, j < 256 → cs[j]? = some (.int .u8 (flipN j : Int))))) (fun iv _ _ _ => (intOf iv + 2).toNat)
          case atStart => exact ⟨cs, Hcs.out, hT, hbk, .inl ⟨rfl, Hall.out⟩⟩
          case round =>
            have qb1 : ((⟨#[49]⟩ : ByteArray)[0]'(by decide)).toNat = 49 := rfl
            have qb0 : ((⟨#[48]⟩ : ByteArray)[0]'(by decide)).toNat = 48 := rfl
            have HG := Lib.hid (And.intro h0' (And.intro h1' (And.intro h2' h3')))
            clear hT hbk Hcs Hall
            obtain ⟨cs2, hs2, hT2, hb2, ⟨rfl, hf⟩ | ⟨rfl, hf⟩ | ⟨rfl, hf⟩⟩ := hrel
            · have y0 : wr.cell? ⟨w.heap.size, 49, none⟩ = some (.int .u8 (id 49 : Nat)) := by rw [hT2.cell]; exact hf 49 (by decide)
              have f0 := hT2.frozen 49
              have z1 := (hb2.cell hg).trans HG.out.2.2.1
              have z2 := (hb2.cell hg).trans HG.out.2.2.2
              have hT3 := hT2.set_ 49 (.int .u8 48)
              have hb3 := hb2.setCell (p := ⟨w.heap.size, 49, none⟩) (Nat.le_refl _) (.int .u8 48)
              have hs3 : (cs2.setIfInBounds 49 (.int .u8 48)).size = 256 := by simpa using hs2
              have hf3 : ∀ j, j < 256 → (cs2.setIfInBounds 49 (.int .u8 48))[j]? = some (.int .u8 (flip1 j : Int)) := fun j hj => by
                by_cases e : j = 49
                · subst e; rw [Array.getElem?_setIfInBounds_self_of_lt (by omega)]; rfl
                · rw [Array.getElem?_setIfInBounds_ne (by omega), hf j hj]
                  congr 2
                  unfold flip1 
                  simp only [id]; rw [if_neg e]
              have Hs3 := Lib.hid hs3
              have Hf3 := Lib.hid hf3
              clear hs3 hf3 hf hs2 g0 g1 g2 g3
              go_wp2
              go_roundw
              case rel => exact ⟨_, Hs3.out, hT3, hb3, .inr (.inl ⟨rfl, Hf3.out⟩)⟩
              case measure => simp [intOf]
            · have y0 : wr.cell? ⟨w.heap.size, 48, none⟩ = some (.int .u8 (flip1 48 : Nat)) := by rw [hT2.cell]; exact hf 48 (by decide)
              have f0 := hT2.frozen 48
              have z1 := (hb2.cell hg).trans HG.out.1
              have z2 := (hb2.cell hg).trans HG.out.2.1
              have hT3 := hT2.set_ 48 (.int .u8 49)
              have hb3 := hb2.setCell (p := ⟨w.heap.size, 48, none⟩) (Nat.le_refl _) (.int .u8 49)
              have hs3 : (cs2.setIfInBounds 48 (.int .u8 49)).size = 256 := by simpa using hs2
              have hf3 : ∀ j, j < 256 → (cs2.setIfInBounds 48 (.int .u8 49))[j]? = some (.int .u8 (flipN j : Int)) := fun j hj => by
                by_cases e : j = 48
                · subst e; rw [Array.getElem?_setIfInBounds_self_of_lt (by omega)]; rfl
                · rw [Array.getElem?_setIfInBounds_ne (by omega), hf j hj]
                  congr 2
                  unfold flipN flip1
                  rw [if_neg e]
              have Hs3 := Lib.hid hs3
              have Hf3 := Lib.hid hf3
              clear hs3 hf3 hf hs2 g0 g1 g2 g3
              go_wp2
              go_roundw
              case rel => exact ⟨_, Hs3.out, hT3, hb3, .inr (.inr ⟨rfl, Hf3.out⟩)⟩
              case measure => simp [intOf]
            · have Hf := Lib.hid hf
              have Hs := Lib.hid hs2
              clear hf hs2 g0 g1 g2 g3
              go_wp2
              go_ret
              exact ⟨rfl, ⟨cs2, hT2, Hs.out, Hf.out⟩, hb2⟩
end Go.Proofs.YtafpcekemlgclaaGreatDoor
