import Derived.Test.YtaogegpfapfchaaGreatDoorDeskM10
import Derived.Test.YtaogegpfapfchaaGreatDoorDeskM17
import Derived.Deep.RegionHeldLaw
import Derived.Deep.RegionLaw
import Derived.BigRegion
/- Several texts in one: XEditor. -/
/- An editor of a text: how it lies in memory, and its methods' walks. -/
namespace Go.Proofs.YtaogegpfapfchaaGreatDoor
open Go.RowKit
set_option linter.unusedVariables false

/-- An editor lies there: its text, and what is kept to go back and onward. -/
structure EdAt (w : World) (K : Nat → Prop) (g : Nat) (s : ByteArray) (B O : List ByteArray) : Prop where
  ex : ∃ (Ab : Option Addr) (nb cb : Nat) (Ao : Option Addr) (no co : Nat), Blk w g 136 #[.string s, .slice Ab nb cb, .slice Ao no co] ∧ OwnS w K Ab nb cb B ∧ OwnS w K Ao no co O ∧
    (∀ k, (Value.slice Ab nb cb).ownBlock = some k → (Value.slice Ao no co).ownBlock ≠ some k)
  off : ¬ K g
theorem EdAt.lt {w : World} {K : Nat → Prop} {g : Nat} {s : ByteArray} {B O : List ByteArray} (h : EdAt w K g s B O) : g < w.heap.size := by
  obtain ⟨⟨_, _, _, _, _, _, h, _⟩, _⟩ := h
  exact h.lt
theorem EdAt.after {w w' : World} {K : Nat → Prop} {g : Nat} {s : ByteArray} {B O : List ByteArray} (h : EdAt w K g s B O) (hb : Below w.heap.size w w') : EdAt w' K g s B O := by
  obtain ⟨⟨Ab, nb, cb, Ao, no, co, h1, h2, h3, h4⟩, h5⟩ := h
  exact ⟨⟨Ab, nb, cb, Ao, no, co, h1.after hb, h2.after hb, h3.after hb, h4⟩, h5⟩
/-- Other blocks are to be kept: such as are not the editor's own. -/
theorem EdAt.weak {w : World} {K K' : Nat → Prop} {g : Nat} {s : ByteArray} {B O : List ByteArray} (h : EdAt w K g s B O) (hK : ∀ k, K' k → K k ∨ w.heap.size ≤ k) : EdAt w K' g s B O := by
  have hg := h.lt
  obtain ⟨⟨Ab, nb, cb, Ao, no, co, h1, h2, h3, h4⟩, h5⟩ := h
  refine ⟨⟨Ab, nb, cb, Ao, no, co, h1, h2.weak fun k hk hq => ?_, h3.weak fun k hk hq => ?_, h4⟩, fun hq => ?_⟩
  · have := h2.lt k hk
    rcases hK k hq with h | h
    · exact this.1 h
    · omega
  · have := h3.lt k hk
    rcases hK k hq with h | h
    · exact this.1 h
    · omega
  · rcases hK g hq with h | h
    · exact h5 h
    · omega

theorem EdAt.grown {w w' : World} {K : Nat → Prop} {g : Nat} {s : ByteArray} {B O : List ByteArray} {row : Option Nat} (h : EdAt w K g s B O) (hg : w.grownBy w' row) (hrow : ∀ k, row = some k → K k) : EdAt w' K g s B O := by
  obtain ⟨⟨Ab, nb, cb, Ao, no, co, h1, h2, h3, h4⟩, h5⟩ := h
  exact ⟨⟨Ab, nb, cb, Ao, no, co, h1.grown hg (fun hq => h5 (hrow g hq)), h2.grown hg (fun k hk hq => (h2.lt k hq).1 (hrow k hk)), h3.grown hg (fun k hk hq => (h3.lt k hq).1 (hrow k hk)), h4⟩, h5⟩

theorem text_any (g : Nat) (s : ByteArray) (B O : List ByteArray) (K : Nat → Prop) (w : World) (h : EdAt w K g s B O) :
    Calls Tryz.prog 57 #[.pointer (some ⟨g, 0, none⟩)] w fun e w' => e = .returned (.string s) ∧ w = w' := by
  obtain ⟨⟨Ab, nb, cb, Ao, no, co, h1, h2, h3, h4⟩, h5⟩ := h
  have c0 : w.cell? ⟨g, 0, none⟩ = some (.string s) := h1.cell 0
  go_enter Tryz.func57, Tryz.ntmps57
  go_wp2
  go_ret
  exact ⟨rfl, rfl⟩
theorem newE_ok (s : ByteArray) (hs : s.size ≤ 200) (K : Nat → Prop) (w : World) (hK : ∀ k, K k → k < w.heap.size) :
    Calls Tryz.prog 62 #[.string s] w fun e w' => e = .returned (.tuple #[.pointer (some ⟨w.heap.size, 0, none⟩), .int .i64 0]) ∧ EdAt w' K w.heap.size s [] [] ∧ Below w.heap.size w w' ∧ w'.heap.size = w.heap.size + 1 := by
  have q1 : decide (200 < (s.size : Int)) = false := decide_eq_false (by omega)
  have q1' : decide (200 < s.size) = false := decide_eq_false (by omega)
  go_enter Tryz.func62, Tryz.ntmps62
  go_wp2
  go_ret2
  exact ⟨rfl, ⟨⟨none, 0, 0, none, 0, 0, Blk.new w _ _, OwnS.nil _ _, OwnS.nil _ _, fun k hk => by cases hk⟩, fun hk => Nat.lt_irrefl _ (hK _ hk)⟩, (Below.refl w.heap.size w).alloc (Nat.le_refl _) _, by simp⟩
theorem newE_no (s : ByteArray) (hs : 200 < s.size) (w : World) :
    Calls Tryz.prog 62 #[.string s] w fun e w' => e = .returned (.tuple #[.pointer none, .int .i64 2]) ∧ w = w' := by
  have q1 : decide (200 < (s.size : Int)) = true := decide_eq_true (by omega)
  have q1' : decide (200 < s.size) = true := decide_eq_true (by omega)
  go_enter Tryz.func62, Tryz.ntmps62
  go_wp2
  go_ret2
  exact ⟨rfl, rfl⟩

theorem undo_no (g : Nat) (s : ByteArray) (O : List ByteArray) (K : Nat → Prop) (w : World) (h : EdAt w K g s [] O) :
    Calls Tryz.prog 97 #[.pointer (some ⟨g, 0, none⟩)] w fun e w' => e = .returned (.int .i64 4) ∧ Below w.heap.size w w' := by
  obtain ⟨⟨Ab, nb, cb, Ao, no, co, h1, h2, h3, h4⟩, h5⟩ := h
  have c1 : w.cell? ⟨g, 1, none⟩ = some (.slice Ab nb cb) := h1.cell 1
  have hn0 : nb = 0 := h2.1.symm
  subst hn0
  go_enter Tryz.func97, Tryz.ntmps97
  go_wp2
  go_ret
  exact ⟨rfl, Below.refl _ _⟩
theorem redo_no (g : Nat) (s : ByteArray) (B : List ByteArray) (K : Nat → Prop) (w : World) (h : EdAt w K g s B []) :
    Calls Tryz.prog 98 #[.pointer (some ⟨g, 0, none⟩)] w fun e w' => e = .returned (.int .i64 4) ∧ Below w.heap.size w w' := by
  obtain ⟨⟨Ab, nb, cb, Ao, no, co, h1, h2, h3, h4⟩, h5⟩ := h
  have c1 : w.cell? ⟨g, 2, none⟩ = some (.slice Ao no co) := h1.cell 2
  have hn0 : no = 0 := h3.1.symm
  subst hn0
  go_enter Tryz.func98, Tryz.ntmps98
  go_wp2
  go_ret
  exact ⟨rfl, Below.refl _ _⟩
set_option maxHeartbeats 1000000 in
theorem do_no (g : Nat) (s : ByteArray) (hs : s.size ≤ 140737488355328) (B O : List ByteArray) (K : Nat → Prop) (w : World) (h : EdAt w K g s B O) (A : Option Addr) (len c B0 : Nat) (l : List Ed) (hlen : len ≤ 4398046511104) (hl : l.length = len) (ho : ∀ x ∈ l, (-9223372036854775808 ≤ x.1 ∧ x.1 ≤ 9223372036854775807) ∧ (-9223372036854775808 ≤ x.2.1 ∧ x.2.1 ≤ 9223372036854775807) ∧ (x.2.2).size ≤ 140737488351232)
    (E : Int) (hE : checkE s.size l = E) (hE0 : E ≠ 0) (hr : Reads w B0 A len 3 (l.flatMap cEdit)) (hB0 : B0 ≤ w.heap.size) :
    Calls Tryz.prog 94 #[.pointer (some ⟨g, 0, none⟩), .slice A len c] w fun e w' => e = .returned (.int .i64 E) ∧ Below w.heap.size w w' := by
  obtain ⟨⟨Ab, nb, cb, Ao, no, co, h1, h2, h3, h4⟩, h5⟩ := h
  have c0 : w.cell? ⟨g, 0, none⟩ = some (.string s) := h1.cell 0
  have Hap := Lib.hid (apply_no s hs A len c B0 l hlen hl ho E hE hE0 w hr hB0)
  have q0 : (E != 0) = true := by simpa using hE0
  clear ho hE hr hl
  go_enter Tryz.func94, Tryz.ntmps94
  go_wp2_with fail
  refine Hap.out.mono ?_
  rintro e w1 ⟨rfl, hb1⟩
  go_wp2
  go_ret
  exact ⟨rfl, hb1⟩
set_option maxHeartbeats 1000000 in
theorem do_nil (g : Nat) (s : ByteArray) (hs : s.size ≤ 200) (B O : List ByteArray) (K : Nat → Prop) (w : World) (h : EdAt w K g s B O) (A : Option Addr) (c : Nat) :
    Calls Tryz.prog 94 #[.pointer (some ⟨g, 0, none⟩), .slice A 0 c] w fun e w' => e = .returned (.int .i64 5) ∧ Below w.heap.size w w' := by
  obtain ⟨⟨Ab, nb, cb, Ao, no, co, h1, h2, h3, h4⟩, h5⟩ := h
  have c0 : w.cell? ⟨g, 0, none⟩ = some (.string s) := h1.cell 0
  have hE : checkE s.size [] = 0 := by unfold checkE; rw [if_neg (by omega), if_neg (by simp)]; unfold chk; rw [if_neg (by omega)]
  have Hap := Lib.hid (apply_ok s A 0 c w.heap.size [] rfl hE w ⟨rfl, fun h => absurd h (by omega)⟩ (Nat.le_refl _))
  clear hE
  go_enter Tryz.func94, Tryz.ntmps94
  go_wp2_with fail
  refine Hap.out.mono ?_
  rintro e w1 ⟨rfl, hb1⟩
  go_wp2
  go_ret
  exact ⟨rfl, hb1⟩

set_option maxHeartbeats 4000000 in
theorem undo_yes (g : Nat) (s : ByteArray) (B O : List ByteArray) (t : ByteArray) (K : Nat → Prop) (w : World) (hK : ∀ k, K k → k < w.heap.size) (hO : O.length ≤ 1000000) (hB : B.length ≤ 1000000) (h : EdAt w K g s (B ++ [t]) O) :
    Calls Tryz.prog 97 #[.pointer (some ⟨g, 0, none⟩)] w fun e w' => e = .returned (.int .i64 0) ∧ EdAt w' K g t B (O ++ [s]) ∧ Kept K w w' := by
  obtain ⟨⟨Ab, nb, cb, Ao, no, co, h1, h2, h3, h4a⟩, h5⟩ := h
  have h4 : ∀ k, (Value.slice Ab nb cb).ownBlock = some k → (Value.slice Ao no co).ownBlock ≠ some k := h4a
  clear h4a
  have c0 : w.cell? ⟨g, 0, none⟩ = some (.string s) := h1.cell 0
  have c1 : w.cell? ⟨g, 1, none⟩ = some (.slice Ab nb cb) := h1.cell 1
  have c2 : w.cell? ⟨g, 2, none⟩ = some (.slice Ao no co) := h1.cell 2
  have hnb : nb = B.length + 1 := by rw [← h2.1, List.length_append]; rfl
  have hno : O.length = no := h3.1
  obtain ⟨m, hm⟩ : ∃ m, m = B.length := ⟨_, rfl⟩
  rw [← hm] at hnb
  have Hm := Lib.hid hm
  have hno8 : no ≤ 8000000000000 := by omega
  have hmB : m ≤ 1000000 := by omega
  subst hnb
  clear hm hno
  have q0 : ((m : Int) + 1 == 0) = false := by rw [beq_eq_false_iff_ne]; omega
  go_enter Tryz.func97, Tryz.ntmps97
  go_wp2
  have hZ : Blk (w.alloc (Obj.cells #[.string s] 9)).drew g 136 #[.string s, .slice Ab (m + 1) cb, .slice Ao no co] := h1.alloc (Obj.cells #[.string s] 9)
  have hneO : (Value.slice Ao no co).ownBlock ≠ some g := h3.ne_blk h1 (by decide)
  have hnw : (w.alloc (Obj.cells #[.string s] 9)).drew.cell? ⟨w.heap.size, 0, none⟩ = some (.string s) := by
    show (w.alloc _).cell? _ = _
    rw [World.cell?_alloc_mark]; rfl
  have f2 : w.frozen? ⟨g, 2, none⟩ = false := h1.frozen 2
  have z2 := hZ.cell 2
  have hh4 : ∀ k, (Value.slice Ab (m + 1) cb).ownBlock = some k → (Value.slice Ao no co).ownBlock ≠ some k := h4
  have hbz : Below w.heap.size w (w.alloc (Obj.cells #[.string s] 9)).drew := ((Below.refl w.heap.size w).alloc (Nat.le_refl _) _).drew
  have hwz : (w.alloc (Obj.cells #[.string s] 9)).drew.heap.size = w.heap.size + 1 := by show (w.alloc _).heap.size = _; simp
  go_region_law ((refine step_append_S rfl (.tmp 15) (.tmp 20) 22 rfl K infoStrE Tryz.underlying22 Ao no co O (by simp [Act.eval]) (h3.alloc _) ⟨w.heap.size, 0, none⟩ 1 s (by simp [Act.eval]) hnw rfl (by omega) (fun k hk => by have := hK k hk; show k < (w.alloc _).heap.size; simp; omega) ?_; intro A3 c3 w4 hown4 hg4 hp4; have y2 := (Blk.grown hZ hg4 hneO).cell 2; have yf := (Blk.grown hZ hg4 hneO).frozen 2))
  all_goals
    have hX5 : Blk (w4.setCell ⟨g, 2, none⟩ (.slice A3 (no + 1) c3)) g 136 #[.string s, .slice Ab (m + 1) cb, .slice A3 (no + 1) c3] := (Blk.grown hZ hg4 hneO).set_ 2 _
    have hB5 : OwnS (w4.setCell ⟨g, 2, none⟩ (.slice A3 (no + 1) c3)) K Ab (m + 1) cb (B ++ [t]) := ((h2.after hbz).grown hg4 (fun k hk => by intro hq; exact h4 k hq hk)).far (h2.ne_blk h1 (by decide)) 2 _
    have hO5 : OwnS (w4.setCell ⟨g, 2, none⟩ (.slice A3 (no + 1) c3)) K A3 (no + 1) c3 (O ++ [s]) := hown4.far (hown4.ne_blk (Blk.grown hZ hg4 hneO) (by decide)) 2 _
    have hd5 : ∀ k, (Value.slice Ab (m + 1) cb).ownBlock = some k → (Value.slice A3 (no + 1) c3).ownBlock ≠ some k := fun k hk hq => by
      rcases hp4 k hq with h | h
      · exact h4 k hk h
      · have := (h2.lt k hk).2; omega
    have hk5 : Kept K w (w4.setCell ⟨g, 2, none⟩ (.slice A3 (no + 1) c3)) := ((Kept.of_below hbz hK).trans (Kept.of_grown hg4 (fun k hk => by have := hK k hk; omega) (fun k hk => (h3.lt k hk).1))).set h5 2 _
    generalize w4.setCell ⟨g, 2, none⟩ (.slice A3 (no + 1) c3) = w5 at *
    clear hZ hg4 hp4 hown4 y2 yf z2 hnw hneO c0 c1 c2 f2 h1 h2 h3 h4 hh4 hbz hwz
  all_goals
    obtain ⟨gb, ob, rfl, hgb⟩ := hB5.shape (by omega)
    have c0 : w5.cell? ⟨g, 0, none⟩ = some (.string s) := hX5.cell 0
    have c1 : w5.cell? ⟨g, 1, none⟩ = some (.slice (some ⟨gb, ob, none⟩) (m + 1) cb) := hX5.cell 1
    have f0 : w5.frozen? ⟨g, 0, none⟩ = false := hX5.frozen 0
    have f1 : w5.frozen? ⟨g, 1, none⟩ = false := hX5.frozen 1
    have ct := hB5.cell m (by omega)
    rw [getD_app_right _ _ _ _ (by have := Hm.out; omega), ← Hm.out, Nat.sub_self] at ct
    simp only [List.getD_cons_zero] at ct
    have hcap := hB5.cap
    have wm : IntKind.i64.wrap ((m : Int) + 1 - 1) = (m : Int) := by rw [IntKind.wrap_i64]; unfold maxLen at hcap; omega
    have hne : gb ≠ g := fun e => hB5.ne_blk hX5 (by decide) (by rw [e]; rfl)
    have hm1 : (m : Int) ≤ (cb : Int) := by omega
    have hm2 : (m : Int) < (m : Int) + 1 := by omega
    have hm0 : (0 : Int) ≤ (m : Int) := by omega
    have hc9 : cb ≤ 9223372036854775807 := by unfold maxLen at hcap; omega
    clear hcap
    go_wp2
  all_goals
    go_region
    go_wp2
    go_ret
    have hX6 : Blk ((w5.setCell ⟨g, 0, none⟩ (.string t)).setCell ⟨g, 1, none⟩ (.slice (some ⟨gb, ob, none⟩) m cb)) g 136 #[.string t, .slice (some ⟨gb, ob, none⟩) m cb, .slice A3 (no + 1) c3] := (hX5.set_ 0 _).set_ 1 _
    have hB6 := hB5.short m (by omega)
    rw [List.take_left' Hm.out.symm] at hB6
    refine ⟨rfl, ⟨⟨some ⟨gb, ob, none⟩, m, cb, A3, no + 1, c3, hX6, (hB6.far (fun e => hB5.ne_blk hX5 (by decide) e) 0 _).far (fun e => hB5.ne_blk hX5 (by decide) e) 1 _, (hO5.far (hO5.ne_blk hX5 (by decide)) 0 _).far (hO5.ne_blk hX5 (by decide)) 1 _, fun k hk => hd5 k hk⟩, h5⟩, ((hk5.set h5 0 _).set h5 1 _).drew⟩
set_option maxHeartbeats 4000000 in
theorem redo_yes (g : Nat) (s : ByteArray) (B O : List ByteArray) (t : ByteArray) (K : Nat → Prop) (w : World) (hK : ∀ k, K k → k < w.heap.size) (hO : O.length ≤ 1000000) (hB : B.length ≤ 1000000) (h : EdAt w K g s B (O ++ [t])) :
    Calls Tryz.prog 98 #[.pointer (some ⟨g, 0, none⟩)] w fun e w' => e = .returned (.int .i64 0) ∧ EdAt w' K g t (B ++ [s]) O ∧ Kept K w w' := by
  obtain ⟨⟨Ao, no, co, Ab, nb, cb, h1, h3, h2, h4a⟩, h5⟩ := h
  have h4 : ∀ k, (Value.slice Ab nb cb).ownBlock = some k → (Value.slice Ao no co).ownBlock ≠ some k := fun k hk hq => h4a k hq hk
  clear h4a
  have c0 : w.cell? ⟨g, 0, none⟩ = some (.string s) := h1.cell 0
  have c1 : w.cell? ⟨g, 2, none⟩ = some (.slice Ab nb cb) := h1.cell 2
  have c2 : w.cell? ⟨g, 1, none⟩ = some (.slice Ao no co) := h1.cell 1
  have hnb : nb = O.length + 1 := by rw [← h2.1, List.length_append]; rfl
  have hno : B.length = no := h3.1
  obtain ⟨m, hm⟩ : ∃ m, m = O.length := ⟨_, rfl⟩
  rw [← hm] at hnb
  have Hm := Lib.hid hm
  have hno8 : no ≤ 8000000000000 := by omega
  have hmB : m ≤ 1000000 := by omega
  subst hnb
  clear hm hno
  have q0 : ((m : Int) + 1 == 0) = false := by rw [beq_eq_false_iff_ne]; omega
  go_enter Tryz.func98, Tryz.ntmps98
  go_wp2
  have hZ : Blk (w.alloc (Obj.cells #[.string s] 9)).drew g 136 #[.string s, .slice Ao no co, .slice Ab (m + 1) cb] := h1.alloc (Obj.cells #[.string s] 9)
  have hneO : (Value.slice Ao no co).ownBlock ≠ some g := h3.ne_blk h1 (by decide)
  have hnw : (w.alloc (Obj.cells #[.string s] 9)).drew.cell? ⟨w.heap.size, 0, none⟩ = some (.string s) := by
    show (w.alloc _).cell? _ = _
    rw [World.cell?_alloc_mark]; rfl
  have f2 : w.frozen? ⟨g, 1, none⟩ = false := h1.frozen 1
  have z2 := hZ.cell 1
  have hh4 : ∀ k, (Value.slice Ab (m + 1) cb).ownBlock = some k → (Value.slice Ao no co).ownBlock ≠ some k := h4
  have hbz : Below w.heap.size w (w.alloc (Obj.cells #[.string s] 9)).drew := ((Below.refl w.heap.size w).alloc (Nat.le_refl _) _).drew
  have hwz : (w.alloc (Obj.cells #[.string s] 9)).drew.heap.size = w.heap.size + 1 := by show (w.alloc _).heap.size = _; simp
  go_region_law ((refine step_append_S rfl (.tmp 15) (.tmp 20) 22 rfl K infoStrE Tryz.underlying22 Ao no co B (by simp [Act.eval]) (h3.alloc _) ⟨w.heap.size, 0, none⟩ 1 s (by simp [Act.eval]) hnw rfl (by omega) (fun k hk => by have := hK k hk; show k < (w.alloc _).heap.size; simp; omega) ?_; intro A3 c3 w4 hown4 hg4 hp4; have y2 := (Blk.grown hZ hg4 hneO).cell 1; have yf := (Blk.grown hZ hg4 hneO).frozen 1))
  all_goals
    have hX5 : Blk (w4.setCell ⟨g, 1, none⟩ (.slice A3 (no + 1) c3)) g 136 #[.string s, .slice A3 (no + 1) c3, .slice Ab (m + 1) cb] := (Blk.grown hZ hg4 hneO).set_ 1 _
    have hB5 : OwnS (w4.setCell ⟨g, 1, none⟩ (.slice A3 (no + 1) c3)) K Ab (m + 1) cb (O ++ [t]) := ((h2.after hbz).grown hg4 (fun k hk => by intro hq; exact h4 k hq hk)).far (h2.ne_blk h1 (by decide)) 1 _
    have hO5 : OwnS (w4.setCell ⟨g, 1, none⟩ (.slice A3 (no + 1) c3)) K A3 (no + 1) c3 (B ++ [s]) := hown4.far (hown4.ne_blk (Blk.grown hZ hg4 hneO) (by decide)) 1 _
    have hd5 : ∀ k, (Value.slice Ab (m + 1) cb).ownBlock = some k → (Value.slice A3 (no + 1) c3).ownBlock ≠ some k := fun k hk hq => by
      rcases hp4 k hq with h | h
      · exact h4 k hk h
      · have := (h2.lt k hk).2; omega
    have hk5 : Kept K w (w4.setCell ⟨g, 1, none⟩ (.slice A3 (no + 1) c3)) := ((Kept.of_below hbz hK).trans (Kept.of_grown hg4 (fun k hk => by have := hK k hk; omega) (fun k hk => (h3.lt k hk).1))).set h5 1 _
    generalize w4.setCell ⟨g, 1, none⟩ (.slice A3 (no + 1) c3) = w5 at *
    clear hZ hg4 hp4 hown4 y2 yf z2 hnw hneO c0 c1 c2 f2 h1 h2 h3 h4 hh4 hbz hwz
  all_goals
    obtain ⟨gb, ob, rfl, hgb⟩ := hB5.shape (by omega)
    have c0 : w5.cell? ⟨g, 0, none⟩ = some (.string s) := hX5.cell 0
    have c1 : w5.cell? ⟨g, 2, none⟩ = some (.slice (some ⟨gb, ob, none⟩) (m + 1) cb) := hX5.cell 2
    have f0 : w5.frozen? ⟨g, 0, none⟩ = false := hX5.frozen 0
    have f1 : w5.frozen? ⟨g, 2, none⟩ = false := hX5.frozen 2
    have ct := hB5.cell m (by omega)
    rw [getD_app_right _ _ _ _ (by have := Hm.out; omega), ← Hm.out, Nat.sub_self] at ct
    simp only [List.getD_cons_zero] at ct
    have hcap := hB5.cap
    have wm : IntKind.i64.wrap ((m : Int) + 1 - 1) = (m : Int) := by rw [IntKind.wrap_i64]; unfold maxLen at hcap; omega
    have hne : gb ≠ g := fun e => hB5.ne_blk hX5 (by decide) (by rw [e]; rfl)
    have hm1 : (m : Int) ≤ (cb : Int) := by omega
    have hm2 : (m : Int) < (m : Int) + 1 := by omega
    have hm0 : (0 : Int) ≤ (m : Int) := by omega
    have hc9 : cb ≤ 9223372036854775807 := by unfold maxLen at hcap; omega
    clear hcap
    go_wp2
  all_goals
    go_region
    go_wp2
    go_ret
    have hX6 : Blk ((w5.setCell ⟨g, 0, none⟩ (.string t)).setCell ⟨g, 2, none⟩ (.slice (some ⟨gb, ob, none⟩) m cb)) g 136 #[.string t, .slice A3 (no + 1) c3, .slice (some ⟨gb, ob, none⟩) m cb] := (hX5.set_ 0 _).set_ 2 _
    have hB6 := hB5.short m (by omega)
    rw [List.take_left' Hm.out.symm] at hB6
    refine ⟨rfl, ⟨⟨A3, no + 1, c3, some ⟨gb, ob, none⟩, m, cb, hX6, (hO5.far (hO5.ne_blk hX5 (by decide)) 0 _).far (hO5.ne_blk hX5 (by decide)) 2 _, (hB6.far (fun e => hB5.ne_blk hX5 (by decide) e) 0 _).far (fun e => hB5.ne_blk hX5 (by decide) e) 2 _, fun k hk hq => hd5 k hq hk⟩, h5⟩, ((hk5.set h5 0 _).set h5 2 _).drew⟩
set_option maxHeartbeats 4000000 in
theorem do_yes (g : Nat) (s : ByteArray) (B O : List ByteArray) (K : Nat → Prop) (w : World) (hK : ∀ k, K k → k < w.heap.size) (hB : B.length ≤ 30) (h : EdAt w K g s B O) (A : Option Addr) (len c B0 : Nat) (l : List Ed) (hl : l.length = len) (hE : checkE s.size l = 0) (hn : 0 < len) (hr : Reads w B0 A len 3 (l.flatMap cEdit)) (hB0 : B0 ≤ w.heap.size) :
    Calls Tryz.prog 94 #[.pointer (some ⟨g, 0, none⟩), .slice A len c] w fun e w' => e = .returned (.int .i64 0) ∧ EdAt w' K g ⟨(app s.data.toList 0 l).toArray⟩ ((B ++ [s]).drop (B.length + 1 - 30)) [] ∧ Kept K w w' := by
  have Hap := Lib.hid (apply_ok s A len c B0 l hl hE w hr hB0)
  generalize (⟨(app s.data.toList 0 l).toArray⟩ : ByteArray) = R at *
  have c0 : w.cell? ⟨g, 0, none⟩ = some (.string s) := by
    obtain ⟨⟨Ab, nb, cb, Ao, no, co, h1, h2, h3, h4⟩, h5⟩ := h
    exact h1.cell 0
  have q0 : ((len : Int) == 0) = false := by rw [beq_eq_false_iff_ne]; omega
  clear hl hE hr hB0
  go_enter Tryz.func94, Tryz.ntmps94
  go_wp2_with fail
  refine Hap.out.mono ?_
  rintro e w1 ⟨rfl, hb1⟩
  have hk1 : Kept K w w1 := Kept.of_below hb1 hK
  have h := h.after hb1
  have hK1 : ∀ k, K k → k < w1.heap.size := hk1.lt hK
  have Hk1 := Lib.hid hk1
  clear c0 hb1 hK hk1 Hap
  obtain ⟨⟨Ab, nb, cb, Ao, no, co, h1, h2, h3, h4⟩, h5⟩ := h
  have c0 : w1.cell? ⟨g, 0, none⟩ = some (.string s) := h1.cell 0
  have c1 : w1.cell? ⟨g, 1, none⟩ = some (.slice Ab nb cb) := h1.cell 1
  have hnb : B.length = nb := h2.1
  have Hnb := Lib.hid hnb
  have hnb30 : nb ≤ 30 := by omega
  clear hnb hB
  go_wp2
  have hZ : Blk (w1.alloc (Obj.cells #[.string s] 9)).drew g 136 #[.string s, .slice Ab nb cb, .slice Ao no co] := h1.alloc (Obj.cells #[.string s] 9)
  have hneB : (Value.slice Ab nb cb).ownBlock ≠ some g := h2.ne_blk h1 (by decide)
  have hnw : (w1.alloc (Obj.cells #[.string s] 9)).drew.cell? ⟨w1.heap.size, 0, none⟩ = some (.string s) := by
    show (w1.alloc _).cell? _ = _
    rw [World.cell?_alloc_mark]; rfl
  have f1 : w1.frozen? ⟨g, 1, none⟩ = false := h1.frozen 1
  have z1 := hZ.cell 1
  have hbz : Below w1.heap.size w1 (w1.alloc (Obj.cells #[.string s] 9)).drew := ((Below.refl w1.heap.size w1).alloc (Nat.le_refl _) _).drew
  have hwz : (w1.alloc (Obj.cells #[.string s] 9)).drew.heap.size = w1.heap.size + 1 := by show (w1.alloc _).heap.size = _; simp
  go_region_law ((refine step_append_S rfl (.tmp 26) (.tmp 31) 22 rfl K infoStrE Tryz.underlying22 Ab nb cb B (by simp [Act.eval]) (h2.alloc _) ⟨w1.heap.size, 0, none⟩ 1 s (by simp [Act.eval]) hnw rfl (by omega) (fun k hk => by have := hK1 k hk; show k < (w1.alloc _).heap.size; simp; omega) ?_; intro A3 c3 w4 hown4 hg4 hp4; have y2 := (Blk.grown hZ hg4 hneB).cell 1; have yf := (Blk.grown hZ hg4 hneB).frozen 1))
  all_goals
    have hX5 : Blk (w4.setCell ⟨g, 1, none⟩ (.slice A3 (nb + 1) c3)) g 136 #[.string s, .slice A3 (nb + 1) c3, .slice Ao no co] := (Blk.grown hZ hg4 hneB).set_ 1 _
    have hB5 : OwnS (w4.setCell ⟨g, 1, none⟩ (.slice A3 (nb + 1) c3)) K A3 (nb + 1) c3 (B ++ [s]) := hown4.far (hown4.ne_blk (Blk.grown hZ hg4 hneB) (by decide)) 1 _
    have hk5 : Kept K w1 (w4.setCell ⟨g, 1, none⟩ (.slice A3 (nb + 1) c3)) := ((Kept.of_below hbz hK1).trans (Kept.of_grown hg4 (fun k hk => by have := hK1 k hk; omega) (fun k hk => (h2.lt k hk).1))).set h5 1 _
    generalize w4.setCell ⟨g, 1, none⟩ (.slice A3 (nb + 1) c3) = w5 at *
    clear hZ hg4 hp4 hown4 y2 yf z1 hnw hneB c0 c1 f1 h1 h2 h3 h4 hbz hwz
    obtain ⟨gb, ob, rfl, hgb⟩ := hB5.shape (by omega)
    have c0 : w5.cell? ⟨g, 0, none⟩ = some (.string s) := hX5.cell 0
    have c1 : w5.cell? ⟨g, 1, none⟩ = some (.slice (some ⟨gb, ob, none⟩) (nb + 1) c3) := hX5.cell 1
    have c2 : w5.cell? ⟨g, 2, none⟩ = some (.slice Ao no co) := hX5.cell 2
    have f0 : w5.frozen? ⟨g, 0, none⟩ = false := hX5.frozen 0
    have f1 : w5.frozen? ⟨g, 1, none⟩ = false := hX5.frozen 1
    have f2 : w5.frozen? ⟨g, 2, none⟩ = false := hX5.frozen 2
    have hcap := hB5.cap
    have hca1 : nb + 1 ≤ c3 := hcap.1
    have hc9 : c3 ≤ 9223372036854775807 := by unfold maxLen at hcap; omega
    clear hcap
  all_goals
    by_cases h30 : nb = 30
    · have q1 : decide (30 < nb + 1) = true := decide_eq_true (by omega)
      have q1' : decide ((30 : Int) < (nb : Int) + 1) = true := decide_eq_true (by omega)
      have q2 : (1 : Int) ≤ (nb : Int) + 1 := by omega
      have hd : (B ++ [s]).drop (B.length + 1 - 30) = (B ++ [s]).drop 1 := by rw [Hnb.out, h30]
      have Hd := Lib.hid hd
      clear hd
      go_wp2
      go_ret
      subst h30
      have hne : (Value.slice (some ⟨gb, ob, none⟩) (30 + 1) c3).ownBlock ≠ some g := hB5.ne_blk hX5 (by decide)
      have hX6 : Blk (((w5.setCell ⟨g, 1, none⟩ (.slice (some ⟨gb, ob + 1, none⟩) 30 (c3 - 1))).setCell ⟨g, 0, none⟩ (.string R)).setCell ⟨g, 2, none⟩ (.slice none 0 0)) g 136 #[.string R, .slice (some ⟨gb, ob + 1, none⟩) 30 (c3 - 1), .slice none 0 0] := ((hX5.set_ 1 _).set_ 0 _).set_ 2 _
      have hB6 := (((OwnS.tail hB5).far (fun e => hne e) 1 (.slice (some ⟨gb, ob + 1, none⟩) 30 (c3 - 1))).far (fun e => hne e) 0 (.string R)).far (fun e => hne e) 2 (.slice none 0 0)
      rw [← Hd.out] at hB6
      exact ⟨rfl, ⟨⟨some ⟨gb, ob + 1, none⟩, 30, c3 - 1, none, 0, 0, hX6, hB6, OwnS.nil _ _, fun k hk hq => by cases hq⟩, h5⟩, ((((Hk1.out.trans hk5).set h5 1 _).set h5 0 _).set h5 2 _)⟩
    · have q1 : decide (30 < nb + 1) = false := decide_eq_false (by omega)
      have q1' : decide ((30 : Int) < (nb : Int) + 1) = false := decide_eq_false (by omega)
      have hd : (B ++ [s]).drop (B.length + 1 - 30) = B ++ [s] := by rw [Hnb.out, show nb + 1 - 30 = 0 from by omega]; rfl
      have Hd := Lib.hid hd
      clear hd
      go_wp2
      go_ret
      have hne : (Value.slice (some ⟨gb, ob, none⟩) (nb + 1) c3).ownBlock ≠ some g := hB5.ne_blk hX5 (by decide)
      have hX6 : Blk ((w5.setCell ⟨g, 0, none⟩ (.string R)).setCell ⟨g, 2, none⟩ (.slice none 0 0)) g 136 #[.string R, .slice (some ⟨gb, ob, none⟩) (nb + 1) c3, .slice none 0 0] := (hX5.set_ 0 _).set_ 2 _
      have hB6 := (hB5.far (fun e => hne e) 0 (.string R)).far (fun e => hne e) 2 (.slice none 0 0)
      rw [← Hd.out] at hB6
      exact ⟨rfl, ⟨⟨some ⟨gb, ob, none⟩, nb + 1, c3, none, 0, 0, hX6, hB6, OwnS.nil _ _, fun k hk hq => by cases hq⟩, h5⟩, (((Hk1.out.trans hk5).set h5 0 _).set h5 2 _)⟩
end Go.Proofs.YtaogegpfapfchaaGreatDoor

