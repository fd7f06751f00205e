/- The walk of rope.Of. -/
import Derived.Test.YtkeeggklgdinhaaRopeCheck
import Derived.Handy
import Derived.Test.YtkeeggklgdinhaaOwnS
namespace Go.Proofs.Ytkeeggklgdinhaa
open Go.RowKit
set_option linter.unusedVariables false

theorem OwnS.reads {w : World} {K : Nat → Prop} {A : Option Addr} {n c : Nat} {l : List ByteArray} (h : OwnS w K A n c l) : Reads w w.heap.size A n 1 (l.flatMap cStr) := by
  refine ⟨by rw [flat_length cStr 1 cStr_len, h.1], fun hn => ?_⟩
  obtain ⟨g, o, rfl, hg⟩ := h.shape hn
  refine ⟨g, o, rfl, hg, fun j hj => ?_⟩
  rw [flat_length cStr 1 cStr_len, h.1] at hj
  have := flat_getD cStr 1 cStr_len ByteArray.empty l j 0 (by rw [h.1]; omega) (by omega)
  rw [Nat.mul_one, Nat.add_zero] at this
  rw [h.cell j (by omega), this]
  rfl
/-- A rope is answered, and an error's number. -/
def ToldRope (w : World) (e : Ending) (w' : World) (l : List ByteArray) (E : Int) : Prop :=
  ∃ A n c, e = .returned (.tuple #[ropeV A n c, .int .i64 E]) ∧ l.length = n ∧ n ≤ c ∧ Reads w' w'.heap.size A n 1 (l.flatMap cStr) ∧ Below w.heap.size w w'
/-- The same, and the row is one of its own. -/
def ToldRopeO (w : World) (e : Ending) (w' : World) (l : List ByteArray) (E : Int) : Prop :=
  ∃ A n c, e = .returned (.tuple #[ropeV A n c, .int .i64 E]) ∧ OwnS w' (· < w.heap.size) A n c l ∧ Below w.heap.size w w'
theorem ToldRopeO.weak {w w' : World} {e : Ending} {l : List ByteArray} {E : Int} (h : ToldRopeO w e w' l E) : ToldRope w e w' l E := by
  obtain ⟨A, n, c, h1, h2, h3⟩ := h
  exact ⟨A, n, c, h1, h2.1, h2.cap.1, h2.reads, h3⟩
theorem OwnS.of_own {w : World} {B : Nat} {A : Option Addr} {n c : Nat} {l : List ByteArray} (h : w.ownsRow B 9 1 (.slice A n c) n (l.flatMap cStr)) (hl : l.length = n) : OwnS w (· < B) A n c l := by
  refine ⟨hl, ?_⟩
  rcases h.2 with ⟨hv, h0⟩ | ⟨g, cap, cur, hv, hg, hb, h1, h2, h3, h4⟩
  · injection hv with ha _ hc'
    exact .inl ⟨ha, h0, hc'⟩
  · injection hv with ha _ hc'
    subst ha hc'
    refine .inr ⟨g, 0, cur, rfl, by show ¬ g < B; omega, hb, h1, h2, by omega, ?_⟩
    rw [List.drop_zero]
    rw [Nat.mul_one] at h4
    rw [h4]
    clear h4 h hl
    induction l with
    | nil => rfl
    | cons x l ih => rw [List.flatMap_cons, ih]; rfl
theorem chunks_fuel (m : Nat) (hm : 0 < m) : ∀ (f f' : Nat) (s : ByteArray), s.size ≤ f → s.size ≤ f' → chunks m f s = chunks m f' s
  | 0, 0, _, _, _ => rfl
  | 0, f' + 1, s, h, _ => by rw [chunks, chunks, if_pos (by omega)]
  | f + 1, 0, s, _, h => by rw [chunks, chunks, if_pos (by omega)]
  | f + 1, f' + 1, s, h, h' => by
    unfold chunks
    by_cases h0 : s.size = 0
    · rw [if_pos h0, if_pos h0]
    · rw [if_neg h0, if_neg h0, chunks_fuel m hm f f' _ (by rw [ext_size]; omega) (by rw [ext_size]; omega)]
theorem chunks_next (m : Nat) (hm : 0 < m) (s : ByteArray) (h : 0 < s.size) : chunks m s.size s = s.extract 0 (min m s.size) :: chunks m (s.extract (min m s.size) s.size).size (s.extract (min m s.size) s.size) := by
  obtain ⟨f, hf⟩ : ∃ f, s.size = f + 1 := ⟨s.size - 1, by omega⟩
  rw [hf, chunks, if_neg (by omega), ← hf]
  congr 1
  exact chunks_fuel m hm _ _ _ (by rw [ext_size]; omega) (Nat.le_refl _)
theorem chunks_end (m : Nat) (s : ByteArray) (h : s.size = 0) : chunks m s.size s = [] := by rw [h]; rfl

theorem of_div (n M : Nat) (hM : 0 < M) : ((n : Int) + (M : Int) - 1) / (M : Int) = (((n + M - 1) / M : Nat) : Int) := by
  rw [show (n : Int) + (M : Int) - 1 = ((n + M - 1 : Nat) : Int) from by omega]
  exact (Int.natCast_ediv _ _).symm

set_option maxHeartbeats 4000000 in
theorem of_any (s : ByteArray) (hs : s.size ≤ 140737488355328) (m : Int) (hm : -9223372036854775808 ≤ m ∧ m ≤ 9223372036854775807) (w : World) :
    Calls Try.prog 15 #[.string s, .int .i64 m] w fun e w' => ToldRope w e w' (if ofE s m = 0 then ofL s m else []) (ofE s m) := by
  have hb0 : Below w.heap.size w (w.alloc (Obj.cells #[.slice none 0 0] 24)) := (Below.refl _ _).alloc (Nat.le_refl _) _
  have hg0 := Blk.new w 24 #[.slice none 0 0]
  have cf0 : (w.alloc (Obj.cells #[.slice none 0 0] 24)).frozen? ⟨w.heap.size, 0, none⟩ = false := hg0.frozen 0
  have c0 : (w.alloc (Obj.cells #[.slice none 0 0] 24)).cell? ⟨w.heap.size, 0, none⟩ = some (.slice none 0 0) := hg0.cell 0
  obtain ⟨E, hE⟩ : ∃ E, E = ofE s m := ⟨_, rfl⟩
  obtain ⟨L, hL⟩ : ∃ L, L = if ofE s m = 0 then ofL s m else [] := ⟨_, rfl⟩
  rw [← hL, ← hE]
  rw [← hE] at hL
  by_cases h2 : 200 < s.size
  · have q1 : decide ((200 : Int) < (s.size : Int)) = true := decide_eq_true (by omega)
    have hE2 : E = 2 := by rw [hE]; unfold ofE; rw [if_pos h2]
    obtain rfl : L = [] := by rw [hL, hE2]; rfl
    subst hE2
    clear hE hL
    go_enter Try.func15, Try.ntmps15
    go_wp2
    go_returns
    exact ⟨none, 0, 0, rfl, rfl, Nat.le_refl _, Reads.nil, hb0⟩
  have q1 : decide ((200 : Int) < (s.size : Int)) = false := decide_eq_false (by omega)
  by_cases h1 : m < 1
  · have q2 : decide (m < 1) = true := decide_eq_true h1
    have hE2 : E = 1 := by rw [hE]; unfold ofE; rw [if_neg h2, if_pos h1]
    obtain rfl : L = [] := by rw [hL, hE2]; rfl
    subst hE2
    clear hE hL
    go_enter Try.func15, Try.ntmps15
    go_wp2
    go_returns
    exact ⟨none, 0, 0, rfl, rfl, Nat.le_refl _, Reads.nil, hb0⟩
  have q2 : decide (m < 1) = false := decide_eq_false h1
  obtain ⟨k, rfl⟩ : ∃ k : Nat, m = k := ⟨m.toNat, by omega⟩
  have hk : 0 < k := by omega
  have hmin : (if (200 : Int) < (k : Int) then (200 : Int) else k) = ((min k 200 : Nat) : Int) := by split <;> omega
  obtain ⟨M, hM⟩ : ∃ M, M = min k 200 := ⟨_, rfl⟩
  rw [← hM] at hmin
  have hM0 : 0 < M := by omega
  have hM2 : M ≤ 200 := by omega
  have hM1 : (1 : Int) ≤ (M : Int) := by omega
  have hMn : ((M : Int) == 0) = false := by rw [beq_eq_false_iff_ne]; omega
  have hd := of_div s.size M hM0
  by_cases h3 : 60 < (s.size + M - 1) / M
  · have q3 : decide ((60 : Int) < ((s.size : Int) + (M : Int) - 1) / (M : Int)) = true := decide_eq_true (by rw [hd]; omega)
    have hE2 : E = 1 := by rw [hE]; unfold ofE; rw [if_neg h2, if_neg h1, Int.toNat_natCast, ← hM, if_pos h3]
    obtain rfl : L = [] := by rw [hL, hE2]; rfl
    subst hE2
    clear hE hL hd h3 hM
    go_enter Try.func15, Try.ntmps15
    go_wp2
    go_returns
    exact ⟨none, 0, 0, rfl, rfl, Nat.le_refl _, Reads.nil, hb0⟩
  have q3 : decide ((60 : Int) < ((s.size : Int) + (M : Int) - 1) / (M : Int)) = false := decide_eq_false (by rw [hd]; omega)
  have hE2 : E = 0 := by rw [hE]; unfold ofE; rw [if_neg h2, if_neg h1, Int.toNat_natCast, ← hM, if_neg h3]
  have HL : Hid (L = chunks k s.size s) := Lib.hid (by rw [hL, hE2]; rfl)
  subst hE2
  clear hE hL hd h3 hM
  go_enter Try.func15, Try.ntmps15
  go_wp2
  have hg0' : Blk ((w.alloc (Obj.cells #[.slice none 0 0] 24)).alloc (Obj.cells #[.slice none 0 0] 24)) w.heap.size 24 #[.slice none 0 0] := hg0.alloc _
  have hg1 : Blk ((w.alloc (Obj.cells #[.slice none 0 0] 24)).alloc (Obj.cells #[.slice none 0 0] 24)) (w.heap.size + 1) 24 #[.slice none 0 0] := by
    have := Blk.new (w.alloc (Obj.cells #[.slice none 0 0] 24)) 24 #[.slice none 0 0]
    rwa [show (w.alloc (Obj.cells #[.slice none 0 0] 24)).heap.size = w.heap.size + 1 from by simp] at this
  have hb1 : Below w.heap.size w ((w.alloc (Obj.cells #[.slice none 0 0] 24)).alloc (Obj.cells #[.slice none 0 0] 24)) := hb0.alloc hb0.size _
  clear hb0 hg0 cf0 c0 q1 q2 q3
  generalize (w.alloc (Obj.cells #[.slice none 0 0] 24)).alloc (Obj.cells #[.slice none 0 0] 24) = w1 at *
  have hsz := hg1.lt
  go_loopw [0, 7] (fun sv nv wr => ∃ (u : ByteArray) (A : Option Addr) (n c : Nat) (l : List ByteArray), sv = .string u ∧ u.size ≤ s.size ∧ n ≤ s.size ∧ Hid (L = l ++ chunks k u.size u) ∧ Blk wr (w.heap.size + 1) 24 #[.slice A n c] ∧ OwnS wr (· < w.heap.size + 2) A n c l ∧ Kept (· < w.heap.size + 1) w1 wr ∧ n + u.size ≤ s.size ∧ w.heap.size + 2 ≤ wr.heap.size) (fun sv _ _ => match sv with | .string u => u.size | _ => 0)
  case atStart => exact ⟨s, none, 0, 0, [], rfl, Nat.le_refl _, Nat.zero_le _, Lib.hid (by rw [HL.out]; rfl), hg1, OwnS.nil _ _, Kept.refl _ _, by omega, by omega⟩
  case round =>
    obtain ⟨u, A, n, c, l, rfl, hu, hn, Hf, hX, hown, hkp, hnu, hwr⟩ := hrel
    have cX : wr.cell? ⟨w.heap.size + 1, 0, none⟩ = some (.slice A n c) := hX.cell 0
    have fX : wr.frozen? ⟨w.heap.size + 1, 0, none⟩ = false := hX.frozen 0
    by_cases h0 : 0 < u.size
    · have q1 : decide ((0 : Int) < (u.size : Int)) = true := decide_eq_true (by omega)
      obtain ⟨q, hq⟩ : ∃ q, q = min k u.size := ⟨_, rfl⟩
      have hmq : (if u.size < k then (u.size : Int) else k) = (q : Int) := by split <;> omega
      have hq1 : q ≤ u.size := by omega
      have hq1' : (q : Int) ≤ (u.size : Int) := by omega
      have hq0 : (0 : Int) ≤ (q : Int) := by omega
      have hqk : 0 < q := by omega
      have H2 : Hid (L = (l ++ [u.extract 0 q]) ++ chunks k (u.extract q u.size).size (u.extract q u.size)) := Lib.hid (by rw [Hf.out, chunks_next k hk u h0, ← hq]; simp)
      clear hq
      go_wp2
      have hneA : (Value.slice A n c).ownBlock ≠ some (w.heap.size + 1) := hown.ne_blk hX (by decide)
      have hZ : Blk (wr.alloc (Obj.cells #[.string (u.extract 0 q)] 9)).drew (w.heap.size + 1) 24 #[.slice A n c] := hX.alloc (Obj.cells #[.string (u.extract 0 q)] 9)
      have hnw : (wr.alloc (Obj.cells #[.string (u.extract 0 q)] 9)).drew.cell? ⟨wr.heap.size, 0, none⟩ = some (.string (u.extract 0 q)) := by
        show (wr.alloc _).cell? _ = _
        rw [World.cell?_alloc_mark]; rfl
      have cZ : (wr.alloc (Obj.cells #[.string (u.extract 0 q)] 9)).cell? ⟨w.heap.size + 1, 0, none⟩ = some (.slice A n c) := hZ.cell 0
      have hbz : Below wr.heap.size wr (wr.alloc (Obj.cells #[.string (u.extract 0 q)] 9)).drew := ((Below.refl wr.heap.size wr).alloc (Nat.le_refl _) _).drew
      have hwz : (wr.alloc (Obj.cells #[.string (u.extract 0 q)] 9)).drew.heap.size = wr.heap.size + 1 := by show (wr.alloc _).heap.size = _; simp
      have hn8 : n ≤ 8000000000000 := by omega
      go_region_law ((refine step_append_S rfl (.tmp 35) (.tmp 39) 22 rfl (· < w.heap.size + 2) infoStrE Try.underlying22 A n c l (by simp [Act.eval]) (hown.alloc _) ⟨wr.heap.size, 0, none⟩ 1 (u.extract 0 q) (by simp [Act.eval]) hnw rfl hn8 (fun k hk => by show k < (wr.alloc _).heap.size; simp; omega) ?_; intro A3 c3 w4 hown4 hg4 hp4; have y2 := (Blk.grown hZ hg4 hneA).cell 0; have yf := (Blk.grown hZ hg4 hneA).frozen 0))
      all_goals
        have hX5 : Blk (w4.setCell ⟨w.heap.size + 1, 0, none⟩ (.slice A3 (n + 1) c3)) (w.heap.size + 1) 24 #[.slice A3 (n + 1) c3] := (Blk.grown hZ hg4 hneA).set_ 0 _
        have hO5 : OwnS (w4.setCell ⟨w.heap.size + 1, 0, none⟩ (.slice A3 (n + 1) c3)) (· < w.heap.size + 2) A3 (n + 1) c3 (l ++ [u.extract 0 q]) := hown4.far (hown4.ne_blk (Blk.grown hZ hg4 hneA) (by decide)) 0 _
        have hk5 : Kept (· < w.heap.size + 1) w1 (w4.setCell ⟨w.heap.size + 1, 0, none⟩ (.slice A3 (n + 1) c3)) := ((hkp.trans (Kept.of_below hbz (fun k hk => by omega))).trans (Kept.of_grown hg4 (fun k hk => by omega) (fun k hk hq => (hown.lt k hk).1 (by omega)))).set (by omega) 0 _
        have hs5 : w.heap.size + 2 ≤ (w4.setCell ⟨w.heap.size + 1, 0, none⟩ (.slice A3 (n + 1) c3)).heap.size := by
          rw [size_setCell]
          have := hg4.size
          omega
        clear hZ hg4 hp4 hown4 y2 yf hnw hneA cX fX cZ hbz hwz hX hown hkp Hf
        generalize w4.setCell ⟨w.heap.size + 1, 0, none⟩ (.slice A3 (n + 1) c3) = w5 at *
        have hq2 : (q : Int) ≤ (u.size : Int) := by omega
        go_wp2
        go_roundw
        case rel => exact ⟨u.extract q u.size, A3, n + 1, c3, l ++ [u.extract 0 q], rfl, by rw [ext_size]; omega, by omega, H2, hX5, hO5, hk5, by rw [ext_size]; omega, hs5⟩
        case measure => simp only [ext_size]; omega
    · obtain h0 : u.size = 0 := by omega
      have q1 : decide ((0 : Int) < (u.size : Int)) = false := decide_eq_false (by omega)
      have H2 : Hid (L = l) := Lib.hid (by rw [Hf.out, chunks_end _ _ h0, List.append_nil])
      have hX0 : Blk wr w.heap.size 24 #[.slice none 0 0] := (hkp.block _ (by omega)).trans hg0'
      have cX0 : wr.cell? ⟨w.heap.size, 0, none⟩ = some (.slice none 0 0) := hX0.cell 0
      have fX0 : wr.frozen? ⟨w.heap.size, 0, none⟩ = false := hX0.frozen 0
      go_wp2
      have cX1 : (wr.setCell ⟨w.heap.size, 0, none⟩ (.slice A n c)).cell? ⟨w.heap.size, 0, none⟩ = some (.slice A n c) := (hX0.set_ 0 _).cell 0
      refine bodyPost_ret (by simp [results, Try.results15, go_sem, cX1]; try rfl) rfl ?_
      have hk6 : Kept (· < w.heap.size) w1 (wr.setCell ⟨w.heap.size, 0, none⟩ (.slice A n c)) := (hkp.weak (fun k hk => by omega)).set (by omega) 0 _
      have hown6 := hown.far (hown.ne_blk hX0 (by decide)) 0 (.slice A n c)
      exact ⟨A, n, c, rfl, by rw [H2.out]; exact hown.1, hown.cap.1, by rw [H2.out]; exact hown6.reads, hb1.trans hk6.below⟩
end Go.Proofs.Ytkeeggklgdinhaa
