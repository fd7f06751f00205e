/- MergeClash's walk: conflicts are symmetric, and edits that are separated by at least one byte do not conflict. -/
import Derived.Test.YtookbaaicpapnaaMergeSelf
import Derived.BigRegion
namespace Go.Proofs.Ytookbaaicpapnaa
open Go.RowKit
set_option linter.unusedVariables false

theorem clash_known : bothE 5 [(1, 2, ⟨#[]⟩)] [(2, 0, ⟨#[120]⟩)] = 9 := by
  have h1 : checkM 5 [(1, 2, ⟨#[]⟩)] [(2, 0, ⟨#[120]⟩)] = 0 := by decide +kernel
  have h2 : ∃ x ∈ ([(1, 2, ⟨#[]⟩)] : List Ed), ∃ y ∈ ([(2, 0, ⟨#[120]⟩)] : List Ed), Clash x y := by decide +kernel
  unfold bothE
  rw [if_neg (by rw [h1]; simp), if_pos h2]

theorem chk_codes (n : Int) : ∀ (l : List Ed) (f : Bool) (e sz : Int), chk n f e sz l = 0 ∨ chk n f e sz l = 1 ∨ chk n f e sz l = 2 ∨ chk n f e sz l = 5 ∨ chk n f e sz l = 6 ∨ chk n f e sz l = 11
  | [], f, e, sz => by rw [chk]; split <;> simp
  | x :: l, f, e, sz => by
    rw [chk]
    have ih := chk_codes n l false (x.1 + x.2.1) (sz + (x.2.2.size - x.2.1))
    split
    · simp
    · split
      · simp
      · split
        · simp
        · split
          · simp
          · exact ih
theorem checkE_codes (n : Int) (l : List Ed) : checkE n l = 0 ∨ checkE n l = 1 ∨ checkE n l = 2 ∨ checkE n l = 5 ∨ checkE n l = 6 ∨ checkE n l = 11 := by
  unfold checkE
  split
  · simp
  · split
    · simp
    · exact chk_codes n l true 0 n

/-- Two single edits: whichever is first, the same comes of it. -/
theorem clash_law (n : Int) (x y : Ed) (hx : checkE n [x] = 0) (hy : checkE n [y] = 0) : bothE n [x] [y] = bothE n [y] [x] ∧ (bothE n [x] [y] == 9) = decide (Clash x y) := by
  have hm1 : checkM n [x] [y] = 0 := by unfold checkM; rw [hx, if_neg (by simp), hy]
  have hm2 : checkM n [y] [x] = 0 := by unfold checkM; rw [hy, if_neg (by simp), hx]
  have hb1 : bothE n [x] [y] = if Clash x y then 9 else checkE n (mergeE [x] [y]) := by
    unfold bothE
    rw [if_neg (by rw [hm1]; simp)]
    simp
  have hb2 : bothE n [y] [x] = if Clash x y then 9 else checkE n (mergeE [y] [x]) := by
    unfold bothE
    rw [if_neg (by rw [hm2]; simp)]
    by_cases h : Clash x y
    · rw [if_pos h, if_pos (by simp [h.symm])]
    · rw [if_neg h, if_neg (by simp only [List.mem_singleton, exists_eq_left]; exact fun h' => h h'.symm)]
  rw [hb1, hb2]
  by_cases h : Clash x y
  · rw [if_pos h, if_pos h, decide_eq_true h]; exact ⟨rfl, rfl⟩
  · rw [if_neg h, if_neg h, decide_eq_false h]
    have hs : mergeE [x] [y] = mergeE [y] [x] := by
      rw [mergeE_cons, mergeE_cons]
      by_cases h1 : x.1 < y.1
      · rw [if_pos h1, if_neg (by omega), if_pos h1, mergeE_nil_left, mergeE_nil_right]
      · rw [if_neg h1]
        by_cases h2 : y.1 < x.1
        · rw [if_pos h2, if_pos h2, mergeE_nil_left, mergeE_nil_right]
        · rw [if_neg h2, if_neg h2, if_neg h1, mergeE_nil_left]
          have hxy : x = y := by
            by_cases e : x = y
            · exact e
            · obtain ⟨_, _, _, okx, _⟩ := checkE_ok hx
              obtain ⟨_, _, _, oky, _⟩ := checkE_ok hy
              obtain ⟨a1, a2, _⟩ := okx
              obtain ⟨b1, b2, _⟩ := oky
              exact absurd ⟨e, by omega, by omega⟩ h
          rw [hxy]
    refine ⟨by rw [hs], ?_⟩
    rw [beq_eq_false_iff_ne]
    intro h9
    rcases checkE_codes n (mergeE [x] [y]) with h | h | h | h | h | h <;> omega

theorem both_ne (n : Int) (x y : Ed) (h : checkE n [x] ≠ 0 ∨ checkE n [y] ≠ 0) : bothE n [x] [y] ≠ 0 := by
  have hm : checkM n [x] [y] ≠ 0 := by
    unfold checkM
    by_cases hx : checkE n [x] = 0
    · rw [if_neg (by simpa using hx)]
      exact h.elim (fun h => absurd hx h) id
    · rw [if_pos hx]; exact hx
  unfold bothE
  rw [if_pos hm]
  exact hm

theorem single_bd (n : Int) (x : Ed) (h : checkE n [x] = 0) : 0 ≤ x.1 ∧ 0 ≤ x.2.1 ∧ x.1 + x.2.1 ≤ 200 := by
  obtain ⟨_, h1, _, ok, _⟩ := checkE_ok h
  obtain ⟨a, b, c, _⟩ := ok
  omega

set_option maxRecDepth 100000 in
set_option maxHeartbeats 2000000 in
theorem mergeClash_walk (n : Int) (x y : Ed) (hn0 : (Lit.int .i64 n).wf = true) (ox : OkEdit x) (oy : OkEdit y) (w : World) :
    Calls Try.prog 4 #[.int .i64 n, .agg (cEdit x).toArray, .agg (cEdit y).toArray] w fun e w' => e = .returned (.bool true) ∧ Below w.heap.size w w' := by
  have hn : -9223372036854775808 ≤ n ∧ n ≤ 9223372036854775807 := by have := bounds_i64 hn0; omega
  have oX : OkEds [x] := fun z hz => by rw [List.mem_singleton.1 hz]; exact ox
  have oY : OkEds [y] := fun z hz => by rw [List.mem_singleton.1 hz]; exact oy
  have o1 : OkEds [(1, 2, ⟨#[]⟩)] := fun x hx => by rw [List.mem_singleton.1 hx]; decide
  have o2 : OkEds [(2, 0, ⟨#[120]⟩)] := fun x hx => by rw [List.mem_singleton.1 hx]; decide
  have c1 : ∀ (A A' : Option Addr) (c c' B : Nat) (w : World), Reads w B A 1 3 [.int .i64 1, .int .i64 2, .string ⟨#[]⟩] → Reads w B A' 1 3 [.int .i64 2, .int .i64 0, .string ⟨#[120]⟩] → B ≤ w.heap.size → Calls Try.prog 15 #[.int .i64 5, .slice A 1 c, .slice A' 1 c'] w fun e w' =>
      Below w.heap.size w w' ∧ e = .returned (.tuple #[.slice none 0 0, .int .i64 9]) := fun A A' c c' B w ra rb hB =>
    (both_any 5 (by decide) A A' 1 1 c c' B [(1, 2, ⟨#[]⟩)] [(2, 0, ⟨#[120]⟩)] (by decide) (by decide) rfl rfl o1 o2 w ra rb hB).mono fun e w' h => by
      obtain ⟨hb, h1⟩ := both_bad (by rw [clash_known]; decide) h
      rw [clash_known] at h1
      exact ⟨hb, h1⟩
  have C1 := Lib.hid c1
  have hbx : ∀ (u v : Ed) (ou : OkEds [u]) (ov : OkEds [v]) (A A' : Option Addr) (c c' B : Nat) (w : World), Reads w B A 1 3 (cEdit u) → Reads w B A' 1 3 (cEdit v) → B ≤ w.heap.size → Calls Try.prog 15 #[.int .i64 n, .slice A 1 c, .slice A' 1 c'] w fun e w' =>
      Below w.heap.size w w' ∧ ∃ A k c, e = .returned (.tuple #[.slice A k c, .int .i64 (bothE n [u] [v])]) := fun u v ou ov A A' c c' B w ra rb hB =>
    (both_any n hn A A' 1 1 c c' B [u] [v] (by decide) (by decide) rfl rfl ou ov w (by simpa using ra) (by simpa using rb) hB).mono fun e w' ⟨hb, h⟩ => by
      rcases h with ⟨_, h⟩ | ⟨h0, A, c, h, _⟩
      · exact ⟨hb, none, 0, 0, h⟩
      · rw [← h0] at h
        exact ⟨hb, A, _, c, h⟩
  have hck : ∀ (u : Ed) (ou : OkEds [u]) (A : Option Addr) (c B : Nat) (w : World), Reads w B A 1 3 (cEdit u) → B ≤ w.heap.size → Calls Try.prog 17 #[.int .i64 n, .slice A 1 c] w fun e w' => e = .returned (.int .i64 (checkE n [u])) ∧ Below w.heap.size w w' := fun u ou A c B w r hB =>
    check_any n hn A 1 c B [u] (by decide) rfl ou w (by simpa using r) hB
  have HX1 := Lib.hid (hbx x y oX oY)
  have HX2 := Lib.hid (hbx y x oY oX)
  have HC1 := Lib.hid (hck x oX)
  have HC2 := Lib.hid (hck y oY)
  have hbd := buildEdit
  have heq := eqEdit3 x y
  have hgd := guardEdit
  have HLaw := Lib.hid (clash_law n x y)
  have HMb : Hid (checkE n [x] ≠ 0 → bothE n [x] [y] ≠ 0 ∧ bothE n [y] [x] ≠ 0) := Lib.hid fun h => ⟨both_ne n x y (.inl h), both_ne n y x (.inr h)⟩
  have HMc : Hid (checkE n [y] ≠ 0 → bothE n [x] [y] ≠ 0 ∧ bothE n [y] [x] ≠ 0) := Lib.hid fun h => ⟨both_ne n x y (.inr h), both_ne n y x (.inl h)⟩
  obtain ⟨x0, x1, x2⟩ := x
  obtain ⟨y0, y1, y2⟩ := y
  simp only [cEdit] at *
  clear c1 hbx hck oX oY o1 o2
  go_enter Try.func4, Try.ntmps4
  go_wp2_with fail
  have hX0 := Blk.new w 31 #[.int .i64 x0, .int .i64 x1, .string x2]
  have hX2 := hX0.alloc (Obj.cells #[.int .i64 y0, .int .i64 y1, .string y2] 31)
  have hY2 := Blk.new (w.alloc (Obj.cells #[.int .i64 x0, .int .i64 x1, .string x2] 31)) 31 #[.int .i64 y0, .int .i64 y1, .string y2]
  have hb2 : Below w.heap.size w ((w.alloc (Obj.cells #[.int .i64 x0, .int .i64 x1, .string x2] 31)).alloc (Obj.cells #[.int .i64 y0, .int .i64 y1, .string y2] 31)) := ((Below.refl _ _).alloc (Nat.le_refl _) _).alloc (by simp) _
  have hs2 : ((w.alloc (Obj.cells #[.int .i64 x0, .int .i64 x1, .string x2] 31)).alloc (Obj.cells #[.int .i64 y0, .int .i64 y1, .string y2] 31)).heap.size = w.heap.size + 1 + 1 := by simp
  rw [show (w.alloc (Obj.cells #[.int .i64 x0, .int .i64 x1, .string x2] 31)).heap.size = w.heap.size + 1 from by simp] at hY2
  rw [← hs2]
  have hgxy : w.heap.size ≠ w.heap.size + 1 := by omega
  generalize (w.alloc (Obj.cells #[.int .i64 x0, .int .i64 x1, .string x2] 31)).alloc (Obj.cells #[.int .i64 y0, .int .i64 y1, .string y2] 31) = W2 at *
  generalize hgx : w.heap.size = gx at *
  generalize gx + 1 = gy at *
  clear hX0 hs2
  have r1 := (Reads.made W2 #[.int .i64 1, .int .i64 2, .string ⟨#[]⟩] 31 1 3 rfl).after ((Below.refl _ _).alloc (Nat.le_refl _) (Obj.cells #[.int .i64 2, .int .i64 0, .string ⟨#[120]⟩] 31))
  have r2 := Reads.made (W2.alloc (Obj.cells #[.int .i64 1, .int .i64 2, .string ⟨#[]⟩] 31)) #[.int .i64 2, .int .i64 0, .string ⟨#[120]⟩] 31 1 3 rfl
  rw [show (W2.alloc (Obj.cells #[.int .i64 1, .int .i64 2, .string ⟨#[]⟩] 31)).heap.size = W2.heap.size + 1 from by simp] at r2
  have hb4 : Below W2.heap.size W2 ((W2.alloc (Obj.cells #[.int .i64 1, .int .i64 2, .string ⟨#[]⟩] 31)).alloc (Obj.cells #[.int .i64 2, .int .i64 0, .string ⟨#[120]⟩] 31)) := ((Below.refl _ _).alloc (Nat.le_refl _) _).alloc (by simp) _
  generalize (W2.alloc (Obj.cells #[.int .i64 1, .int .i64 2, .string ⟨#[]⟩] 31)).alloc (Obj.cells #[.int .i64 2, .int .i64 0, .string ⟨#[120]⟩] 31) = W4 at *
  refine (C1.out _ _ 1 1 _ W4 r1 r2 (Nat.le_refl _)).mono ?_
  rintro e w5 ⟨hb5, rfl⟩
  have hbA : Below W2.heap.size W2 w5 := hb4.trans (hb5.mono hb4.size)
  clear r1 r2 C1
  go_wp2_with fail
  refine (merges_any _).mono ?_
  rintro e w6 ⟨rfl, hb6⟩
  have hbB : Below W2.heap.size W2 w6 := hbA.trans (hb6.mono hbA.size)
  have hX := hX2.after hbB
  have hY := hY2.after hbB
  have hbw : Below gx w w6 := hb2.trans (hbB.mono (by rw [← hgx] at hb2 ⊢; exact hb2.size))
  have p0 : w6.cell? ⟨gx, 0, none⟩ = some (.int .i64 x0) := hX.cell 0
  have p1 : w6.cell? ⟨gx, 1, none⟩ = some (.int .i64 x1) := hX.cell 1
  have p2 : w6.cell? ⟨gx, 2, none⟩ = some (.string x2) := hX.cell 2
  have s0 : w6.cell? ⟨gy, 0, none⟩ = some (.int .i64 y0) := hY.cell 0
  have s1 : w6.cell? ⟨gy, 1, none⟩ = some (.int .i64 y1) := hY.cell 1
  have s2 : w6.cell? ⟨gy, 2, none⟩ = some (.string y2) := hY.cell 2
  have hxl : gx < w6.heap.size := hX.lt
  have hyl : gy < w6.heap.size := hY.lt
  have HW6 : Hid (w.heap.size ≤ w6.heap.size) := Lib.hid (by rw [← hgx] at hbw; exact hbw.size)
  clear hX2 hY2 hb2 hb4 hb5 hb6 hbA hbB
  go_wp2
  go_region
  · have rx := ((Reads.made w6 #[.int .i64 x0, .int .i64 x1, .string x2] 31 1 3 rfl).after ((Below.refl _ _).alloc (Nat.le_refl _) (Obj.cells #[.int .i64 y0, .int .i64 y1, .string y2] 31))).drew
    have ry := (Reads.made (w6.alloc (Obj.cells #[.int .i64 x0, .int .i64 x1, .string x2] 31)) #[.int .i64 y0, .int .i64 y1, .string y2] 31 1 3 rfl).drew
    rw [show (w6.alloc (Obj.cells #[.int .i64 x0, .int .i64 x1, .string x2] 31)).heap.size = w6.heap.size + 1 from by simp] at ry
    have hbW : Below w6.heap.size w6 ((w6.alloc (Obj.cells #[.int .i64 x0, .int .i64 x1, .string x2] 31)).alloc (Obj.cells #[.int .i64 y0, .int .i64 y1, .string y2] 31)).drew := (((Below.refl _ _).alloc (Nat.le_refl _) _).alloc (by simp) _).drew
    have rx : Reads ((w6.alloc (Obj.cells #[.int .i64 x0, .int .i64 x1, .string x2] 31)).alloc (Obj.cells #[.int .i64 y0, .int .i64 y1, .string y2] 31)).drew ((w6.alloc (Obj.cells #[.int .i64 x0, .int .i64 x1, .string x2] 31)).alloc (Obj.cells #[.int .i64 y0, .int .i64 y1, .string y2] 31)).drew.heap.size _ 1 3 _ := rx
    have ry : Reads ((w6.alloc (Obj.cells #[.int .i64 x0, .int .i64 x1, .string x2] 31)).alloc (Obj.cells #[.int .i64 y0, .int .i64 y1, .string y2] 31)).drew ((w6.alloc (Obj.cells #[.int .i64 x0, .int .i64 x1, .string x2] 31)).alloc (Obj.cells #[.int .i64 y0, .int .i64 y1, .string y2] 31)).drew.heap.size _ 1 3 _ := ry
    generalize ((w6.alloc (Obj.cells #[.int .i64 x0, .int .i64 x1, .string x2] 31)).alloc (Obj.cells #[.int .i64 y0, .int .i64 y1, .string y2] 31)).drew = W at *
    generalize w6.heap.size + 1 = gq at *
    generalize hgp : w6.heap.size = gp at *
    have hXW := hX.after (by rw [hgp]; exact hbW)
    have hYW := hY.after (by rw [hgp]; exact hbW)
    have hbw7 : Below gx w W := hbw.trans (hbW.mono (by omega))
    have hgW : gx ≤ W.heap.size := by have := hXW.lt; omega
    clear p0 p1 p2 s0 s1 s2 hX hY hbw hgp hxl hyl hbW HW6 hgxy
    go_wp2_with fail
    refine (HX1.out _ _ 1 1 _ W rx ry (Nat.le_refl _)).mono ?_
    rintro e w7 ⟨hb7, A1, k1, c1, rfl⟩
    have hbw8 : Below gx w w7 := hbw7.trans (hb7.mono hgW)
    have hg7 : gx ≤ w7.heap.size := Nat.le_trans hgW hb7.size
    have rx7 := rx.after hb7
    have ry7 := ry.after hb7
    go_wp2_with fail
    refine (HX2.out _ _ 1 1 _ w7 ry7 rx7 (Nat.le_refl _)).mono ?_
    rintro e w8 ⟨hb8, A2, k2, c2, rfl⟩
    have hbw9 : Below gx w w8 := hbw8.trans (hb8.mono hg7)
    have hg8 : gx ≤ w8.heap.size := Nat.le_trans hg7 hb8.size
    have rx8 := rx7.after hb8
    have ry8 := ry7.after hb8
    go_wp2_with fail
    refine (HC1.out _ 1 _ w8 rx8 (Nat.le_refl _)).mono ?_
    rintro e w9 ⟨rfl, hb9⟩
    have hbw10 : Below gx w w9 := hbw9.trans (hb9.mono hg8)
    have hg9 : gx ≤ w9.heap.size := Nat.le_trans hg8 hb9.size
    have ry9 := ry8.after hb9
    have hX9 := ((hXW.after hb7).after hb8).after hb9
    have hY9 := ((hYW.after hb7).after hb8).after hb9
    have Hd : Hid (checkE n [(x0, x1, x2)] = 0 → 0 ≤ x0 ∧ 0 ≤ x1 ∧ x0 + x1 ≤ 200) := Lib.hid (single_bd n (x0, x1, x2))
    have Hd2 : Hid (checkE n [(y0, y1, y2)] = 0 → 0 ≤ y0 ∧ 0 ≤ y1 ∧ y0 + y1 ≤ 200) := Lib.hid (single_bd n (y0, y1, y2))
    clear hb7 hb8 hb9 rx ry rx7 ry7 rx8 ry8 hXW hYW hbw7 hbw8 hbw9 hgW hg7 hg8 HX1 HX2 HC1
    generalize bothE n [(x0, x1, x2)] [(y0, y1, y2)] = B1 at *
    generalize bothE n [(y0, y1, y2)] [(x0, x1, x2)] = B2 at *
    generalize checkE n [(x0, x1, x2)] = E1 at *
    by_cases h1 : E1 = 0
    · go_wp2_with fail
      refine (HC2.out _ 1 _ w9 ry9 (Nat.le_refl _)).mono ?_
      rintro e w10 ⟨rfl, hb10⟩
      have hbw11 : Below gx w w10 := hbw10.trans (hb10.mono hg9)
      have hX10 := hX9.after hb10
      have hY10 := hY9.after hb10
      generalize checkE n [(y0, y1, y2)] = E2 at *
      have p0 : w10.cell? ⟨gx, 0, none⟩ = some (.int .i64 x0) := hX10.cell 0
      have p1 : w10.cell? ⟨gx, 1, none⟩ = some (.int .i64 x1) := hX10.cell 1
      have p2 : w10.cell? ⟨gx, 2, none⟩ = some (.string x2) := hX10.cell 2
      have s0 : w10.cell? ⟨gy, 0, none⟩ = some (.int .i64 y0) := hY10.cell 0
      have s1 : w10.cell? ⟨gy, 1, none⟩ = some (.int .i64 y1) := hY10.cell 1
      have s2 : w10.cell? ⟨gy, 2, none⟩ = some (.string y2) := hY10.cell 2
      clear hX9 hY9 hX10 hY10 hb10 HC2 ry9
      by_cases h2 : E2 = 0
      · obtain ⟨l1, l2⟩ := HLaw.out h1 h2
        obtain ⟨a1, a2, a3⟩ := Hd.out h1
        obtain ⟨b1, b2, b3⟩ := Hd2.out h2
        subst h1 h2 l1
        clear HLaw HMb HMc Hd Hd2
        by_cases hxy : ((x0, x1, x2) : Ed) = (y0, y1, y2)
        · rw [decide_eq_true hxy] at heq
          have hc : (B1 == 9) = false := by rw [l2]; exact decide_eq_false (fun h => h.1 hxy)
          have hB : (B1 == B1) = true := by simp
          clear l2 hxy
          go_wp2
          go_ret
          exact ⟨rfl, hgx ▸ hbw11⟩
        · rw [decide_eq_false hxy] at heq
          have hB : (B1 == B1) = true := by simp
          have hcl : decide (Clash (x0, x1, x2) (y0, y1, y2)) = (decide (x0 ≤ y0 + y1) && decide (y0 ≤ x0 + x1)) := by
            rw [Bool.eq_iff_iff, decide_eq_true_iff, Bool.and_eq_true, decide_eq_true_iff, decide_eq_true_iff]
            exact ⟨fun h => h.2, fun h => ⟨hxy, h⟩⟩
          rw [hcl] at l2
          clear hxy hcl
          by_cases hq1 : y0 + y1 < x0
          · have q1 : decide (y0 + y1 < x0) = true := decide_eq_true hq1
            have hc : (B1 == 9) = false := by rw [l2, decide_eq_false (by omega)]; rfl
            clear l2
            go_wp2
            go_ret
            exact ⟨rfl, hgx ▸ hbw11⟩
          · have q1 : decide (y0 + y1 < x0) = false := decide_eq_false hq1
            by_cases hq2 : x0 + x1 < y0
            · have q2 : decide (x0 + x1 < y0) = true := decide_eq_true hq2
              have hc : (B1 == 9) = false := by rw [l2, decide_eq_false (p := y0 ≤ x0 + x1) (by omega), Bool.and_false]
              clear l2
              go_wp2
              go_ret
              exact ⟨rfl, hgx ▸ hbw11⟩
            · have q2 : decide (x0 + x1 < y0) = false := decide_eq_false hq2
              have hc : (B1 == 9) = true := by rw [l2, decide_eq_true (p := y0 ≤ x0 + x1) (by omega), decide_eq_true (p := x0 ≤ y0 + y1) (by omega)]; rfl
              clear l2
              go_wp2
              go_ret
              exact ⟨rfl, hgx ▸ hbw11⟩
      · obtain ⟨m1, m2⟩ := HMc.out h2
        have q1 : (E2 != 0) = true := by simpa using h2
        have q2 : (B1 != 0) = true := by simpa using m1
        have q3 : (B2 != 0) = true := by simpa using m2
        clear HLaw HMb HMc m1 m2 h2
        subst h1
        go_wp2
        go_ret
        exact ⟨rfl, hgx ▸ hbw11⟩
    · obtain ⟨m1, m2⟩ := HMb.out h1
      have q1 : (E1 != 0) = true := by simpa using h1
      have q2 : (B1 != 0) = true := by simpa using m1
      have q3 : (B2 != 0) = true := by simpa using m2
      clear HLaw HMb HMc m1 m2 h1
      go_wp2
      go_ret
      exact ⟨rfl, hgx ▸ hbw10⟩
  · have ry := ((Reads.made w6 #[.int .i64 y0, .int .i64 y1, .string y2] 31 1 3 rfl).after ((Below.refl _ _).alloc (Nat.le_refl _) (Obj.cells #[.int .i64 x0, .int .i64 x1, .string x2] 31))).drew
    have rx := (Reads.made (w6.alloc (Obj.cells #[.int .i64 y0, .int .i64 y1, .string y2] 31)) #[.int .i64 x0, .int .i64 x1, .string x2] 31 1 3 rfl).drew
    rw [show (w6.alloc (Obj.cells #[.int .i64 y0, .int .i64 y1, .string y2] 31)).heap.size = w6.heap.size + 1 from by simp] at rx
    have hbW : Below w6.heap.size w6 ((w6.alloc (Obj.cells #[.int .i64 y0, .int .i64 y1, .string y2] 31)).alloc (Obj.cells #[.int .i64 x0, .int .i64 x1, .string x2] 31)).drew := (((Below.refl _ _).alloc (Nat.le_refl _) _).alloc (by simp) _).drew
    have rx : Reads ((w6.alloc (Obj.cells #[.int .i64 y0, .int .i64 y1, .string y2] 31)).alloc (Obj.cells #[.int .i64 x0, .int .i64 x1, .string x2] 31)).drew ((w6.alloc (Obj.cells #[.int .i64 y0, .int .i64 y1, .string y2] 31)).alloc (Obj.cells #[.int .i64 x0, .int .i64 x1, .string x2] 31)).drew.heap.size _ 1 3 _ := rx
    have ry : Reads ((w6.alloc (Obj.cells #[.int .i64 y0, .int .i64 y1, .string y2] 31)).alloc (Obj.cells #[.int .i64 x0, .int .i64 x1, .string x2] 31)).drew ((w6.alloc (Obj.cells #[.int .i64 y0, .int .i64 y1, .string y2] 31)).alloc (Obj.cells #[.int .i64 x0, .int .i64 x1, .string x2] 31)).drew.heap.size _ 1 3 _ := ry
    generalize ((w6.alloc (Obj.cells #[.int .i64 y0, .int .i64 y1, .string y2] 31)).alloc (Obj.cells #[.int .i64 x0, .int .i64 x1, .string x2] 31)).drew = W at *
    generalize w6.heap.size + 1 = gp at *
    generalize hgp : w6.heap.size = gq at *
    have hXW := hX.after (by rw [hgp]; exact hbW)
    have hYW := hY.after (by rw [hgp]; exact hbW)
    have hbw7 : Below gx w W := hbw.trans (hbW.mono (by omega))
    have hgW : gx ≤ W.heap.size := by have := hXW.lt; omega
    clear p0 p1 p2 s0 s1 s2 hX hY hbw hgp hxl hyl hbW HW6 hgxy
    go_wp2_with fail
    refine (HX1.out _ _ 1 1 _ W rx ry (Nat.le_refl _)).mono ?_
    rintro e w7 ⟨hb7, A1, k1, c1, rfl⟩
    have hbw8 : Below gx w w7 := hbw7.trans (hb7.mono hgW)
    have hg7 : gx ≤ w7.heap.size := Nat.le_trans hgW hb7.size
    have rx7 := rx.after hb7
    have ry7 := ry.after hb7
    go_wp2_with fail
    refine (HX2.out _ _ 1 1 _ w7 ry7 rx7 (Nat.le_refl _)).mono ?_
    rintro e w8 ⟨hb8, A2, k2, c2, rfl⟩
    have hbw9 : Below gx w w8 := hbw8.trans (hb8.mono hg7)
    have hg8 : gx ≤ w8.heap.size := Nat.le_trans hg7 hb8.size
    have rx8 := rx7.after hb8
    have ry8 := ry7.after hb8
    go_wp2_with fail
    refine (HC1.out _ 1 _ w8 rx8 (Nat.le_refl _)).mono ?_
    rintro e w9 ⟨rfl, hb9⟩
    have hbw10 : Below gx w w9 := hbw9.trans (hb9.mono hg8)
    have hg9 : gx ≤ w9.heap.size := Nat.le_trans hg8 hb9.size
    have ry9 := ry8.after hb9
    have hX9 := ((hXW.after hb7).after hb8).after hb9
    have hY9 := ((hYW.after hb7).after hb8).after hb9
    have Hd : Hid (checkE n [(x0, x1, x2)] = 0 → 0 ≤ x0 ∧ 0 ≤ x1 ∧ x0 + x1 ≤ 200) := Lib.hid (single_bd n (x0, x1, x2))
    have Hd2 : Hid (checkE n [(y0, y1, y2)] = 0 → 0 ≤ y0 ∧ 0 ≤ y1 ∧ y0 + y1 ≤ 200) := Lib.hid (single_bd n (y0, y1, y2))
    clear hb7 hb8 hb9 rx ry rx7 ry7 rx8 ry8 hXW hYW hbw7 hbw8 hbw9 hgW hg7 hg8 HX1 HX2 HC1
    generalize bothE n [(x0, x1, x2)] [(y0, y1, y2)] = B1 at *
    generalize bothE n [(y0, y1, y2)] [(x0, x1, x2)] = B2 at *
    generalize checkE n [(x0, x1, x2)] = E1 at *
    by_cases h1 : E1 = 0
    · go_wp2_with fail
      refine (HC2.out _ 1 _ w9 ry9 (Nat.le_refl _)).mono ?_
      rintro e w10 ⟨rfl, hb10⟩
      have hbw11 : Below gx w w10 := hbw10.trans (hb10.mono hg9)
      have hX10 := hX9.after hb10
      have hY10 := hY9.after hb10
      generalize checkE n [(y0, y1, y2)] = E2 at *
      have p0 : w10.cell? ⟨gx, 0, none⟩ = some (.int .i64 x0) := hX10.cell 0
      have p1 : w10.cell? ⟨gx, 1, none⟩ = some (.int .i64 x1) := hX10.cell 1
      have p2 : w10.cell? ⟨gx, 2, none⟩ = some (.string x2) := hX10.cell 2
      have s0 : w10.cell? ⟨gy, 0, none⟩ = some (.int .i64 y0) := hY10.cell 0
      have s1 : w10.cell? ⟨gy, 1, none⟩ = some (.int .i64 y1) := hY10.cell 1
      have s2 : w10.cell? ⟨gy, 2, none⟩ = some (.string y2) := hY10.cell 2
      clear hX9 hY9 hX10 hY10 hb10 HC2 ry9
      by_cases h2 : E2 = 0
      · obtain ⟨l1, l2⟩ := HLaw.out h1 h2
        obtain ⟨a1, a2, a3⟩ := Hd.out h1
        obtain ⟨b1, b2, b3⟩ := Hd2.out h2
        subst h1 h2 l1
        clear HLaw HMb HMc Hd Hd2
        by_cases hxy : ((x0, x1, x2) : Ed) = (y0, y1, y2)
        · rw [decide_eq_true hxy] at heq
          have hc : (B1 == 9) = false := by rw [l2]; exact decide_eq_false (fun h => h.1 hxy)
          have hB : (B1 == B1) = true := by simp
          clear l2 hxy
          go_wp2
          go_ret
          exact ⟨rfl, hgx ▸ hbw11⟩
        · rw [decide_eq_false hxy] at heq
          have hB : (B1 == B1) = true := by simp
          have hcl : decide (Clash (x0, x1, x2) (y0, y1, y2)) = (decide (x0 ≤ y0 + y1) && decide (y0 ≤ x0 + x1)) := by
            rw [Bool.eq_iff_iff, decide_eq_true_iff, Bool.and_eq_true, decide_eq_true_iff, decide_eq_true_iff]
            exact ⟨fun h => h.2, fun h => ⟨hxy, h⟩⟩
          rw [hcl] at l2
          clear hxy hcl
          by_cases hq1 : y0 + y1 < x0
          · have q1 : decide (y0 + y1 < x0) = true := decide_eq_true hq1
            have hc : (B1 == 9) = false := by rw [l2, decide_eq_false (by omega)]; rfl
            clear l2
            go_wp2
            go_ret
            exact ⟨rfl, hgx ▸ hbw11⟩
          · have q1 : decide (y0 + y1 < x0) = false := decide_eq_false hq1
            by_cases hq2 : x0 + x1 < y0
            · have q2 : decide (x0 + x1 < y0) = true := decide_eq_true hq2
              have hc : (B1 == 9) = false := by rw [l2, decide_eq_false (p := y0 ≤ x0 + x1) (by omega), Bool.and_false]
              clear l2
              go_wp2
              go_ret
              exact ⟨rfl, hgx ▸ hbw11⟩
            · have q2 : decide (x0 + x1 < y0) = false := decide_eq_false hq2
              have hc : (B1 == 9) = true := by rw [l2, decide_eq_true (p := y0 ≤ x0 + x1) (by omega), decide_eq_true (p := x0 ≤ y0 + y1) (by omega)]; rfl
              clear l2
              go_wp2
              go_ret
              exact ⟨rfl, hgx ▸ hbw11⟩
      · obtain ⟨m1, m2⟩ := HMc.out h2
        have q1 : (E2 != 0) = true := by simpa using h2
        have q2 : (B1 != 0) = true := by simpa using m1
        have q3 : (B2 != 0) = true := by simpa using m2
        clear HLaw HMb HMc m1 m2 h2
        subst h1
        go_wp2
        go_ret
        exact ⟨rfl, hgx ▸ hbw11⟩
    · obtain ⟨m1, m2⟩ := HMb.out h1
      have q1 : (E1 != 0) = true := by simpa using h1
      have q2 : (B1 != 0) = true := by simpa using m1
      have q3 : (B2 != 0) = true := by simpa using m2
      clear HLaw HMb HMc m1 m2 h1
      go_wp2
      go_ret
      exact ⟨rfl, hgx ▸ hbw10⟩
end Go.Proofs.Ytookbaaicpapnaa
