/- TrieNested's walk: of two patterns that occur at the same position, the shorter one is a prefix of the longer one. -/
import Derived.Test.YtoacgeipcooljaaTries
import Derived.Test.YtoacgeipcooljaaPrefix
import Derived.Test.YtoacgeipcooljaaArgs
import Derived.BigQuiet
import Derived.OpenShut
namespace Go.Proofs.Ytoacgeipcooljaa
open Go.RowKit Go.Sort
set_option linter.unusedVariables false

theorem nested {s : List UInt8} {P : List (List UInt8)} {H : List (Nat × Nat)} (h : IsHits s P H) {i k : Nat} (hi : i < H.length) (hk : k < H.length) (e : (H.getD i (0, 0)).1 = (H.getD k (0, 0)).1) :
    P.getD (H.getD i (0, 0)).2 [] <+: P.getD (H.getD k (0, 0)).2 [] ∨ P.getD (H.getD k (0, 0)).2 [] <+: P.getD (H.getD i (0, 0)).2 [] := by
  have hm : ∀ i, i < H.length → (H.getD i (0, 0)) ∈ H := fun i hi => by rw [getD_some _ _ _ hi]; exact List.getElem_mem _
  have h1 := (h.mem (H.getD i (0, 0)).1 (H.getD i (0, 0)).2).1 (hm i hi)
  have h2 := (h.mem (H.getD k (0, 0)).1 (H.getD k (0, 0)).2).1 (hm k hk)
  have h1 := h1.2
  have h2 := h2.2
  generalize (H.getD i (0, 0)).1 = x at *
  subst e
  rcases Nat.le_total (P.getD (H.getD i (0, 0)).2 []).length (P.getD (H.getD k (0, 0)).2 []).length with hle | hle
  · exact .inl (List.prefix_of_prefix_length_le h1 h2 hle)
  · exact .inr (List.prefix_of_prefix_length_le h2 h1 hle)

set_option maxRecDepth 100000 in
set_option maxHeartbeats 4000000 in
theorem trieNested_walk (s : ByteArray) (A : Option Addr) (n c : Nat) (l : List ByteArray) {w : World} (hs0 : s.size ≤ 140737488351232) (hl0 : StrsIn w A n c l) :
    Calls Try.prog 3 #[.string s, .slice A n c] w fun e w' => e = .returned (.bool true) ∧ Below w.heap.size w w' := by
  obtain ⟨hl, hr, hn, hz, hnc, hcm, _⟩ := hl0
  have hz' : ∀ p ∈ l, p.size ≤ 140737488351232 := fun p hp => hz p hp
  have HF := Lib.hid (fun w1 (hb : Below w.heap.size w w1) => find_any s A n c w.heap.size l w1 (by omega) hnc hl hz' (hr.below hb) hb.size)
  have Hl := Lib.hid hl
  have Hz := Lib.hid hz'
  clear hl hz hz'
  by_cases hE : findE s l = 0
  case neg =>
    have q1 : (findE s l != 0) = true := by rw [bne_iff_ne]; exact hE
    unfold ToldFind at HF
    have HE := Lib.hid hE
    clear hE
    generalize hEE : findE s l = E at *
    go_enter Try.func3, Try.ntmps3
    go_wp2_with fail
    refine (tries_any _).mono ?_
    rintro e w1 ⟨rfl, hb1⟩
    go_wp2_with fail
    refine (HF.out _ hb1).mono ?_
    rintro e w2 ⟨A2, n2, c2, H, rfl, hHl, hown, -, hno, hb2⟩
    have hH := hno HE.out
    subst hH
    have hn2 : n2 = 0 := hHl.symm
    subst hn2
    have hb2 := chain hb2 hb1
    go_wp2
    go_ret
    exact ⟨by first | rfl | simp, hb2⟩
  go_enter Try.func3, Try.ntmps3
  go_wp2_with fail
  refine (tries_any _).mono ?_
  rintro e w1 ⟨rfl, hb1⟩
  go_wp2_with fail
  refine (HF.out _ hb1).mono ?_
  rintro e w2 ⟨A2, n2, c2, H, rfl, hHl, hown, hhits, -, hb2⟩
  have hh := hhits hE
  rw [hE]
  have hb2 := chain hb2 hb1
  have hrd := hown.toReads
  have hcap := hown.cap
  unfold maxLen at hcap
  have Hh := Lib.hid hh
  have HHl := Lib.hid hHl
  clear hh hE hhits hHl hown HF hb1
  go_wp2
  go_loopw [7, 8, 10, 11, 12, 28, 37] (fun _ _ _ _ _ iv _ wr => ∃ i : Nat, i ≤ n2 ∧ iv = .int .i64 i ∧ Below w.heap.size w wr ∧ Below w2.heap.size w2 wr) (fun _ _ _ _ _ iv _ _ => n2 - (intOf iv).toNat)
  case atStart => exact ⟨0, Nat.zero_le _, rfl, hb2, Below.refl _ _⟩
  case round =>
    obtain ⟨i, hi, rfl, hbr, hbr2⟩ := hrel
    by_cases hlt : i < n2
    · have hrw := hrd.below' hbr2 (Nat.le_refl _)
      obtain ⟨g, o, rfl, hg, hc⟩ := hrw.2 (by omega)
      have hcl : ∀ k, k < n2 → w2.cell? ⟨g, o + k * 2, none⟩ = some (.int .i64 ((H.getD k (0, 0)).1 : Int)) ∧ w2.cell? ⟨g, o + k * 2 + 1, none⟩ = some (.int .i64 ((H.getD k (0, 0)).2 : Int)) := fun k hk => by
        obtain ⟨g', o', e, hg', hc'⟩ := hrd.2 (by omega)
        injection e with e
        injection e with e1 e2
        subst e1; subst e2
        have c0 := hc' (k * 2 + 0) (by rw [flat_length cHt 2 cHt_len, HHl.out]; omega)
        have c1 := hc' (k * 2 + 1) (by rw [flat_length cHt 2 cHt_len, HHl.out]; omega)
        rw [flat_getD cHt 2 cHt_len (0, 0) H k _ (by rw [HHl.out]; exact hk) (by omega)] at c0 c1
        rw [Nat.add_zero] at c0
        rw [← Nat.add_assoc] at c1
        exact ⟨c0, c1⟩
      have Hcl := Lib.hid hcl
      clear hrw hc hcl
      have hgw : g < w2.heap.size := hg
      obtain ⟨c0, c1⟩ := Hcl.out i hlt
      have hc0 := (hbr2.cell (p := ⟨g, o + i * 2, none⟩) hgw).trans c0
      have hc1 := (hbr2.cell (p := ⟨g, o + i * 2 + 1, none⟩) hgw).trans c1
      obtain ⟨xa, hxa⟩ : ∃ xa, xa = (H.getD i (0, 0)).1 := ⟨_, rfl⟩
      obtain ⟨xw, hxw⟩ : ∃ xw, xw = (H.getD i (0, 0)).2 := ⟨_, rfl⟩
      rw [← hxa] at hc0
      rw [← hxw] at hc1
      have hic : i ≤ c2 := by omega
      have hB := Blk.new wr 29 #[.int .i64 (xa : Int), .int .i64 (xw : Int)]
      have hbE : Below wr.heap.size wr (wr.alloc (Obj.cells #[.int .i64 (xa : Int), .int .i64 (xw : Int)] 29)) := (Below.refl _ _).alloc (Nat.le_refl _) _
      have hbr3 := chain hbE hbr
      have hbr4 := chain hbE hbr2
      have Hxa := Lib.hid hxa
      have Hxw := Lib.hid hxw
      have hgE : wr.heap.size < (wr.alloc (Obj.cells #[.int .i64 (xa : Int), .int .i64 (xw : Int)] 29)).heap.size := hB.lt
      clear c0 c1 hxa hxw hbr hbr2 hbE
      go_wp2
      generalize wr.alloc (Obj.cells #[.int .i64 (xa : Int), .int .i64 (xw : Int)] 29) = w3 at *
      generalize wr.heap.size = gx at *
      go_loopw [10, 11, 12, 37] (fun _ _ _ jv wr => ∃ j : Nat, j ≤ i ∧ jv = .int .i64 j ∧ Blk wr gx 29 #[.int .i64 (xa : Int), .int .i64 (xw : Int)] ∧ Below w.heap.size w wr ∧ Below w2.heap.size w2 wr) (fun _ _ _ jv _ => i - (intOf jv).toNat)
      case atStart => exact ⟨0, Nat.zero_le _, rfl, hB, hbr3, hbr4⟩
      case round =>
        clear hB hbr3 hbr4 hgE hc0 hc1
        obtain ⟨j, hj, rfl, hB, hbr, hbr2⟩ := hrel
        by_cases hji : j < i
        · obtain ⟨d0, d1⟩ := Hcl.out j (by omega)
          have hd0 := (hbr2.cell (p := ⟨g, o + j * 2, none⟩) hgw).trans d0
          have hd1 := (hbr2.cell (p := ⟨g, o + j * 2 + 1, none⟩) hgw).trans d1
          obtain ⟨ya, hya⟩ : ∃ ya, ya = (H.getD j (0, 0)).1 := ⟨_, rfl⟩
          obtain ⟨yw, hyw⟩ : ∃ yw, yw = (H.getD j (0, 0)).2 := ⟨_, rfl⟩
          rw [← hya] at hd0
          rw [← hyw] at hd1
          have hiH : i < H.length := by rw [HHl.out]; exact hlt
          have hjH : j < H.length := by omega
          have hmi : (xa, xw) ∈ H := by rw [Hxa.out, Hxw.out, getD_some _ _ _ hiH]; exact List.getElem_mem _
          have hmj : (ya, yw) ∈ H := by rw [hya, hyw, getD_some _ _ _ hjH]; exact List.getElem_mem _
          have hxn := ((Hh.out.mem xa xw).1 hmi).1
          have hyn := ((Hh.out.mem ya yw).1 hmj).1
          have hPl : (pats l).length = n := by unfold pats; rw [List.length_map, Hl.out]
          rw [hPl] at hxn hyn
          have hnest := nested Hh.out hiH hjH
          rw [← Hxa.out, ← hya, ← Hxw.out, ← hyw, pats_getD, pats_getD] at hnest
          obtain ⟨mn, hmn⟩ : ∃ mn, mn = min xw yw := ⟨_, rfl⟩
          obtain ⟨mx, hmx⟩ : ∃ mx, mx = max xw yw := ⟨_, rfl⟩
          have hmin : ∀ (ats : Array TypeId) (t : TypeId) (w : World), (Builtin.min_ ats t #[.int .i64 (xw : Int), .int .i64 (yw : Int)]).run Try.prog w = .ok (.int .i64 (mn : Int)) w := fun ats t w => by
            rw [run_min_int2]; congr 2; omega
          have hmax : ∀ (ats : Array TypeId) (t : TypeId) (w : World), (Builtin.max_ ats t #[.int .i64 (xw : Int), .int .i64 (yw : Int)]).run Try.prog w = .ok (.int .i64 (mx : Int)) w := fun ats t w => by
            rw [run_max_int2]; congr 2; omega
          have q1 : decide ((mn : Int) < 0) = false := decide_eq_false (by omega)
          have q2 : decide ((n : Int) ≤ (mx : Int)) = false := decide_eq_false (by omega)
          have q2' : decide (n ≤ mx) = false := decide_eq_false (by omega)
          have hrp := hr.below hbr
          obtain ⟨gp, op, rfl, hgp, hcp⟩ := hrp.2 (by omega)
          have hpc : ∀ k, k < n → wr.cell? ⟨gp, op + k, none⟩ = some (.string (l.getD k ByteArray.empty)) := fun k hk => by
            have p0 := hcp (k * 1 + 0) (by rw [flat_length cStr 1 cStr_len, Hl.out]; omega)
            rw [flat_getD cStr 1 cStr_len ByteArray.empty l k _ (by rw [Hl.out]; exact hk) (by omega)] at p0
            simpa only [cStr, List.getD_cons_zero, Nat.mul_one, Nat.add_zero] using p0
          have hpx := hpc xw hxn
          have hpy := hpc yw hyn
          have hszp : ∀ k, k < n → (l.getD k ByteArray.empty).size ≤ 140737488355328 := fun k hk => by
            have := Hz.out (l.getD k ByteArray.empty) (by rw [getD_some _ _ _ (by rw [Hl.out]; exact hk)]; exact List.getElem_mem _)
            omega
          have hs1 := hszp xw hxn
          have hs2 := hszp yw hyn
          have ixn : (xw : Int) < (n : Int) := by omega
          have iyn : (yw : Int) < (n : Int) := by omega
          have hbE : Below wr.heap.size wr (wr.alloc (Obj.cells #[.int .i64 (ya : Int), .int .i64 (yw : Int)] 29)) := (Below.refl _ _).alloc (Nat.le_refl _) _
          have hBy := Blk.new wr 29 #[.int .i64 (ya : Int), .int .i64 (yw : Int)]
          have hBx := hB.alloc (Obj.cells #[.int .i64 (ya : Int), .int .i64 (yw : Int)] 29)
          have hbr3 := chain hbE hbr
          have hbr4 := chain hbE hbr2
          have x1 := hBx.cell 1
          have x0 := hBx.cell 0
          have y1 := hBy.cell 1
          have y0 := hBy.cell 0
          have hpx' := (hbE.cell (p := ⟨gp, op + xw, none⟩) (by show gp < wr.heap.size; exact Nat.lt_of_lt_of_le hgp hbr.size)).trans hpx
          have hpy' := (hbE.cell (p := ⟨gp, op + yw, none⟩) (by show gp < wr.heap.size; exact Nat.lt_of_lt_of_le hgp hbr.size)).trans hpy
          obtain ⟨px, hpxe⟩ : ∃ px, px = l.getD xw ByteArray.empty := ⟨_, rfl⟩
          obtain ⟨py, hpye⟩ : ∃ py, py = l.getD yw ByteArray.empty := ⟨_, rfl⟩
          rw [← hpxe] at hpx' hs1 hnest
          rw [← hpye] at hpy' hs2 hnest
          have HP1 := Lib.hid (fun w => hasPrefix_any px py hs1 hs2 w)
          have HP2 := Lib.hid (fun w => hasPrefix_any py px hs2 hs1 w)
          clear hiH hjH hmi hmj hPl hmn hmx hrp hcp hpc hpx hpy hszp hB hbr hbr2 d0 d1 hpxe hpye hs1 hs2 hya hyw
          by_cases ha : xa = ya
          case neg =>
            have q3 : ((xa : Int) != (ya : Int)) = true := by rw [bne_iff_ne]; omega
            clear ha hnest hpx' hpy' HP1 HP2
            go_wp2
            go_roundw
            case rel => exact ⟨j + 1, by omega, by go_num, hBx, hbr3, hbr4⟩
            case measure => simp [intOf]; omega
          case pos =>
            have hn2 := hnest ha
            have q3 : ((xa : Int) != (ya : Int)) = false := by rw [ha]; simp
            by_cases hpre : preB px py = true
            case pos =>
              rw [hpre] at HP1
              clear hpre hn2 ha hnest hBy hbE
              go_wp2
              go_quiet (fail)
              go_wp2_with fail
              refine (HP1.out _).mono ?_
              rintro e w5 ⟨rfl, rfl⟩
              go_wp2
              go_roundw
              case rel => exact ⟨j + 1, by omega, by go_num, hBx, ⟨hbr3.os, hbr3.tape, hbr3.output, hbr3.size, hbr3.block⟩, ⟨hbr4.os, hbr4.tape, hbr4.output, hbr4.size, hbr4.block⟩⟩
              case measure => simp [intOf] <;> omega
            case neg =>
              have hpre2 : preB py px = true := by
                rw [preB_iff] at hpre ⊢
                rcases hn2 with h1 | h1
                · exact h1
                · exact absurd h1 hpre
              have hpre' : preB px py = false := by simpa using hpre
              rw [hpre'] at HP1
              rw [hpre2] at HP2
              clear hpre hpre' hpre2 hn2 ha hnest hBy hbE
              go_wp2
              go_quiet (fail)
              go_wp2_with fail
              refine (HP1.out _).mono ?_
              rintro e w5 ⟨rfl, rfl⟩
              go_wp2_with fail
              refine (HP2.out _).mono ?_
              rintro e w6 ⟨rfl, rfl⟩
              go_wp2
              go_roundw
              case rel => exact ⟨j + 1, by omega, by go_num, hBx, ⟨hbr3.os, hbr3.tape, hbr3.output, hbr3.size, hbr3.block⟩, ⟨hbr4.os, hbr4.tape, hbr4.output, hbr4.size, hbr4.block⟩⟩
              case measure => simp [intOf] <;> omega
        · obtain rfl : j = i := by omega
          go_wp2
          go_roundw
          case rel => exact ⟨j + 1, by omega, by go_num, hbr, hbr2⟩
          case measure => simp [intOf]; omega
    · obtain rfl : i = n2 := by omega
      go_wp2
      go_ret
      exact ⟨rfl, hbr⟩
end Go.Proofs.Ytoacgeipcooljaa
