/- The walk of mirror.Unlike. -/
import Derived.Test.YtjdeckjkcpglcaaMirrorLong
import Derived.Test.YtjdeckjkcpglcaaStrSort
namespace Go.Proofs.Ytjdeckjkcpglcaa
open Go.RowKit Go.Sort
set_option linter.unusedVariables false

theorem palK_pos (s : List UInt8) (k : Nat) : ∀ {x : Nat}, 0 < x → palK s k x = seg s ((k - x) / 2) x :: palK s k (x - 2)
  | 1, _ => rfl
  | x + 2, _ => rfl
theorem palK_len (s : List UInt8) (k : Nat) : ∀ x, (palK s k x).length ≤ x
  | 0 => Nat.le_refl _
  | 1 => by simp [palK]
  | x + 2 => by
    have := palK_len s k x
    rw [palK, List.length_cons]; omega
theorem palA_len {s : List UInt8} {f : Nat → Nat} {N : Nat} (h : ∀ k, k < N → f k ≤ 200) : ∀ k, k ≤ N → (palA s f k).length ≤ k * 200
  | 0, _ => by simp [palA]
  | k + 1, hk => by
    rw [palA_succ, List.length_append]
    have h1 := palA_len (s := s) h k (by omega)
    have h2 := palK_len s k (f k)
    have h3 := h k (by omega)
    omega
theorem ext_seg (s : ByteArray) (a b : Nat) : s.extract a b = ⟨(seg s.data.toList a (b - a)).toArray⟩ := str_ext (by
  rw [Lib.extract_data]; rfl)

set_option maxRecDepth 100000 in
set_option maxHeartbeats 4000000 in
theorem unlike_ok (s : ByteArray) (hs : s.size ≤ 200) (w : World) :
    Calls Try.prog 11 #[.string s] w fun e w' => ∃ n : Nat, Many (Pal s.data.toList) n ∧ e = .returned (.tuple #[.int .i64 (n : Int), .int .i64 0]) ∧ Below w.heap.size w w' := by
  have HA := Lib.hid (arms_ok s hs)
  have hinfo : (Try.prog.info? 9).map (fun i => (i.zero, i.size, i.bytes)) = some (some (.string ByteArray.empty), 1, 16) := by kernel_rfl
  go_enter Try.func11, Try.ntmps11
  go_wp2_with fail
  refine (HA.out _).mono ?_
  rintro e w1 ⟨g, l, rfl, hl, hat, hv, hb1⟩
  obtain ⟨f, hf⟩ : ∃ f : Nat → Nat, ∀ j, f j = (l.getD j 0).toNat := ⟨fun j => (l.getD j 0).toNat, fun _ => rfl⟩
  have hfa : ∀ k, k < 2 * s.size + 1 → IsArm s.data.toList k (f k) ∧ l.getD k 0 = (f k : Int) := fun k hk => by
    obtain ⟨n, h1, h2⟩ := hv k hk
    have e : f k = n := by rw [hf, h1]; simp
    rw [e]
    exact ⟨h2, h1⟩
  have hmem := fun y => palA_mem (s := s.data.toList) (f := f) (fun k hk => (hfa k hk).1) (y := y)
  have hf200 : ∀ k, k < 2 * s.size + 1 → f k ≤ 200 := fun k hk => by
    have := isArm_bd (hfa k hk).1
    rw [show s.data.toList.length = s.size from rfl] at this
    omega
  have hall := palA_len (s := s.data.toList) hf200
  rw [show s.data.toList.length = s.size from rfl] at hmem
  obtain ⟨N, hN⟩ : ∃ N, N = 2 * s.size + 1 := ⟨_, rfl⟩
  rw [← hN] at hl hfa hmem hf200 hall ⊢
  have Hfa := Lib.hid hfa
  have HN := Lib.hid hN
  have Hl := Lib.hid hl
  have Hmem := Lib.hid hmem
  have Hf2 := Lib.hid hf200
  have Hall := Lib.hid hall
  have hNb : N ≤ 401 := by omega
  have hgl := hat.1
  clear HA hv hf hfa hl hN hmem hf200 hall
  go_wp2
  go_loopw [6, 7, 8, 19] (fun ov _ _ iv wr => ∃ (k m : Nat) (A' : Option Addr) (c' : Nat), k ≤ N ∧ iv = .int .i64 k ∧ ov = .slice A' m c' ∧ Hid (m = (palA s.data.toList f k).length) ∧ OwnK 9 1 wr (· < w1.heap.size) A' m c' ((palA s.data.toList f k).map encStr) ∧ Below w1.heap.size w1 wr) (fun _ _ _ iv _ => N - (intOf iv).toNat)
  case atStart => exact ⟨0, 0, none, 0, Nat.zero_le _, rfl, rfl, Lib.hid rfl, OwnK.nil _ _ _ _, Below.refl _ _⟩
  case round =>
    obtain ⟨k, m, A', c', hk, rfl, rfl, Hm, hown, hbr⟩ := hrel
    by_cases hlt : k < N
    · have c0 := mirrorArms_cell (hat.below hbr hgl) Hl.out hlt
      obtain ⟨hia, hle⟩ := Hfa.out k hlt
      rw [hle] at c0
      have hbd := isArm_bd hia
      have hpar := isArm_parity hia
      rw [show s.data.toList.length = s.size from rfl] at hbd
      have h200 := Hf2.out k hlt
      have hlen := Hall.out k hk
      have hsucc := palA_succ s.data.toList f k
      have Hsucc := Lib.hid hsucc
      have HP0 := Lib.hid (rfl : palK s.data.toList k (f k) = palK s.data.toList k (f k))
      obtain ⟨D0, hD0⟩ : ∃ D, D = palA s.data.toList f k := ⟨_, rfl⟩
      obtain ⟨D1, hD1⟩ : ∃ D, D = palA s.data.toList f (k + 1) := ⟨_, rfl⟩
      have hm := Hm.out
      rw [← hD0] at hown hm hlen
      have Hm0 := Lib.hid hm
      clear hm Hm
      have hfin : D0 ++ palK s.data.toList k (f k) = D1 := by rw [hD0, hD1, hsucc]
      have hx4 : f k ≤ k := hbd.1
      have hx5 : k + f k ≤ 2 * s.size := hbd.2
      have hD1l : D1.length ≤ 401 * 200 := by
        rw [hD1]
        exact Nat.le_trans (Hall.out (k + 1) hlt) (Nat.mul_le_mul_right 200 (Nat.le_trans hlt hNb))
      have HD1 := Lib.hid hD1
      clear hia hle hbd hsucc Hsucc HP0 hD0 hD1 hlen
      generalize f k = x0 at *
      go_wp2
      go_loopw [6, 8] (fun ov xv wq => ∃ (x : Int) (D : List (List UInt8)) (m : Nat) (A' : Option Addr) (c' : Nat), xv = .int .i64 x ∧ -1 ≤ x ∧ x ≤ x0 ∧ (0 < x → (x.toNat + k) % 2 = 0) ∧ ov = .slice A' m c' ∧ Hid (m = D.length) ∧ OwnK 9 1 wq (· < w1.heap.size) A' m c' (D.map encStr) ∧ Hid (D ++ palK s.data.toList k x.toNat = D1) ∧ Below w1.heap.size w1 wq) (fun _ xv _ => (intOf xv + 2).toNat)
      case atStart => exact ⟨(x0 : Int), D0, m, A', c', rfl, by omega, by omega, fun _ => by omega, rfl, Lib.hid Hm0.out, hown, Lib.hid (by rw [Int.toNat_natCast]; exact hfin), hbr⟩
      case round =>
        clear hown hbr c0 hfin Hm0
        obtain ⟨x, D, m, A', c', rfl, hx1, hx2, hxp, rfl, Hm, hown, HD, hbr⟩ := hrel
        have hbs := hbr.size
        by_cases hpos : 0 < x
        · obtain ⟨y, rfl⟩ : ∃ y : Nat, x = y := ⟨x.toNat, by omega⟩
          have hyp := hxp hpos
          have hD := HD.out
          rw [Int.toNat_natCast] at hD hyp
          have hy0 : 0 < y := by omega
          rw [palK_pos s.data.toList k hy0] at hD
          have hDl : D.length ≤ 401 * 200 := by
            refine Nat.le_trans ?_ hD1l
            rw [← hD, List.length_append]
            exact Nat.le_add_right _ _
          obtain ⟨a, ha⟩ : ∃ a, k = y + 2 * a := ⟨(k - y) / 2, by omega⟩
          have e1 : (k - y) / 2 = a := by omega
          rw [e1] at hD
          have q1 : decide ((0 : Int) < (y : Int)) = true := decide_eq_true hpos
          have t1 : ((k : Int) - (y : Int)).tdiv 2 = (a : Int) := by rw [Int.tdiv_eq_ediv_of_nonneg (by omega)]; omega
          have t1' : ((k : Int) - (y : Int)) / 2 = (a : Int) := by omega
          obtain ⟨b, hb⟩ : ∃ b, b = a + y := ⟨_, rfl⟩
          have t2 : ((k : Int) + (y : Int)).tdiv 2 = (b : Int) := by rw [Int.tdiv_eq_ediv_of_nonneg (by omega)]; omega
          have t2' : ((k : Int) + (y : Int)) / 2 = (b : Int) := by omega
          have hab : a ≤ b := by omega
          have hbs2 : b ≤ s.size := by omega
          have hab' : (a : Int) ≤ b := by omega
          have hbs2' : (b : Int) ≤ s.size := by omega
          have hba : b - a = y := by omega
          have hX := ext_seg s a b
          rw [hba] at hX
          have hD2 : (D ++ [seg s.data.toList a y]) ++ palK s.data.toList k ((y : Int) - 2).toNat = D1 := by
            rw [show ((y : Int) - 2).toNat = y - 2 from by clear hD; omega, List.append_assoc, ← hD]
            rfl
          have HD2 := Lib.hid hD2
          have HX := Lib.hid hX
          have Hpar : Hid ((0 : Int) < (y : Int) - 2 → (((y : Int) - 2).toNat + k) % 2 = 0) := Lib.hid fun h => by omega
          have hcl : ∀ j, j < 1 → (wr.alloc (Obj.cells #[.string (s.extract a b)] 9)).cell? ((⟨wr.heap.size, 0, none⟩ : Addr).add j) = ([.string (s.extract a b)] : List Value)[j]? := fun j hj => by
            obtain rfl : j = 0 := by omega
            rw [add_at, World.cell?_alloc_mark]; rfl
          have hmD : m ≤ 80200 := by rw [Hm.out]; exact hDl
          have hk8 : m ≤ 8000000000000 := by omega
          have hk9 : (m + 1) * 16 ≤ 140737488355328 := by omega
          clear hD hD2 hX HD ha e1 hb hba hyp hxp hDl
          go_wp2_with (first | (at_builtin; go_must (refine wpList_append_K rfl (.tmp 28) (.tmp 39) 42 rfl (· < w1.heap.size) (.string ByteArray.empty) 16 hinfo Try.underlying42 rfl (by decide) (by decide) A' m c' _ rfl (hown.alloc (Obj.cells #[.string (s.extract a b)] 9)) ⟨wr.heap.size, 0, none⟩ 1 [.string (s.extract a b)] rfl rfl (by simp [Value.oneCell']) hcl hk9 hk8 (fun k hk => by simp; omega) ?_); intro A3 c3 w3 hown3 hg3 hp3))
          have hb3 : Below w1.heap.size w1 w3 := (hbr.alloc hbs _).grown hg3 (by simp; omega) (fun g hg => by have := (hown.lt g hg).1; omega)
          have e9 : D.map encStr ++ [Value.string (s.extract a b)] = (D ++ [seg s.data.toList a y]).map encStr := by rw [List.map_append, HX.out]; rfl
          rw [e9] at hown3
          clear hown hcl e9 t1 t1' t2 t2'
          go_wp2
          go_roundw
          case rel => exact ⟨(y : Int) - 2, D ++ [seg s.data.toList a y], m + 1, A3, c3, by go_num, by omega, by omega, Hpar.out, rfl, Lib.hid (by rw [List.length_append, Hm.out]; rfl), hown3, Lib.hid HD2.out, hb3⟩
          case measure => simp only [intOf]; omega
        · have q1 : decide ((0 : Int) < x) = false := decide_eq_false hpos
          have hD := HD.out
          rw [show x.toNat = 0 by omega] at hD
          have hD' : D = D1 := by rw [← hD]; exact (List.append_nil D).symm
          subst hD'
          go_wp2
          go_roundw
          case rel => exact ⟨k + 1, m, A', c', by omega, by go_num, rfl, Lib.hid (by rw [Hm.out, HD1.out]), by rw [← HD1.out]; exact hown, hbr⟩
          case measure => simp [intOf]; omega
    · obtain rfl : k = N := by omega
      clear hlt
      have hlen := Hall.out k (Nat.le_refl _)
      have hm := Hm.out
      have HM := Lib.hid (compact_many (P := Pal s.data.toList) (l := palA s.data.toList f k) (fun y => Hmem.out y))
      obtain ⟨Z, hZ⟩ : ∃ Z, Z = palA s.data.toList f k := ⟨_, rfl⟩
      rw [← hZ] at hown hm hlen HM
      have hS := strSort_any (· < w1.heap.size) A' m c' Z wr hm.symm hown (Nat.lt_of_le_of_lt (by rw [hm]; exact Nat.le_trans hlen (Nat.mul_le_mul_right 200 hNb)) (show 401 * 200 < 4611686018427387904 by decide))
      have HS := Lib.hid hS
      have Hlt := Lib.hid hown.lt
      have hbw := chain hbr hb1
      obtain ⟨Y, hY⟩ : ∃ Y, Y = Z.mergeSort fun x y => decide (x ≤ y) := ⟨_, rfl⟩
      have hYl : Y.length = m := by rw [hY, List.length_mergeSort]; exact hm.symm
      rw [← hY] at HS HM
      have HYl := Lib.hid hYl
      have hmb : m ≤ 80200 := by rw [hm]; exact Nat.le_trans hlen (Nat.mul_le_mul_right 200 hNb)
      have hms : w.heap.size ≤ w1.heap.size := hb1.size
      clear hS hown hYl hY hZ hm Hm hlen
      go_wp2_with fail
      refine HS.out.mono ?_
      rintro e w5 ⟨rfl, hown5, hg5⟩
      have hb5 : Below w.heap.size w w5 := hbw.grown hg5 hbw.size (fun g hg => by have := (Hlt.out g hg).1; omega)
      have HC := Lib.hid (strCompact_any (· < w1.heap.size) A' m c' Y w5 HYl.out hown5 (by omega))
      have Hlt5 := Lib.hid hown5.lt
      clear HS hown5 hg5 hbw
      go_wp2_with fail
      refine HC.out.mono ?_
      rintro e w6 ⟨rfl, hg6⟩
      have hb6 : Below w.heap.size w w6 := hb5.grown hg6 hb5.size (fun g hg => by have := (Hlt5.out g hg).1; omega)
      clear HC hg6
      generalize (Lib.compact Y).length = n at *
      go_wp2
      go_ret2
      exact ⟨n, HM.out, rfl, hb6⟩
end Go.Proofs.Ytjdeckjkcpglcaa
