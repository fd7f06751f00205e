/- RingLine's walk: every string of length n occurs exactly once in the de Bruijn sequence. -/
import Derived.Test.YtbcendaiakeabaaLineWalk
import Derived.Test.YtbcendaiakeabaaOwnU
import Derived.Test.YtbcendaiakeabaaAppEq
import Derived.Deep.DeepMust
namespace Go.Proofs.Ytbcendaiakeabaa
open Go.RowKit
set_option linter.unusedVariables false

theorem line23 : lineGo 3 (UInt8.ofNat (96 + 2)) 300 [97] = some [97, 97, 97, 98, 97, 98, 98, 98] := by decide +kernel
def dg (k : Nat) (c : UInt8) : UInt8 := UInt8.ofNat (97 + c.toNat % k)
theorem dg_nat {k : Nat} (hk : 1 ≤ k) (hk8 : k ≤ 8) (c : UInt8) : (dg k c).toNat = 97 + c.toNat % k := by
  have := Nat.mod_lt c.toNat (show 0 < k by omega)
  unfold dg
  rw [UInt8.toNat_ofNat']; omega
def bl (k : Nat) (w : List UInt8) (i : Nat) : List UInt8 := (List.range i).map fun j => dg k (w.getD j 0)
theorem bl_succ (k : Nat) (w : List UInt8) (i : Nat) : bl k w (i + 1) = bl k w i ++ [dg k (w.getD i 0)] := by simp [bl, List.range_succ]
theorem bl_len (k : Nat) (w : List UInt8) (i : Nat) : (bl k w i).length = i := by simp [bl]
theorem bl_digs {k : Nat} (hk : 1 ≤ k) (hk8 : k ≤ 8) (w : List UInt8) (i : Nat) : Digs k (bl k w i) := by
  intro c hc
  obtain ⟨j, _, rfl⟩ := List.mem_map.1 hc
  rw [dg_nat hk hk8]
  have := Nat.mod_lt (w.getD j 0).toNat (show 0 < k by omega)
  omega
/-- A word over and over. -/
def Rep (S l : List UInt8) : Prop := ∃ m, 1 ≤ m ∧ l.length = m * S.length ∧ ∀ j, j < l.length → l.getD j 0 = S.getD (j % S.length) 0
theorem rep_one (S : List UInt8) : Rep S S := ⟨1, Nat.le_refl _, by omega, fun j hj => by rw [Nat.mod_eq_of_lt hj]⟩
theorem Rep.more {S l : List UInt8} (h : Rep S l) : Rep S (l ++ S) := by
  obtain ⟨m, h1, h2, h3⟩ := h
  refine ⟨m + 1, by omega, by rw [List.length_append, h2, Nat.succ_mul], fun j hj => ?_⟩
  by_cases hl : j < l.length
  · rw [getD_app_left _ _ _ _ hl, h3 j hl]
  · rw [List.length_append] at hj
    rw [getD_app_right _ _ _ _ (by omega)]
    have : j % S.length = j - l.length := by
      rw [show j = (j - l.length) + m * S.length from by omega, Nat.add_mul_mod_self_right, Nat.mod_eq_of_lt (by omega)]
      omega
    rw [this]
theorem Rep.cut {S l : List UInt8} (h : Rep S l) (n : Nat) (hn : S.length + n - 1 ≤ l.length) : l.take (S.length + n - 1) = wideOf S n := by
  obtain ⟨m, h1, h2, h3⟩ := h
  refine ext_getD _ _ 0 (by rw [List.length_take]; simp [wideOf]; omega) fun j hj => ?_
  rw [List.length_take] at hj
  rw [getD_take _ _ _ _ (by omega), h3 j (by omega), getD_some (wideOf S n) _ _ (by simp [wideOf]; omega)]
  simp [wideOf]

set_option maxRecDepth 100000 in
set_option maxHeartbeats 4000000 in
theorem ringLine_walk (k0 n0 : Int) (v : ByteArray) (hk0 : (Lit.int .i64 k0).wf = true) (hn0 : (Lit.int .i64 n0).wf = true) (hv : v.size ≤ 140737488351232) {w : World} :
    Calls Try.prog 6 #[.int .i64 k0, .int .i64 n0, .string v] w fun e w' => e = .returned (.bool true) ∧ Below w.heap.size w w' := by
  have c1 : ∀ w, Calls Try.prog 30 #[.int .i64 2, .int .i64 3] w fun e w' => e = .returned (.tuple #[.string ⟨#[97, 97, 97, 98, 97, 98, 98, 98]⟩, .int .i64 0]) ∧ Below w.heap.size w w' := fun w =>
    (line_walk 2 3 ⟨by decide, by decide, by decide, by decide, by decide⟩ (by decide) _ line23 (by decide) w).mono fun e w' ⟨b, hb, he, hbw⟩ => by
      have : b = ⟨#[97, 97, 97, 98, 97, 98, 98, 98]⟩ := ba_ext hb
      rw [this] at he
      exact ⟨he, hbw⟩
  have C1 := Lib.hid c1
  clear c1
  have hbad : ∀ E : Int, E ≠ 0 → (∀ w, Calls Try.prog 30 #[.int .i64 k0, .int .i64 n0] w fun e w' => e = .returned (.tuple #[.string ⟨#[]⟩, .int .i64 E]) ∧ w = w') →
      Calls Try.prog 6 #[.int .i64 k0, .int .i64 n0, .string v] w fun e w' => e = .returned (.bool true) ∧ Below w.heap.size w w' := fun E hE h => by
    have q1 : (E != 0) = true := by simpa using hE
    have H := Lib.hid h
    clear h
    go_enter Try.func6, Try.ntmps6
    go_wp2_with fail
    refine (C1.out _).mono ?_
    rintro e w1 ⟨rfl, hb1⟩
    go_wp2_with fail
    refine (H.out _).mono ?_
    rintro e w2 ⟨rfl, rfl⟩
    go_wp2
    go_ret
    exact ⟨by simp, hb1⟩
  rcases ringCheck_cases k0 n0 with ⟨k, n, rfl, rfl, hf⟩ | ⟨E, hE, h⟩
  case inr => exact hbad E hE (line_no k0 n0 E hE h)
  by_cases hn : n ≤ 200
  case neg => exact hbad 2 (by decide) (line_long k n hf hn)
  clear hbad
  obtain ⟨S, h1, h2, h3, h4⟩ := line_once hf hn
  have hk1 := hf.k1
  have hk8 := hf.k8
  have hn1 := hf.n1
  have hpow := hf.pow
  have hL := line_walk k n hf hn S h1 (by omega)
  have h5 := h4 (bl k v.data.toList n) (bl_len _ _ _) (bl_digs hk1 hk8 _ _)
  have hpp := fun j (hj : j < n) => pow_next (k := k) (j := j) (Nat.le_trans (pow_le hk1 hj) hpow)
  rw [← h2] at h5
  have H1 := Lib.hid hL
  have H2 := Lib.hid h2
  have H5 := Lib.hid h5
  have Hpp := Lib.hid hpp
  have hSl : S.length ≤ 512 := by omega
  have hS1 : 1 ≤ S.length := by rw [h2]; exact Nat.pow_pos (by omega)
  clear h1 h2 h3 h4 h5 hL hf hpp
  go_enter Try.func6, Try.ntmps6
  go_wp2_with fail
  refine (C1.out _).mono ?_
  rintro e w1 ⟨rfl, hb1⟩
  go_wp2_with fail
  refine (H1.out _).mono ?_
  rintro e w2 ⟨b, hb, rfl, hb2⟩
  have hbw := chain hb2 hb1
  have hbs : b.size = S.length := by rw [← hb]; rfl
  have Hb := Lib.hid hb
  have Hbs := Lib.hid hbs
  have Hpow := Lib.hid hpow
  clear hb hbs hb1 hb2 hpow
  go_wp2
  go_loop [11, 39] (fun mv iv => ∃ i : Nat, i ≤ n ∧ iv = .int .i64 i ∧ mv = .int .i64 ((k ^ i : Nat) : Int)) (fun _ iv => n - (intOf iv).toNat)
  case atStart => exact ⟨0, Nat.zero_le _, rfl, rfl⟩
  case round =>
    obtain ⟨i, hi, rfl, rfl⟩ := hrel
    by_cases hlt : i < n
    · obtain ⟨p1, p2, p3⟩ := Hpp.out i hlt
      have P3 := Lib.hid p3
      clear p3
      generalize hK : k ^ i = K at *
      clear hK
      go_wp2
      go_round
      case rel => exact ⟨i + 1, by omega, by go_num, by rw [P3.out]⟩
      case measure => simp [intOf]; omega
    · obtain rfl : n = i := by omega
      have q1 : ((b.size : Int) != ((k ^ n : Nat) : Int)) = false := by rw [bne_eq_false_iff_eq, Hbs.out, H2.out]
      generalize hK : k ^ n = K at *
      clear hK
      go_wp2
      have hB : w.heap.size ≤ w2.heap.size := hbw.size
      go_loopw [12, 13, 14, 51] (fun bv _ _ iv wr => ∃ (i : Nat) (A : Option Addr) (c : Nat), i ≤ n ∧ iv = .int .i64 i ∧ bv = .slice A i c ∧ OwnU wr (· < w.heap.size) A i c (bl k v.data.toList i) ∧ Below w.heap.size w wr) (fun _ _ _ iv _ => n - (intOf iv).toNat)
      case atStart =>
        refine ⟨0, _, 0, Nat.zero_le _, rfl, rfl, ⟨rfl, .inr ⟨w2.heap.size, 0, #[], rfl, by omega, Blk.new w2 _ _, Nat.le_refl _, Nat.zero_le _, rfl, rfl⟩⟩, hbw.alloc hB _⟩
      case round =>
        clear hbw hB
        obtain ⟨i, A, c, hi, rfl, rfl, hown, hbr⟩ := hrel
        by_cases hlt : i < n
        · have hbs' := bl_succ k v.data.toList i
          have HBS := Lib.hid hbs'
          clear hbs'
          have hcv : ∀ w : World, (convert 3 5 (.int .i64 (k : Int))).run Try.prog w = .ok (.int .u8 (k : Int)) w := fun w => by
            go_simp
            rw [IntKind.wrap_u8]; congr 2; omega
          have hi8 : i ≤ 8000000000000 := by omega
          have hBr := hbr.size
          have key : ∀ (cc : UInt8), cc = v.data.toList.getD i 0 → ∃ A' c' w', (Builtin.append_ #[22, 22] 22 #[.slice A i c, .slice (some ⟨wr.heap.size, 0, none⟩) 1 1]).run Try.prog (wr.alloc (Obj.cells #[.int .u8 (97 + (cc.toNat : Int) % (k : Int))] 5)) = .ok (.slice A' (i + 1) c') w' ∧
              OwnU w' (· < w.heap.size) A' (i + 1) c' (bl k v.data.toList (i + 1)) ∧ Below w.heap.size w w' := fun cc hcc => by
            have e1 : ((dg k cc).toNat : Int) = 97 + (cc.toNat : Int) % (k : Int) := by rw [dg_nat hk1 hk8]; omega
            obtain ⟨A', c', w', r1, r2, r3, r4⟩ := run_append_U (P := Try.prog) (wr.alloc (Obj.cells #[.int .u8 (97 + (cc.toNat : Int) % (k : Int))] 5)) (· < w.heap.size) 22 22 Try.underlying22 infoU8 A i c _ (hown.alloc _) ⟨wr.heap.size, 0, none⟩ 1 (dg k cc) (by
              rw [World.cell?_alloc_mark, ← e1]; rfl) rfl hi8 (fun q hq => by simp; omega)
            refine ⟨A', c', w', r1, by rw [HBS.out, ← hcc]; exact r2, (hbr.alloc hBr _).grown r3 (by simp; omega) fun q hq => ?_⟩
            have := (hown.lt q hq).1; omega
          have Key := Lib.hid key
          clear key
          by_cases hvi : i < v.size
          · have hgi := getD_bytes v i hvi
            have q2 : decide (i < v.size) = true := decide_eq_true hvi
            have q2' : decide ((i : Int) < (v.size : Int)) = true := decide_eq_true (by omega)
            obtain ⟨A', c', w', r1, r2, r3⟩ := Key.out v[i] hgi.symm
            clear hgi
            have hv8 : (v[i].toNat : Int) < 256 := by have := v[i].toNat_lt; omega
            have hm0 : 0 ≤ (v[i].toNat : Int) % (k : Int) := Int.emod_nonneg _ (by omega)
            have hm1 : (v[i].toNat : Int) % (k : Int) < (k : Int) := Int.emod_lt_of_pos _ (by omega)
            go_wp2_with (first | (at_builtin; go_must (refine wpList_app_eq rfl (.tmp 61) (.tmp 67) 22 22 rfl _ _ _ rfl rfl r1 ?_)))
            clear r1 hcv
            go_wp2
            go_roundw
            case rel => exact ⟨i + 1, A', c', by omega, by go_num, rfl, r2, r3⟩
            case measure => simp [intOf]; omega
          · have q2 : decide (i < v.size) = false := decide_eq_false hvi
            have q2' : decide ((i : Int) < (v.size : Int)) = false := decide_eq_false (by omega)
            obtain ⟨A', c', w', r1, r2, r3⟩ := Key.out 0 (by rw [getD_none _ _ _ (by show v.size ≤ i; omega)])
            go_wp2_with (first | (at_builtin; go_must (refine wpList_app_eq rfl (.tmp 61) (.tmp 67) 22 22 rfl _ _ _ rfl rfl r1 ?_)))
            clear r1 hcv
            go_wp2
            go_roundw
            case rel => exact ⟨i + 1, A', c', by omega, by go_num, rfl, r2, r3⟩
            case measure => simp [intOf]; omega
        · obtain rfl : n = i := by omega
          go_wp2
          go_loop [15] (fun ov => ∃ t : ByteArray, ov = .string t ∧ t.size ≤ 2000 ∧ Hid (Rep S t.data.toList)) (fun ov => 4000 - (match ov with | .string t => t.size | _ => 0))
          case atStart => exact ⟨b, rfl, by rw [Hbs.out]; omega, Lib.hid (by rw [Hb.out]; exact rep_one S)⟩
          case round =>
            obtain ⟨t, rfl, ht, Hrep⟩ := hrel
            by_cases hlt2 : t.size < b.size + n - 1
            · have q3 : decide ((t.size : Int) < (b.size : Int) + (n : Int) - 1) = true := decide_eq_true (by omega)
              have hbl2 : b.size ≤ 512 ∧ 1 ≤ b.size := by rw [Hbs.out]; omega
              have hca : ∀ w, (Op.stringOp .add t b).run Try.prog w = .ok (.string (t ++ b)) w := fun w => run_string_add_sum w _ _ (by omega)
              have hts : (t ++ b).size = t.size + b.size := ByteArray.size_append ..
              have Hts := Lib.hid hts
              clear hts
              go_wp2
              go_round
              case rel => exact ⟨t ++ b, rfl, by rw [Hts.out]; omega, Lib.hid (by
                have := Hrep.out.more
                rw [← Hb.out] at this ⊢
                simpa [ByteArray.data_append] using this)⟩
              case measure => 
                show 4000 - (t ++ b).size < 4000 - t.size
                rw [Hts.out]; omega
            · have q3 : decide ((t.size : Int) < (b.size : Int) + (n : Int) - 1) = false := decide_eq_false (by omega)
              have hbl2 : b.size ≤ 512 ∧ 1 ≤ b.size := by rw [Hbs.out]; omega
              have hi1 : (b.size : Int) + (n : Int) - 1 ≤ t.size := by omega
              have hi2 : (0 : Int) ≤ (b.size : Int) + (n : Int) - 1 := by omega
              go_wp2
              have hwl : (t.extract 0 (b.size + n - 1)).data.toList = wideOf S n := by
                rw [Lib.extract_data, List.drop_zero, Nat.sub_zero, Hbs.out]
                exact Hrep.out.cut n (by show S.length + n - 1 ≤ t.size; rw [← Hbs.out]; omega)
              have hws : (t.extract 0 (b.size + n - 1)).size = b.size + n - 1 := by
                rw [show (t.extract 0 (b.size + n - 1)).size = (t.extract 0 (b.size + n - 1)).data.toList.length from rfl, hwl, Hbs.out]; simp [wideOf]
              generalize hX : t.extract 0 (b.size + n - 1) = X at *
              clear hX
              have HwL := Lib.hid hwl
              have Hws := Lib.hid hws
              have hBn : b.size ≤ 512 := hbl2.1
              clear hwl hws hi1 hi2
              go_loopw [16, 17, 91] (fun hv _ iv wr2 => ∃ i : Nat, i ≤ b.size ∧ iv = .int .i64 i ∧ hv = .int .i64 ((hitsTo (wideOf S n) n (bl k v.data.toList n) i : Nat) : Int) ∧ OwnU wr2 (· < w.heap.size) A n c (bl k v.data.toList n) ∧ Below w.heap.size w wr2) (fun _ _ iv _ => b.size - (intOf iv).toNat)
              case atStart => exact ⟨0, Nat.zero_le _, rfl, rfl, hown, hbr⟩
              case round =>
                clear hown hbr
                obtain ⟨i, hi, rfl, rfl, hown, hbr⟩ := hrel
                by_cases hlt3 : i < b.size
                · obtain ⟨j, hj⟩ : ∃ j, i + n = j := ⟨_, rfl⟩
                  have hjx : j ≤ X.size := by rw [Hws.out]; omega
                  have hcv : ∀ q, (convert 22 9 (.slice A n c)).run Try.prog (World.drewN _ q) = .ok (.string ⟨(bl k v.data.toList n).toArray⟩) (World.drewN _ q) := fun q => run_string_U (w := wr.drewN q) 22 9 (hown.keep fun _ _ _ _ => rfl) Try.underlying22 Try.underlying5 Try.underlying9
                  have hcv0 := run_string_U (P := Try.prog) 22 9 hown Try.underlying22 Try.underlying5 Try.underlying9
                  have hst := hitsTo_succ (wideOf S n) n (bl k v.data.toList n) i
                  have hle := hitsTo_le (wideOf S n) n (bl k v.data.toList n) i
                  have hex : (X.extract i j).data.toList = ((wideOf S n).drop i).take n := by
                    rw [Lib.extract_data, HwL.out]; congr 1; omega
                  have hwr : IntKind.i64.wrap ((i : Int) + (n : Int)) = (j : Int) := by rw [IntKind.wrap_i64]; omega
                  have b1 : (i : Int) ≤ (j : Int) := by omega
                  have b2 : (j : Int) ≤ (X.size : Int) := by omega
                  have Hst := Lib.hid hst
                  clear hst hj
                  generalize hitsTo (wideOf S n) n (bl k v.data.toList n) i = hh at *
                  by_cases heq : ((wideOf S n).drop i).take n = bl k v.data.toList n
                  · have q4 : ((X.extract i j).toList == (ByteArray.mk (bl k v.data.toList n).toArray).toList) = true := by
                      rw [ByteArray.toList_eq, ByteArray.toList_eq, beq_iff_eq, hex, heq]
                    have Hhit := Lib.hid (Hst.out.trans (by rw [if_pos heq]))
                    clear hex heq
                    generalize ByteArray.mk (bl k v.data.toList n).toArray = bb at *
                    generalize bl k v.data.toList n = bbl at *
                    go_wp2
                    go_quiet (fail)
                    clear hwr
                    go_wp2
                    go_roundw
                    case rel => exact ⟨i + 1, by omega, by go_num, by rw [Hhit.out]; go_num, hown.keep fun _ _ _ _ => rfl, below_drewN hbr _⟩
                    case measure => simp [intOf]; omega
                  · have q4 : ((X.extract i j).toList == (ByteArray.mk (bl k v.data.toList n).toArray).toList) = false := by
                      rw [ByteArray.toList_eq, ByteArray.toList_eq, beq_eq_false_iff_ne, hex]; exact heq
                    have Hhit := Lib.hid (Hst.out.trans (by rw [if_neg heq]))
                    clear hex heq
                    generalize ByteArray.mk (bl k v.data.toList n).toArray = bb at *
                    generalize bl k v.data.toList n = bbl at *
                    go_wp2
                    go_quiet (fail)
                    clear hwr
                    go_wp2
                    go_roundw
                    case rel => exact ⟨i + 1, by omega, by go_num, by rw [Hhit.out]; go_num, hown.keep fun _ _ _ _ => rfl, below_drewN hbr _⟩
                    case measure => simp [intOf]; omega
                · obtain rfl : i = b.size := by omega
                  rw [Hbs.out, H5.out]
                  go_wp2
                  go_ret
                  exact ⟨by simp, hbr⟩
end Go.Proofs.Ytbcendaiakeabaa
