/- The walk of same.Places. -/
import Derived.Test.YtmephgemokngnaaDoorSameWalk
namespace Go.Proofs.YtmephgemokngnaaDoor
open Go.RowKit
set_option linter.unusedVariables false

def px (R : List (Nat × Nat)) : List Int := R.map fun p => ((p.1 : Nat) : Int)
def py (R : List (Nat × Nat)) : List Int := R.map fun p => ((p.2 : Nat) : Int)
theorem px_snoc (R : List (Nat × Nat)) (i k : Nat) : px (R ++ [(i, k)]) = px R ++ [(i : Int)] := by simp [px]
theorem py_snoc (R : List (Nat × Nat)) (i k : Nat) : py (R ++ [(i, k)]) = py R ++ [(k : Int)] := by simp [py]
theorem px_length (R : List (Nat × Nat)) : (px R).length = R.length := by simp [px]
theorem py_length (R : List (Nat × Nat)) : (py R).length = R.length := by simp [py]
/-- Two rows of the call's own lie apart. -/
def ApartV (v v' : Value) : Prop := ∀ g, v.ownBlock = some g → v'.ownBlock ≠ some g
theorem ApartV.symm {v v' : Value} (h : ApartV v v') : ApartV v' v := fun g h1 h2 => h g h2 h1
theorem ApartV.or {v v' : Value} (h : ApartV v v') : v.ownBlock = none ∨ v.ownBlock ≠ v'.ownBlock := by
  cases hv : v.ownBlock with
  | none => exact .inl rfl
  | some g => exact .inr fun e => h g hv e.symm
theorem ownCap {w : World} {B size n c : Nat} {e : TypeId} {A : Option Addr} {xs : List Value} (h : w.ownsRow B e size (.slice A n c) n xs) : n ≤ c := by
  rcases h.2 with ⟨h1, h0⟩ | ⟨g, cap, cur, h1, _, _, h2, _⟩
  · omega
  · injection h1 with _ _ h3
    omega

set_option maxRecDepth 100000 in
set_option maxHeartbeats 4000000 in
theorem places_walk (a b : ByteArray) (ha : a.size ≤ 200) (hb : b.size ≤ 200) (w : World) :
    Calls Tryd.prog 13 #[.string a, .string b] w fun e w' => ∃ A c A' c', e = .returned (.tuple #[.slice A (placesOf a.data.toList b.data.toList).length c, .slice A' (placesOf a.data.toList b.data.toList).length c', .int .i64 0]) ∧
      Reads w' w'.heap.size A (placesOf a.data.toList b.data.toList).length 1 ((px (placesOf a.data.toList b.data.toList)).flatMap cInt) ∧
      Reads w' w'.heap.size A' (placesOf a.data.toList b.data.toList).length 1 ((py (placesOf a.data.toList b.data.toList)).flatMap cInt) ∧ Below w.heap.size w w' ∧
      (placesOf a.data.toList b.data.toList).length ≤ c ∧ (placesOf a.data.toList b.data.toList).length ≤ c' := by
  have hpl := places_length a.data.toList b.data.toList
  have hll := lcs_le_left a.data.toList b.data.toList
  rw [← hpl, show a.data.toList.length = a.size from rfl] at hll
  have Hll := Lib.hid hll
  clear hpl hll
  go_enter Tryd.func13, Tryd.ntmps13
  go_wp2_with fail
  refine (sameCheck_ok a b ha hb _).mono ?_
  rintro e w1 ⟨rfl, rfl⟩
  go_wp2_with fail
  refine (table_ok a b ha hb _).mono ?_
  rintro e w1 ⟨rfl, hg, hb1⟩
  obtain ⟨B, hB⟩ : ∃ B, B = w1.heap.size := ⟨_, rfl⟩
  have hgB : w.heap.size + 1 + a.size < B := by rw [hB]; exact hg.lt
  have hB1 : B ≤ w1.heap.size := by omega
  have HB := Lib.hid hB
  clear hB
  generalize hgg : w.heap.size = g at *
  have Hgg := Lib.hid hgg
  clear hgg
  go_wp2
  go_loopw [9, 10, 11, 12] (fun xv yv iv kv wr => ∃ (i k f n : Nat) (P : List (Nat × Nat)) (A A' : Option Addr) (c c' : Nat), i ≤ a.size ∧ k ≤ b.size ∧ iv = .int .i64 i ∧ kv = .int .i64 k ∧ xv = .slice A n c ∧ yv = .slice A' n c' ∧
      Hid (P.length = n) ∧ Hid (a.size + b.size ≤ f + i + k) ∧ Hid (P ++ pw a.data.toList b.data.toList f i k = placesOf a.data.toList b.data.toList) ∧ ApartV (.slice A n c) (.slice A' n c') ∧
      wr.ownsRow B 3 1 (.slice A n c) n ((px P).flatMap cInt) ∧ wr.ownsRow B 3 1 (.slice A' n c') n ((py P).flatMap cInt) ∧
      GridAt wr g a.size b.size (pl a.data.toList b.data.toList) ∧ Below g w wr ∧ B ≤ wr.heap.size) (fun _ _ iv kv _ => (a.size - (intOf iv).toNat) + (b.size - (intOf kv).toNat))
  case atStart => exact ⟨0, 0, a.size + b.size, 0, [], none, none, 0, 0, Nat.zero_le _, Nat.zero_le _, rfl, rfl, rfl, rfl, rfl, Lib.hid (by omega), rfl, fun g h => by simp [Value.ownBlock] at h, World.ownsRow_nil _ _ _ _, World.ownsRow_nil _ _ _ _, hg, hb1, hB1⟩
  case round =>
    clear hg hb1 hB1
    obtain ⟨i, k, f, n, P, A, A', c, c', hi, hk, rfl, rfl, rfl, rfl, Hn, Hf, HP, hap, hx, hy, hg, hbr, hBr⟩ := hrel
    have hn200 : n ≤ 200 := by
      have h1 := congrArg List.length HP.out
      have h2 := Hll.out
      rw [List.length_append, Hn.out] at h1
      omega
    have r0 := hg.row i hi
    have c00 := hg.cell i k hi hk
    have hi' : (i : Int) < a.size + 1 := by omega
    have hk' : (k : Int) < b.size + 1 := by omega
    have hi'' : i < a.size + 1 := by omega
    have hk'' : k < b.size + 1 := by omega
    by_cases h0 : pl a.data.toList b.data.toList i k = 0
    · have hpw : pw a.data.toList b.data.toList f i k = [] := by
        cases f with
        | zero => rfl
        | succ f => rw [pw, if_pos h0]
      have hfin : P = placesOf a.data.toList b.data.toList := by have := HP.out; rwa [hpw, List.append_nil] at this
      rw [h0] at c00
      have Hfin := Lib.hid hfin
      clear hpw hfin h0
      go_wp2
      go_ret3
      have hn := Hn.out
      subst hn
      rw [← Hfin.out]
      exact ⟨A, c, A', c', rfl, Reads.of_own hx, Reads.of_own hy, by rw [Hgg.out]; exact hbr, ownCap hx, ownCap hy⟩
    · have hpos : 0 < pl a.data.toList b.data.toList i k := by omega
      obtain ⟨hia, hkb⟩ := pl_pos hpos
      have hia : i < a.size := hia
      have hkb : k < b.size := hkb
      have hst := pl_step a.data.toList b.data.toList i k hia hkb
      obtain ⟨f', rfl⟩ : ∃ f', f = f' + 1 := ⟨f - 1, by have := Hf.out; omega⟩
      have hpw : pw a.data.toList b.data.toList (f' + 1) i k = if a[i] = b[k] then (i, k) :: pw a.data.toList b.data.toList f' (i + 1) (k + 1)
          else if pl a.data.toList b.data.toList i (k + 1) ≤ pl a.data.toList b.data.toList (i + 1) k then pw a.data.toList b.data.toList f' (i + 1) k else pw a.data.toList b.data.toList f' i (k + 1) := by
        rw [pw, if_neg h0, getD_bytes a i hia, getD_bytes b k hkb]
      have r1 := hg.row (i + 1) (by omega)
      have c01 := hg.cell i (k + 1) hi (by omega)
      have c10 := hg.cell (i + 1) k (by omega) hk
      have Hpw := Lib.hid hpw
      have q0 : decide ((0 : Int) < (pl a.data.toList b.data.toList i k : Nat)) = true := decide_eq_true (by omega)
      have q0' : decide (0 < pl a.data.toList b.data.toList i k) = true := decide_eq_true hpos
      obtain ⟨Q, hQ⟩ : ∃ Q, i + 1 = Q := ⟨_, rfl⟩
      obtain ⟨C, hC⟩ : ∃ C, k + 1 = C := ⟨_, rfl⟩
      rw [hQ] at r1 c10
      rw [hC] at c01
      have wq : IntKind.i64.wrap ((i : Int) + 1) = (Q : Int) := by rw [IntKind.wrap_i64]; omega
      have wc : IntKind.i64.wrap ((k : Int) + 1) = (C : Int) := by rw [IntKind.wrap_i64]; omega
      have bq : (Q : Int) < a.size + 1 := by omega
      have bc : (C : Int) < b.size + 1 := by omega
      have bq' : Q < a.size + 1 := by omega
      have bc' : C < b.size + 1 := by omega
      have hia' : (i : Int) < a.size := by omega
      have hkb' : (k : Int) < b.size := by omega
      rw [hQ, hC] at hpw
      have Hpw := Lib.hid hpw
      have HQ := Lib.hid hQ
      have HC := Lib.hid hC
      clear hst hpw h0 hQ hC
      generalize pl a.data.toList b.data.toList i k = V at *
      generalize pl a.data.toList b.data.toList i C = V1 at *
      generalize pl a.data.toList b.data.toList Q k = V2 at *
      by_cases heq : a[i] = b[k]
      · have q1 : ((a[i].toNat : Int) == (b[k].toNat : Int)) = true := by rw [heq]; simp
        have hP2 : (P ++ [(i, k)]) ++ pw a.data.toList b.data.toList f' Q C = placesOf a.data.toList b.data.toList := by
          have := HP.out
          rw [Hpw.out, if_pos heq] at this
          rw [List.append_assoc]; exact this
        have HP2 := Lib.hid hP2
        clear heq hP2
        go_wp2
        go_quiet (fail)
        generalize hW : World.drewN _ _ = W
        have hx2 : W.ownsRow B 3 1 (.slice A n c) n ((px P).flatMap cInt) := by rw [← hW]; exact ownsRow_drewN hx _
        have hy2 : W.ownsRow B 3 1 (.slice A' n c') n ((py P).flatMap cInt) := by rw [← hW]; exact ownsRow_drewN hy _
        have hg2 : GridAt W g a.size b.size (pl a.data.toList b.data.toList) := by rw [← hW]; exact hg.drewN _
        have hbr2 : Below g w W := by rw [← hW]; exact below_drewN hbr _
        have hBr2 : B ≤ W.heap.size := by rw [← hW]; exact hBr
        have hlt2 := hy2.lt
        clear hW hx hy hg hbr hBr r0 r1 c00 c01 c10
        go_wp2_with (first
          | (at_builtin; refine wpList_append_apart _ 39 (.tmp 40) (.tmp 42) rfl rfl B 3 infoIntT Tryd.underlying39 rfl (by decide) _ _ _ _ rfl hx2 #[.int .i64 (i : Int)] 1 rfl rfl (by simp [Value.oneCell']) (by unfold maxLen; omega) (by omega) hBr2 ?_; intro A1 c1 w1 hx3 hb3 hg3 hp3)
          | (at_builtin; refine wpList_append_apart _ 39 (.tmp 44) (.tmp 46) rfl rfl B 3 infoIntT Tryd.underlying39 rfl (by decide) _ _ _ _ rfl (hy2.kept hg3 hap.symm.or) #[.int .i64 (k : Int)] 1 rfl rfl (by simp [Value.oneCell']) (by unfold maxLen; omega) (by omega) (by have := hb3.size; omega) ?_; intro A2 c2 w2 hy4 hb4 hg4 hp4))
        have hap3 : ApartV (.slice A1 (n + 1) c1) (.slice A' n c') := fun q h1 h2 => by
          rcases hp3 q h1 with h | h
          · exact hap q h h2
          · have := (hlt2 q h2).2; omega
        have hx4 := hx3.kept hg4 hap3.or
        have hap4 : ApartV (.slice A1 (n + 1) c1) (.slice A2 (n + 1) c2) := fun q h1 h2 => by
          rcases hp4 q h2 with h | h
          · exact hap3 q h1 h
          · have := (hx3.lt q h1).2; omega
        go_roundw
        case rel =>
          refine ⟨Q, C, f', n + 1, P ++ [(i, k)], A1, A2, c1, c2, by omega, by omega, rfl, rfl, rfl, rfl, Lib.hid (by rw [List.length_append, Hn.out]; rfl), Lib.hid ?_, HP2, hap4, ?_, ?_, ?_, ?_, ?_⟩
          · have := Hf.out; have := HQ.out; have := HC.out; omega
          · rw [px_snoc, flat_snoc]; exact hx4
          · rw [py_snoc, flat_snoc]; exact hy4
          · exact (hg2.below (hb3.trans hb4) (by omega))
          · exact hbr2.trans ((hb3.trans hb4).mono (by omega))
          · exact Nat.le_trans hBr2 (Nat.le_trans hb3.size hb4.size)
        case measure => have := HQ.out; have := HC.out; simp [intOf]; omega
      · have q1 : ((a[i].toNat : Int) == (b[k].toNat : Int)) = false := by rw [beq_eq_false_iff_ne]; intro h; exact heq (UInt8.toNat_inj.1 (by omega))
        by_cases hle : V1 ≤ V2
        · have q2 : decide (V1 ≤ V2) = true := decide_eq_true hle
          have q2' : decide ((V1 : Int) ≤ (V2 : Int)) = true := decide_eq_true (by omega)
          have hP2 : P ++ pw a.data.toList b.data.toList f' Q k = placesOf a.data.toList b.data.toList := by
            have := HP.out
            rw [Hpw.out, if_neg heq, if_pos hle] at this
            exact this
          have HP2 := Lib.hid hP2
          clear heq hP2
          go_wp2
          go_quiet (fail)
          go_wp2
          go_quiet (fail)
          go_wp2
          go_roundw
          case rel =>
            refine ⟨Q, k, f', n, P, A, A', c, c', by omega, by omega, rfl, rfl, rfl, rfl, Hn, Lib.hid ?_, HP2, hap, ownsRow_drewN hx _, ownsRow_drewN hy _, hg.drewN _, below_drewN hbr _, hBr⟩
            have := Hf.out; have := HQ.out; omega
          case measure => have := HQ.out; simp [intOf]; omega
        · have q2 : decide (V1 ≤ V2) = false := decide_eq_false hle
          have q2' : decide ((V1 : Int) ≤ (V2 : Int)) = false := decide_eq_false (by omega)
          have hP2 : P ++ pw a.data.toList b.data.toList f' i C = placesOf a.data.toList b.data.toList := by
            have := HP.out
            rw [Hpw.out, if_neg heq, if_neg hle] at this
            exact this
          have HP2 := Lib.hid hP2
          clear heq hP2
          go_wp2
          go_quiet (fail)
          go_wp2
          go_quiet (fail)
          go_wp2
          go_roundw
          case rel =>
            refine ⟨i, C, f', n, P, A, A', c, c', by omega, by omega, rfl, rfl, rfl, rfl, Hn, Lib.hid ?_, HP2, hap, ownsRow_drewN hx _, ownsRow_drewN hy _, hg.drewN _, below_drewN hbr _, hBr⟩
            have := Hf.out; have := HC.out; omega
          case measure => have := HC.out; simp [intOf]; omega

set_option maxHeartbeats 400000 in
theorem places_no (a b : ByteArray) (h : 200 < a.size ∨ 200 < b.size) (w : World) :
    Calls Tryd.prog 13 #[.string a, .string b] w fun e w' => e = .returned (.tuple #[.slice none 0 0, .slice none 0 0, .int .i64 2]) ∧ w = w' := by
  go_enter Tryd.func13, Tryd.ntmps13
  go_wp2_with fail
  refine (sameCheck_no a b h _).mono ?_
  rintro e w1 ⟨rfl, rfl⟩
  go_wp2
  go_ret3
  exact ⟨rfl, rfl⟩

end Go.Proofs.YtmephgemokngnaaDoor
