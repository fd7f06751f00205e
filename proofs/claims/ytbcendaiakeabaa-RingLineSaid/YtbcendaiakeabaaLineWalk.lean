/- The walk of ring.Line. -/
import Derived.Test.YtbcendaiakeabaaLineP
import Derived.Test.YtbcendaiakeabaaNextWalk
import Derived.Test.YtbcendaiakeabaaRingWalk
import Derived.Deep.LoopGhost
namespace Go.Proofs.Ytbcendaiakeabaa
open Go.RowKit
set_option linter.unusedVariables false

/-- A word on the way. -/
structure OnWay (n : Nat) (last : UInt8) (f : Nat) (v r : List UInt8) : Prop where
  lyn : Lyn v
  len : v.length ≤ n
  le : ∀ y ∈ v, y ≤ last
  go : lineGo n last f v = some r
theorem OnWay.pos {n : Nat} {last : UInt8} {f : Nat} {v r : List UInt8} (h : OnWay n last f v r) : 0 < v.length := List.length_pos_iff.2 h.lyn.1
theorem OnWay.stop {n : Nat} {last : UInt8} {f : Nat} {v r : List UInt8} (h : OnWay n last f v r) (hs : ∀ x, x < n → v.getD (x % v.length) 0 = last) : r = if n % v.length = 0 then v else [] := by
  have := h.go
  cases f with
  | zero => cases this
  | succ f => rw [lineGo, nextW_none hs] at this; injection this with this; exact this.symm
theorem OnWay.next {n : Nat} {last : UInt8} {f : Nat} {v r p : List UInt8} (h : OnWay n last f v r) (hp : NextAt v n last p) :
    ∃ g r', f = g + 1 ∧ r = (if n % v.length = 0 then v else []) ++ r' ∧ OnWay n last g (p ++ [v.getD (p.length % v.length) 0 + 1]) r' := by
  have := h.go
  cases f with
  | zero => cases this
  | succ f =>
    rw [lineGo, nextW_some hp] at this
    obtain ⟨r', h1, h2⟩ := Option.map_eq_some_iff.1 this
    refine ⟨f, r', rfl, h2.symm, ⟨(hp.lyn h.lyn).1, ?_, fun y hy => ?_, h1⟩⟩
    · rw [List.length_append]; have := hp.fits; simp; omega
    · rcases List.mem_append.1 hy with hy | hy
      · obtain ⟨j, hj, rfl⟩ := mem_getD hy
        rw [hp.per j hj, getD_some _ _ _ (Nat.mod_lt _ h.pos)]
        exact h.le _ (List.getElem_mem _)
      · rw [List.mem_singleton.1 hy]
        exact (u8_succ hp.can).2 _ hp.can

set_option maxRecDepth 100000 in
set_option maxHeartbeats 4000000 in
theorem line_walk (k n : Nat) (hf : Fits k n) (hn : n ≤ 200) (S : List UInt8) (hS : lineGo n (UInt8.ofNat (96 + k)) 300 [97] = some S) (hSl : S.length ≤ 512) (w : World) :
    Calls Try.prog 30 #[.int .i64 (k : Int), .int .i64 (n : Int)] w fun e w' => ∃ b : ByteArray, b.data.toList = S ∧ e = .returned (.tuple #[.string b, .int .i64 0]) ∧ Below w.heap.size w w' := by
  have hk1 := hf.k1
  have hk8 := hf.k8
  have hn1 := hf.n1
  have hlast : (UInt8.ofNat (96 + k)).toNat = 96 + k := by rw [UInt8.toNat_ofNat']; omega
  have hw0 : OnWay n (UInt8.ofNat (96 + k)) 300 [97] S := ⟨lyn_one 97, by simpa using hn1, fun y hy => by
    rw [List.mem_singleton.1 hy, UInt8.le_iff_toNat_le, hlast]; show 97 ≤ 96 + k; omega, hS⟩
  have C1 := Lib.hid (ringCheck_ok k n hf)
  have hcv : ∀ w : World, (convert 3 5 (.int .i64 (97 + (k : Int) - 1))).run Try.prog w = .ok (.int .u8 ((UInt8.ofNat (96 + k)).toNat : Int)) w := fun w => by
    rw [hlast, show ((96 + k : Nat) : Int) = 97 + (k : Int) - 1 from by omega]
    go_simp
    rw [IntKind.wrap_u8]; congr 2; omega
  generalize UInt8.ofNat (96 + k) = last at *
  have q0 : decide ((200 : Int) < (n : Int)) = false := decide_eq_false (by omega)
  have q0' : decide (200 < n) = false := decide_eq_false (by omega)
  have W0 := Lib.hid hw0
  have Hlast := Lib.hid hlast
  clear hS hw0 hlast hf
  go_enter Try.func30, Try.ntmps30
  go_wp2_with fail
  refine (C1.out _).mono ?_
  rintro e w1 ⟨rfl, rfl⟩
  go_wp2
  clear hcv
  go_loopg [8, 9, 10, 25] 300 (fun f ov wv ev _ wr => ∃ (o v : ByteArray) (E : Int), ov = .string o ∧ wv = .string v ∧ ev = .int .i64 E ∧ Below w.heap.size w wr ∧
      Hid ((E = 0 ∧ ∃ r, OnWay n last f v.data.toList r ∧ o.data.toList ++ r = S) ∨ (E = 4 ∧ o.data.toList = S)))
  case atStart => exact ⟨⟨#[]⟩, ⟨#[97]⟩, 0, rfl, rfl, rfl, Below.refl _ _, .inl ⟨rfl, S, W0.out, rfl⟩⟩
  case round =>
    obtain ⟨o, v, E, rfl, rfl, rfl, hbr, hR⟩ := hrel
    rcases hR.out with ⟨rfl, r, hw, ho⟩ | ⟨rfl, ho⟩
    · have hp := hw.pos
      have hv1 : 0 < v.size := hp
      have hv2 : v.size ≤ n := hw.len
      have hr := hw.go
      have hvs : v.data.toList.length = v.size := rfl
      have N1 := Lib.hid (next_any v (by omega) n (by omega) last)
      have HW := Lib.hid hw
      have Ho := Lib.hid ho
      have hos : o.size + v.size ≤ 9223372036854775807 := by
        have e : o.data.toList.length = o.size := rfl
        have := congrArg List.length ho
        rw [List.length_append] at this; omega
      have hca : ∀ w, (Op.stringOp .add o v).run Try.prog w = .ok (.string (o ++ v)) w := fun w => run_string_add_sum w _ _ hos
      have hend : ∀ (o' : ByteArray) (w2 : World) (e : Ending), o'.data.toList = o.data.toList ++ (if n % v.size = 0 then v.data.toList else []) → ToldNext v.data.toList (n : Int) last wr e w2 →
          ∃ (t : ByteArray) (E : Int) (g : Nat), e = .returned (.tuple #[.string t, .int .i64 E]) ∧ g < gk ∧ Below w.heap.size w w2 ∧ Hid ((E = 0 ∧ ∃ r, OnWay n last g t.data.toList r ∧ o'.data.toList ++ r = S) ∨ (E = 4 ∧ o'.data.toList = S)) := by
        rintro o' w2 e ho' ⟨hb, h⟩
        have hgk : 0 < gk := by
          rcases Nat.eq_zero_or_pos gk with h0 | h0
          · subst h0; cases hr
          · exact h0
        rcases h with ⟨E, _, _, _, hno⟩ | ⟨N, hN, _, _, _, _, h⟩
        · exact absurd ⟨by omega, by omega, by rw [hvs]; omega, HW.out.lyn, HW.out.le⟩ hno
        · obtain rfl : n = N := by omega
          rcases h with ⟨rfl, h⟩ | ⟨p, hp, rfl⟩
          · refine ⟨_, _, 0, rfl, hgk, hbr.trans (hb.mono hbr.size), .inr ⟨rfl, ?_⟩⟩
            rw [ho', ← Ho.out, HW.out.stop h, hvs]
          · obtain ⟨g, r', rfl, hr', hw'⟩ := HW.out.next hp
            refine ⟨_, _, g, rfl, by omega, hbr.trans (hb.mono hbr.size), .inl ⟨rfl, r', hw', ?_⟩⟩
            rw [ho', ← Ho.out, hr', hvs, List.append_assoc]
      have Hend := Lib.hid hend
      have hmodn : n % v.size = 0 → (o ++ v).data.toList = o.data.toList ++ (if n % v.size = 0 then v.data.toList else []) := fun h => by rw [if_pos h]; simp [ByteArray.data_append]
      have hmodz : ¬ n % v.size = 0 → o.data.toList = o.data.toList ++ (if n % v.size = 0 then v.data.toList else []) := fun h => by rw [if_neg h]; simp
      clear hr hvs hend hos hw ho hR
      by_cases hm : n % v.size = 0
      · have q1 : ((n : Int) % (v.size : Int) == 0) = true := by rw [beq_iff_eq]; omega
        have HM := Lib.hid (hmodn hm)
        clear hmodn hmodz hm
        go_wp2_with fail
        refine (N1.out _).mono ?_
        rintro e w2 hT
        obtain ⟨t, E, g, rfl, hg, hb2, hR2⟩ := Hend.out _ _ _ HM.out hT
        go_wp2
        go_roundg g
        case measure => exact hg
        case rel => exact ⟨_, t, E, rfl, rfl, rfl, hb2, hR2⟩
      · have q1 : ((n : Int) % (v.size : Int) == 0) = false := by rw [beq_eq_false_iff_ne]; omega
        have HM := Lib.hid (hmodz hm)
        clear hmodn hmodz hm
        go_wp2_with fail
        refine (N1.out _).mono ?_
        rintro e w2 hT
        obtain ⟨t, E, g, rfl, hg, hb2, hR2⟩ := Hend.out _ _ _ HM.out hT
        go_wp2
        go_roundg g
        case measure => exact hg
        case rel => exact ⟨_, t, E, rfl, rfl, rfl, hb2, hR2⟩
    · clear hR
      have Ho := Lib.hid ho
      clear ho
      go_wp2
      go_ret2
      exact ⟨o, Ho.out, rfl, hbr⟩

set_option maxHeartbeats 400000 in
theorem line_no (k n E : Int) (hE : E ≠ 0) (h : ∀ w : World, Calls Try.prog 63 #[.int .i64 k, .int .i64 n] w fun e w' => e = .returned (.int .i64 E) ∧ w = w') (w : World) :
    Calls Try.prog 30 #[.int .i64 k, .int .i64 n] w fun e w' => e = .returned (.tuple #[.string ⟨#[]⟩, .int .i64 E]) ∧ w = w' := by
  have hE' : (E == 0) = false := by simpa using hE
  have hE2 : (E != 0) = true := by simpa using hE
  have H := Lib.hid h
  clear h
  go_enter Try.func30, Try.ntmps30
  go_wp2_with fail
  refine (H.out _).mono ?_
  rintro e w1 ⟨rfl, rfl⟩
  go_wp2
  go_ret2
  exact ⟨rfl, rfl⟩
set_option maxHeartbeats 400000 in
theorem line_long (k n : Nat) (hf : Fits k n) (hn : ¬ n ≤ 200) (w : World) :
    Calls Try.prog 30 #[.int .i64 (k : Int), .int .i64 (n : Int)] w fun e w' => e = .returned (.tuple #[.string ⟨#[]⟩, .int .i64 2]) ∧ w = w' := by
  have C1 := Lib.hid (ringCheck_ok k n hf)
  have q0 : decide ((200 : Int) < (n : Int)) = true := decide_eq_true (by omega)
  have q0' : decide (200 < n) = true := decide_eq_true (by omega)
  go_enter Try.func30, Try.ntmps30
  go_wp2_with fail
  refine (C1.out _).mono ?_
  rintro e w1 ⟨rfl, rfl⟩
  go_wp2
  go_ret2
  exact ⟨rfl, rfl⟩
end Go.Proofs.Ytbcendaiakeabaa
