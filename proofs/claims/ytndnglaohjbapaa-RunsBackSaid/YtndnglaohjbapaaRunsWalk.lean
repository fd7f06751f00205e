/- The walks of front.Runs and front.Whole. -/
import Derived.Test.YtndnglaohjbapaaRuns
import Derived.Test.YtndnglaohjbapaaCheck
import Derived.Test.YtndnglaohjbapaaStruct
import Derived.Deep.QuietTactic
import Derived.BigQuiet
import Derived.Deep.DeepMust
namespace Go.Proofs.Ytndnglaohjbapaa
open Go.RowKit
set_option linter.unusedVariables false

theorem infoRun : (Try.prog.info? 62).map (fun i => (i.zero, i.size, i.bytes)) = some (some (.agg #[.int .u8 0, .int .i64 0]), 2, 16) := by kernel_rfl

set_option maxHeartbeats 1000000 in
theorem runs_ok (s : ByteArray) (hs : s.size ≤ 200) (w : World) :
    Calls Try.prog 33 #[.string s] w fun e w' => ∃ A c, e = .returned (.tuple #[.slice A (runsOf s.data.toList).length c, .int .i64 0]) ∧
      Reads w' w'.heap.size A (runsOf s.data.toList).length 2 ((runsOf s.data.toList).flatMap cRun) ∧ Below w.heap.size w w' := by
  have hcv := fun w s => run_bytes_of_string (P := Try.prog) w 9 23 5 s Try.underlying9 Try.underlying23 Try.underlying5
  have hbd := buildRun
  obtain ⟨i0, hi, hz0, hz1, hz2⟩ := info_parts infoRun
  go_enter Try.func33, Try.ntmps33
  go_wp2_with fail
  refine (wordCheck_ok s hs _).mono ?_
  rintro e w1 ⟨rfl, rfl⟩
  go_wp2
  generalize hW : World.drew _ = W
  obtain ⟨hb0, hz0', hat0⟩ := bytes_at s _ (grownCap_ge _ _ _ _) _ _ _ hW
  clear hW
  generalize grownCap _ _ _ _ = cap
  have hg : w.heap.size < W.heap.size := by omega
  have hg1 := Nat.le_refl w.heap.size
  generalize hgg : w.heap.size = g at hg hg1 hat0 hb0 ⊢
  generalize hB : W.heap.size = B at hg
  have hgB : g < B := hg
  have hB0 : B ≤ W.heap.size := by omega
  have Hgg := Lib.hid hgg
  clear hz0' hgg hB
  go_loopw [5, 17] (fun v i wr => ∃ (k : Nat) (A : Option Addr) (c : Nat), k ≤ s.size ∧ i = .int .i64 k ∧ v = .slice A (runsOf (s.data.toList.take k)).length c ∧
      wr.ownsRow B 62 2 (.slice A (runsOf (s.data.toList.take k)).length c) (runsOf (s.data.toList.take k)).length ((runsOf (s.data.toList.take k)).flatMap cRun) ∧ Below B W wr)
    (fun _ i _ => s.size - (intOf i).toNat)
  case atStart => exact ⟨0, none, 0, Nat.zero_le _, rfl, by simp [runsOf], by simpa [runsOf] using World.ownsRow_nil _ _ _ _, Below.refl _ _⟩
  case round =>
    obtain ⟨k, A, c, hk, rfl, rfl, hown, hbr⟩ := hrel
    by_cases hlt : k < s.size
    · have hck := (hat0.below hbr hgB).2 k hlt
      rw [getD_bytes s k hlt] at hck
      have hck := hck.1
      have hRl := runs_length (s.data.toList.take k)
      have hRx := congrArg List.length (runs_expand (s.data.toList.take k))
      have hRv := runs_valid (s.data.toList.take k)
      rw [List.length_take, Nat.min_eq_left (by exact hk)] at hRl hRx
      have hnext : runsOf (s.data.toList.take (k + 1)) = addRun (runsOf (s.data.toList.take k)) s[k] := by rw [take_succ_bytes s k hlt, runsOf_snoc]
      have Hnext := Lib.hid hnext
      clear hnext
      generalize hR : runsOf (s.data.toList.take k) = R at *
      have HR := Lib.hid hR
      clear hR
      generalize hcc : s[k] = ch at *
      have Hcc := Lib.hid hcc
      clear hcc
      have happ : addRun R ch = R ++ [(ch, 1)] → Code.wp Try.prog Code.skip (fun _ _ _ => True) ⟨#[], []⟩ wr → True := fun _ _ => trivial
      clear happ
      rcases Nat.eq_zero_or_pos R.length with hl0 | hl0
      · have hRn : R = [] := List.eq_nil_of_length_eq_zero hl0
        subst hRn
        have hnx := addRun_none ch
        have Hnx := Lib.hid hnx
        clear hnx hl0 hRv hRx hRl
        simp only [List.length_nil, List.flatMap_nil] at hown
        go_wp2_with (first | (at_builtin; go_must (refine wpList_append_new wr 57 (.tmp 44) (.tmp 47) rfl rfl B 62 infoRun Try.underlying57 rfl (by decide) _ _ _ _ rfl hown #[.int .u8 (ch.toNat : Int), .int .i64 1] 1 rfl rfl (by simp [Value.oneCell']) (by decide) (by decide) (by have := hbr.size; omega) ?_); intro A1 c1 w1 hown1 hb1 hg1))
        go_roundw
        case rel =>
          have e : runsOf (s.data.toList.take (k + 1)) = [(ch, 1)] := by rw [Hnext.out, Hnx.out]
          exact ⟨k + 1, A1, c1, by omega, by go_num, by rw [e]; rfl, by rw [e]; exact hown1, hbr.trans hb1⟩
        case measure => simp [intOf]; omega
      · obtain ⟨m, hm⟩ : ∃ m, R.length = m + 1 := ⟨R.length - 1, by omega⟩
        have hcnt := count_le R m (by omega)
        rw [hRx] at hcnt
        have hcnt1 := (hRv m (by omega)).1
        have hfl := flat_length cRun 2 cRun_len R
        obtain ⟨A0, c0, hA0, hA1⟩ := own_shape hown
        obtain ⟨g2, hg2, hBg⟩ := hA1 hl0
        injection hA0 with e1 _ e2
        subst e1 e2 hg2
        have hx0 := (hown.cellAt (m * 2) (by omega)).trans (getElem?_of_getD _ undef _ (by rw [hfl]; omega))
        have hx1 := (hown.cellAt (m * 2 + 1) (by omega)).trans (getElem?_of_getD _ undef _ (by rw [hfl]; omega))
        have hfz := hown.frozenAt (m * 2 + 1)
        rw [show m * 2 = m * 2 + 0 from rfl, flat_getD cRun 2 cRun_len (0, 0) R m 0 (by omega) (by omega)] at hx0
        rw [flat_getD cRun 2 cRun_len (0, 0) R m 1 (by omega) (by omega)] at hx1
        simp only [cRun, List.getD_cons_zero, List.getD_cons_succ, Nat.add_zero] at hx0 hx1
        have hhit := addRun_hit (c := ch) hm
        have hmiss := addRun_miss (c := ch) hm
        have Hhit := Lib.hid hhit
        have Hmiss := Lib.hid hmiss
        have hRg : R[m]? = some (R.getD m (0, 0)) := getElem?_of_getD R (0, 0) m (by omega)
        have HRg := Lib.hid hRg
        clear hhit hmiss hRv hRx hRg hfl hl0
        generalize hel : R.getD m (0, 0) = el at *
        have Hel := Lib.hid hel
        clear hel
        obtain ⟨b, n⟩ := el
        simp only at hx0 hx1 hcnt hcnt1
        rw [hm] at hown ⊢
        have hmk : m + 1 ≤ k := by omega
        have Hm := Lib.hid hm
        clear hm
        by_cases hbc : b = ch
        · subst hbc
          have q1 : decide ((0 : Int) < (m : Int) + 1) = true := decide_eq_true (by omega)
          have q2 : ((b.toNat : Int) == (b.toNat : Int)) = true := by simp
          go_wp2
          go_roundw
          case rel =>
            have e : runsOf (s.data.toList.take (k + 1)) = R.set m (b, n + 1) := by
              have h2 : addRun R b = R.set m (b, n + 1) := Hhit.out rfl
              rw [Hnext.out, h2]
            refine ⟨k + 1, some ⟨g2, 0, none⟩, c, by omega, by go_num, by rw [e, List.length_set, Hm.out], ?_, hbr.setCell hBg _⟩
            rw [e, List.length_set, Hm.out, flat_set cRun 2 cRun_len R m 1 (b, n) (b, n + 1) (.int .i64 (n + 1)) HRg.out (by omega) rfl]
            exact (hown.stored (m * 2 + 1) _).1
          case measure => simp [intOf]; omega
        · have q1 : decide ((0 : Int) < (m : Int) + 1) = true := decide_eq_true (by omega)
          have q2 : ((b.toNat : Int) == (ch.toNat : Int)) = false := by rw [beq_eq_false_iff_ne]; intro h; exact hbc (UInt8.toNat_inj.1 (by omega))
          go_wp2_with (first | (at_builtin; go_must (refine wpList_append_new wr 57 (.tmp 44) (.tmp 47) rfl rfl B 62 infoRun Try.underlying57 rfl (by decide) _ _ _ _ rfl hown #[.int .u8 (ch.toNat : Int), .int .i64 1] 1 rfl rfl (by simp [Value.oneCell']) (by unfold maxLen; omega) (by omega) (by have := hbr.size; omega) ?_); intro A1 c1 w1 hown1 hb1 hg1))
          go_roundw
          case rel =>
            have e : runsOf (s.data.toList.take (k + 1)) = R ++ [(ch, 1)] := by rw [Hnext.out, Hmiss.out hbc]
            refine ⟨k + 1, A1, c1, by omega, by go_num, by rw [e, List.length_append, Hm.out]; rfl, ?_, hbr.trans hb1⟩
            rw [e, List.length_append, Hm.out, flat_snoc]
            exact hown1
          case measure => simp [intOf]; omega
    · obtain rfl : k = s.size := by omega
      have e : s.data.toList.take s.size = s.data.toList := List.take_of_length_le (Nat.le_refl _)
      rw [e] at hown ⊢
      go_wp2
      go_ret2
      exact ⟨A, c, rfl, Reads.of_own hown, by rw [Hgg.out]; exact hb0.trans (hbr.mono (by omega))⟩

set_option maxHeartbeats 400000 in
theorem runs_no (s : ByteArray) (hs : 200 < s.size) (w : World) :
    Calls Try.prog 33 #[.string s] w fun e w' => e = .returned (.tuple #[.slice none 0 0, .int .i64 2]) ∧ w = w' := by
  go_enter Try.func33, Try.ntmps33
  go_wp2_with fail
  refine (wordCheck_no s hs _).mono ?_
  rintro e w1 ⟨rfl, rfl⟩
  go_wp2
  go_ret2
  exact ⟨rfl, rfl⟩

theorem infoByte : (Try.prog.info? 5).map (fun i => (i.zero, i.size, i.bytes)) = some (some (.int .u8 0), 1, 1) := by kernel_rfl

/-- Where Whole stops: an error. -/
def WholeNo (l : List (UInt8 × Int)) : Prop := ¬ WholeOk l

set_option maxHeartbeats 2000000 in
theorem whole_any (A : Option Addr) (n c B0 : Nat) (l : List (UInt8 × Int)) (w : World) (hn : n ≤ 8796093022208) (hl : l.length = n) (h : Reads w B0 A n 2 (l.flatMap cRun)) (hB0 : B0 ≤ w.heap.size) :
    Calls Try.prog 35 #[.slice A n c] w fun e w' => Below w.heap.size w w' ∧
      ((WholeOk l ∧ e = .returned (.tuple #[.string ⟨(expand l).toArray⟩, .int .i64 0])) ∨ (¬ WholeOk l ∧ ∃ E : Int, E ≠ 0 ∧ e = .returned (.tuple #[.string ⟨#[]⟩, .int .i64 E]))) := by
  have Hl := Lib.hid hl
  go_enter Try.func35, Try.ntmps35
  go_wp2
  go_loopw [4, 5, 6, 9] (fun v _ _ i wr => ∃ (k : Nat) (A' : Option Addr) (c' : Nat), k ≤ n ∧ i = .int .i64 k ∧ v = .slice A' (expand (l.take k)).length c' ∧ WholeOk (l.take k) ∧
      wr.ownsRow w.heap.size 5 1 (.slice A' (expand (l.take k)).length c') (expand (l.take k)).length ((expand (l.take k)).flatMap cByte) ∧ Below w.heap.size w wr)
    (fun _ _ _ i _ => n - (intOf i).toNat)
  case atStart => exact ⟨0, none, 0, Nat.zero_le _, rfl, by simp [expand], ⟨fun j hj => by simp at hj, by simp [expand]⟩, by simpa [expand] using World.ownsRow_nil _ _ _ _, Below.refl _ _⟩
  case round =>
    obtain ⟨k, A', c', hk, rfl, rfl, hok, hown, hbr⟩ := hrel
    have h := h.below' hbr hB0
    by_cases hlt : k < n
    · obtain ⟨b, o, rfl, hbB, hc⟩ := h.2 (by omega)
      have c0 := hc (k * 2 + 0) (by rw [flat_length cRun 2 cRun_len, hl]; omega)
      have c1 := hc (k * 2 + 1) (by rw [flat_length cRun 2 cRun_len, hl]; omega)
      rw [flat_getD cRun 2 cRun_len (0, 0) l k _ (by omega) (by omega)] at c0 c1
      simp only [cRun, List.getD_cons_zero, List.getD_cons_succ, Nat.add_zero, ← Nat.add_assoc] at c0 c1
      have hprev : 0 < k → wr.cell? ⟨b, o + (k - 1) * 2, none⟩ = some (.int .u8 ((l.getD (k - 1) (0, 0)).1.toNat : Int)) := fun hp => by
        have c2 := hc ((k - 1) * 2 + 0) (by rw [flat_length cRun 2 cRun_len, hl]; omega)
        rw [flat_getD cRun 2 cRun_len (0, 0) l (k - 1) _ (by omega) (by omega)] at c2
        simpa [cRun] using c2
      have hlen := hok.2
      have hat := fun h => wholeOk_at (k := k) (by omega : k < l.length) h
      have hsucc := fun h1 h2 h3 => wholeOk_succ (k := k) (by omega : k < l.length) hok h1 h2 h3
      have hexp := congrArg expand (take_succ_getD l k (0, 0) (by omega))
      rw [expand_append] at hexp
      have Hat := Lib.hid hat
      have Hsucc := Lib.hid hsucc
      have Hexp := Lib.hid hexp
      have Hok := Lib.hid hok
      clear hat hsucc hexp hok hc hl
      generalize hE : expand (l.take k) = E at *
      have HE := Lib.hid hE
      clear hE
      generalize hx : l.getD k (0, 0) = x at *
      have Hx := Lib.hid hx
      clear hx
      obtain ⟨ch, N⟩ := x
      simp only at c0 c1
      by_cases hN : N < 1
      · have q1 : decide (N < 1) = true := decide_eq_true hN
        go_wp2
        go_ret2
        exact ⟨hbr.alloc hbr.size _, .inr ⟨fun h => by have : 1 ≤ N := (Hat.out h).1; omega, 1, by decide, rfl⟩⟩
      · have q1 : decide (N < 1) = false := decide_eq_false hN
        have hbw : b < wr.heap.size := by have := hbr.size; omega
        by_cases hp : 0 < k
        · have q2 : decide ((0 : Int) < (k : Int)) = true := decide_eq_true (by omega)
          have hpc := hprev hp
          obtain ⟨k', rfl⟩ : ∃ k', k = k' + 1 := ⟨k - 1, by omega⟩
          simp only [Nat.add_sub_cancel] at hpc
          have Hat : Hid (WholeOk l → 1 ≤ N ∧ (0 < k' + 1 → (l.getD k' (0, 0)).1 ≠ ch) ∧ N ≤ 200 - (E.length : Int)) := fun h => Hat.out h
          have Hsucc : Hid (1 ≤ N → (0 < k' + 1 → (l.getD k' (0, 0)).1 ≠ ch) → N ≤ 200 - (E.length : Int) → WholeOk (l.take (k' + 1 + 1))) := fun h1 h2 h3 => Hsucc.out h1 h2 h3
          clear hprev
          generalize l.getD k' (0, 0) = pr at *
          by_cases hs : pr.1 = ch
          · have q3 : ((pr.1.toNat : Int) == (ch.toNat : Int)) = true := by rw [hs]; simp
            go_wp2
            go_quiet (fail)
            go_wp2
            go_ret2
            exact ⟨below_drewN (hbr.alloc hbr.size _) _, .inr ⟨fun h => (Hat.out h).2.1 hp hs, 3, by decide, rfl⟩⟩
          · have q3 : ((pr.1.toNat : Int) == (ch.toNat : Int)) = false := by rw [beq_eq_false_iff_ne]; intro h; exact hs (UInt8.toNat_inj.1 (by omega))
            go_wp2
            go_quiet (fail)
            generalize hW2 : World.drewN _ _ = W2
            have f1 : Blk W2 wr.heap.size 62 #[.int .u8 (ch.toNat : Int), .int .i64 N] := by rw [← hW2]; exact Blk.new wr _ _
            have fown : W2.ownsRow w.heap.size 5 1 (.slice A' E.length c') E.length (E.flatMap cByte) := by rw [← hW2]; exact hown.alloc _
            have fb : Below w.heap.size w W2 := by rw [← hW2]; exact below_drewN (hbr.alloc hbr.size _) _
            clear hW2
            have hgl := f1.lt
            generalize wr.heap.size = g3 at *
            have f10 := f1.cell 0
            have f11 := f1.cell 1
            simp only [List.getElem?_toArray, List.getElem?_cons_zero, List.getElem?_cons_succ] at f10 f11
            by_cases hbig : 200 - (E.length : Int) < N
            · have q4 : decide (200 - (E.length : Int) < N) = true := decide_eq_true hbig
              go_wp2
              go_ret2
              exact ⟨fb, .inr ⟨fun h => by have : N ≤ 200 - (E.length : Int) := (Hat.out h).2.2; omega, 2, by decide, rfl⟩⟩
            · have q4 : decide (200 - (E.length : Int) < N) = false := decide_eq_false hbig
              obtain ⟨M, hM⟩ : ∃ M : Nat, N = M := ⟨N.toNat, by omega⟩
              subst hM
              go_wp2
              go_loopw [4, 38] (fun v j wq => ∃ (q : Nat) (A2 : Option Addr) (c2 : Nat), q ≤ M ∧ j = .int .i64 q ∧ v = .slice A2 (E.length + q) c2 ∧ Blk wq g3 62 #[.int .u8 (ch.toNat : Int), .int .i64 M] ∧
                  wq.ownsRow w.heap.size 5 1 (.slice A2 (E.length + q) c2) (E.length + q) ((E ++ List.replicate q ch).flatMap cByte) ∧ Below w.heap.size w wq) (fun _ j _ => M - (intOf j).toNat)
              case atStart => exact ⟨0, A', c', Nat.zero_le _, rfl, rfl, f1, by simpa using fown, fb⟩
              case round =>
                clear f1 fown fb f10 f11 hgl hown
                obtain ⟨q, A2, c2, hq, rfl, rfl, f1, fown, fb⟩ := hrel
                have f10 := f1.cell 0
                simp only [List.getElem?_toArray, List.getElem?_cons_zero] at f10
                by_cases hqM : q < M
                · go_wp2_with (first | (at_builtin; go_must (refine wpList_append_new _ 23 (.tmp 40) (.tmp 43) rfl rfl w.heap.size 5 infoByte Try.underlying23 rfl (by decide) _ _ _ _ rfl fown #[.int .u8 (ch.toNat : Int)] 1 rfl rfl (by simp [Value.oneCell']) (by unfold maxLen; omega) (by omega) fb.size ?_); intro A3 c3 w3 hown3 hb3 hg3))
                  go_roundw
                  case rel =>
                    refine ⟨q + 1, A3, c3, by omega, by go_num, rfl, f1.grown hg3 (own_blk_ne fown f1 (by decide)), ?_, fb.trans hb3⟩
                    have e : (E ++ List.replicate (q + 1) ch).flatMap cByte = (E ++ List.replicate q ch).flatMap cByte ++ [.int .u8 (ch.toNat : Int)] := by
                      rw [List.replicate_succ', ← List.append_assoc, flat_snoc]; rfl
                    rw [e]
                    exact hown3
                  case measure => simp [intOf]; omega
                · obtain rfl : q = M := by omega
                  go_wp2
                  go_roundw
                  case rel =>
                    have e : expand (l.take ((k' + 1) + 1)) = E ++ List.replicate q ch := by rw [Hexp.out, expand_one]; simp
                    refine ⟨(k' + 1) + 1, A2, c2, by omega, by go_num, by rw [e, List.length_append, List.length_replicate], Hsucc.out (by omega) (fun _ => hs) (by omega), ?_, fb⟩
                    rw [e, List.length_append, List.length_replicate]
                    exact fown
                  case measure => simp [intOf]; omega
        · obtain rfl : k = 0 := by omega
          simp only [Nat.zero_mul, Nat.add_zero] at c0 c1
          go_wp2
          go_quiet (fail)
          generalize hW2 : World.drewN _ _ = W2
          have f1 : Blk W2 wr.heap.size 62 #[.int .u8 (ch.toNat : Int), .int .i64 N] := by rw [← hW2]; exact Blk.new wr _ _
          have fown : W2.ownsRow w.heap.size 5 1 (.slice A' E.length c') E.length (E.flatMap cByte) := by rw [← hW2]; exact hown.alloc _
          have fb : Below w.heap.size w W2 := by rw [← hW2]; exact below_drewN (hbr.alloc hbr.size _) _
          clear hW2
          have hgl := f1.lt
          generalize wr.heap.size = g3 at *
          have f10 := f1.cell 0
          have f11 := f1.cell 1
          simp only [List.getElem?_toArray, List.getElem?_cons_zero, List.getElem?_cons_succ] at f10 f11
          by_cases hbig : 200 - (E.length : Int) < N
          · have q4 : decide (200 - (E.length : Int) < N) = true := decide_eq_true hbig
            go_wp2
            go_ret2
            exact ⟨fb, .inr ⟨fun h => by have : N ≤ 200 - (E.length : Int) := (Hat.out h).2.2; omega, 2, by decide, rfl⟩⟩
          · have q4 : decide (200 - (E.length : Int) < N) = false := decide_eq_false hbig
            obtain ⟨M, hM⟩ : ∃ M : Nat, N = M := ⟨N.toNat, by omega⟩
            subst hM
            go_wp2
            go_loopw [4, 38] (fun v j wq => ∃ (q : Nat) (A2 : Option Addr) (c2 : Nat), q ≤ M ∧ j = .int .i64 q ∧ v = .slice A2 (E.length + q) c2 ∧ Blk wq g3 62 #[.int .u8 (ch.toNat : Int), .int .i64 M] ∧
                wq.ownsRow w.heap.size 5 1 (.slice A2 (E.length + q) c2) (E.length + q) ((E ++ List.replicate q ch).flatMap cByte) ∧ Below w.heap.size w wq) (fun _ j _ => M - (intOf j).toNat)
            case atStart => exact ⟨0, A', c', Nat.zero_le _, rfl, rfl, f1, by simpa using fown, fb⟩
            case round =>
              clear f1 fown fb f10 f11 hgl hown
              obtain ⟨q, A2, c2, hq, rfl, rfl, f1, fown, fb⟩ := hrel
              have f10 := f1.cell 0
              simp only [List.getElem?_toArray, List.getElem?_cons_zero] at f10
              by_cases hqM : q < M
              · go_wp2_with (first | (at_builtin; go_must (refine wpList_append_new _ 23 (.tmp 40) (.tmp 43) rfl rfl w.heap.size 5 infoByte Try.underlying23 rfl (by decide) _ _ _ _ rfl fown #[.int .u8 (ch.toNat : Int)] 1 rfl rfl (by simp [Value.oneCell']) (by unfold maxLen; omega) (by omega) fb.size ?_); intro A3 c3 w3 hown3 hb3 hg3))
                go_roundw
                case rel =>
                  refine ⟨q + 1, A3, c3, by omega, by go_num, rfl, f1.grown hg3 (own_blk_ne fown f1 (by decide)), ?_, fb.trans hb3⟩
                  have e : (E ++ List.replicate (q + 1) ch).flatMap cByte = (E ++ List.replicate q ch).flatMap cByte ++ [.int .u8 (ch.toNat : Int)] := by
                    rw [List.replicate_succ', ← List.append_assoc, flat_snoc]; rfl
                  rw [e]
                  exact hown3
                case measure => simp [intOf]; omega
              · obtain rfl : q = M := by omega
                go_wp2
                go_roundw
                case rel =>
                  have e : expand (l.take (0 + 1)) = E ++ List.replicate q ch := by rw [Hexp.out, expand_one]; simp
                  refine ⟨0 + 1, A2, c2, by omega, by go_num, by rw [e, List.length_append, List.length_replicate], Hsucc.out (by omega) (fun h => absurd h hp) (by omega), ?_, fb⟩
                  rw [e, List.length_append, List.length_replicate]
                  exact fown
                case measure => simp [intOf]; omega
    · obtain rfl : k = n := by omega
      have e : l.take k = l := List.take_of_length_le (by omega)
      rw [e] at hok hown ⊢
      have hstr := run_string_own (P := Try.prog) wr 23 9 5 w.heap.size A' (expand l).length c' cByte (fun _ => rfl) (expand l) hown Try.underlying23 Try.underlying5 Try.underlying9
      go_wp2
      go_ret2
      exact ⟨hbr, .inl ⟨hok, rfl⟩⟩

end Go.Proofs.Ytndnglaohjbapaa
