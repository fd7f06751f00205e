/- The walk of pack.Get at what pack.Put told with a prefix-free code. -/
import Derived.Test.YtlnobikecmgocaaDoorPackPut
import Derived.Test.YtlnobikecmgocaaDoorCodeFront
import Derived.Test.YtlnobikecmgocaaDoorPrefix
import Derived.Test.YtlnobikecmgocaaDoorOwnK
namespace Go.Proofs.YtlnobikecmgocaaDoor
open Go.RowKit
set_option linter.unusedVariables false

theorem front_only {L : List Wd} (hF : FrontP L) {i k : Nat} (hi : i < L.length) (hk : k < L.length) {s : Wd} (h1 : L.getD i [] <+: s) (h2 : L.getD k [] <+: s) : i = k := by
  rcases Decidable.em (i = k) with h | h
  · exact h
  · rcases List.prefix_or_prefix_of_prefix h1 h2 with h3 | h3
    · exact absurd h3 (hF i k hi hk h)
    · exact absurd h3 (hF k i hk hi (Ne.symm h))
theorem rdS {w : World} {B n b o : Nat} {l : List ByteArray} (hl : l.length = n) (h : Reads w B (some ⟨b, o, none⟩) n 1 (l.flatMap cStr)) {k : Nat} (hk : k < n) : w.cell? ⟨b, o + k, none⟩ = some (.string (l.getD k ByteArray.empty)) := by
  obtain ⟨b', o', e, hb, hc⟩ := h.2 (by omega)
  injection e with e
  injection e with e1 e2
  subst e1 e2
  have c0 := hc (k * 1 + 0) (by rw [flat_length cStr 1 cStr_len, hl]; omega)
  rw [flat_getD cStr 1 cStr_len ByteArray.empty l k _ (by rw [hl]; omega) (by omega)] at c0
  simpa only [cStr, List.getD_cons_zero, Nat.mul_one, Nat.add_zero] using c0
def strSz : Value → Nat
  | .string s => s.size
  | _ => 0
theorem joinW_cons (l : List ByteArray) (x : Int) (t : List Int) : joinW l (x :: t) = wd (l.getD x.toNat ByteArray.empty) ++ joinW l t := rfl

set_option maxRecDepth 100000 in
set_option maxHeartbeats 4000000 in
theorem packGet_back (A : Option Addr) (n c B : Nat) (l : List ByteArray) (t : List Int) (w : World) (hn : n ≤ 1125899906842624) (hnc : n ≤ c) (hl : l.length = n) (hz : ∀ p ∈ l, p.size ≤ 140737488351232) (h : Reads w B A n 1 (l.flatMap cStr)) (hB : B ≤ w.heap.size)
    (hC : checkC (wds l) = 0) (hF : FrontP (wds l)) (ht : textOk n t) (hT : t.length ≤ 200) (T : Nat) (hTT : t.length = T) :
    Calls Tryd.prog 13 #[.slice A n c, .string ⟨(joinW l t).toArray⟩] w fun e w' => Below w.heap.size w w' ∧ ∃ A' c', e = .returned (.tuple #[.slice A' T c', .int .i64 0]) ∧ Reads w' w'.heap.size A' T 1 (t.flatMap cInt) := by
  have H1 := Lib.hid (codeFront_any A n c B l w hn hnc hl hz h hB)
  have hfb : frontB (wds l) = true := (frontB_iff _).2 ⟨hC, hF⟩
  rw [hfb, hC] at H1
  have hok := (checkC_zero _).1 hC
  have hwl : (wds l).length = n := by unfold wds; rw [List.length_map, hl]
  have hn12 : n ≤ 12 := by rw [← hwl]; exact hok.few
  have hword : ∀ k, k < n → 0 < (l.getD k ByteArray.empty).size ∧ (l.getD k ByteArray.empty).size ≤ 12 := fun k hk => by
    have hm : wd (l.getD k ByteArray.empty) ∈ wds l := mem_wds.2 (by rw [getD_some _ _ _ (by rw [hl]; exact hk)]; exact List.getElem_mem _)
    refine ⟨?_, ?_⟩
    · have := List.length_pos_iff.2 (hok.ne _ hm)
      exact this
    · exact hok.len _ hm
  have hsz : (joinW l t).length ≤ 4096 := by
    have : ∀ t : List Int, textOk n t → (joinW l t).length ≤ 12 * t.length := fun t => by
      induction t with
      | nil => intro _; simp [joinW]
      | cons x t ih =>
        intro hh
        rw [joinW_cons, List.length_append, List.length_cons]
        have h1 := ih fun k hk => hh k (List.mem_cons_of_mem _ hk)
        have h2 := hh x (List.mem_cons_self ..)
        have h3 := (hword x.toNat (by omega)).2
        have e : (wd (l.getD x.toNat ByteArray.empty)).length = (l.getD x.toNat ByteArray.empty).size := rfl
        omega
    have := this t ht
    omega
  have q1 : decide ((4096 : Int) < (((⟨(joinW l t).toArray⟩ : ByteArray).size : Nat) : Int)) = false := decide_eq_false (by
    have : (⟨(joinW l t).toArray⟩ : ByteArray).size = (joinW l t).length := by show (joinW l t).toArray.size = _; simp
    rw [this]; omega)
  have q1' : decide (4096 < (⟨(joinW l t).toArray⟩ : ByteArray).size) = false := decide_eq_false (by
    have : (⟨(joinW l t).toArray⟩ : ByteArray).size = (joinW l t).length := by show (joinW l t).toArray.size = _; simp
    rw [this]; omega)
  have hinfo : (Tryd.prog.info? 3).map (fun i => (i.zero, i.size, i.bytes)) = some (some (.int .i64 0), 1, 8) := by kernel_rfl
  have hdr : ∀ i, i < T → t.drop i = t.getD i 0 :: t.drop (i + 1) := fun i hi => drop_getD t i 0 (by omega)
  have hpre : ∀ i k, i < T → k < n → preB ⟨(joinW l (t.drop i)).toArray⟩ (l.getD k ByteArray.empty) = decide (k = (t.getD i 0).toNat) := fun i k hi hk => by
    have hx := ht (t.getD i 0) (by rw [getD_some _ _ _ (by omega)]; exact List.getElem_mem _)
    have hj : joinW l (t.drop i) = wd (l.getD (t.getD i 0).toNat ByteArray.empty) ++ joinW l (t.drop (i + 1)) := by rw [hdr i hi, joinW_cons]
    rw [Bool.eq_iff_iff, preB_iff, decide_eq_true_iff]
    show wd (l.getD k ByteArray.empty) <+: joinW l (t.drop i) ↔ _
    rw [hj]
    constructor
    · intro hp
      refine front_only hF (by rw [hwl]; exact hk) (by rw [hwl]; omega) (s := wd (l.getD (t.getD i 0).toNat ByteArray.empty) ++ joinW l (t.drop (i + 1))) ?_ ?_
      · rw [wds_getD]; exact hp
      · rw [wds_getD]; exact List.prefix_append _ _
    · rintro rfl
      exact List.prefix_append _ _
  have hpreSz := Lib.hid (fun i => show (⟨(joinW l (t.drop i)).toArray⟩ : ByteArray).size ≤ 4096 by
    have e : (⟨(joinW l (t.drop i)).toArray⟩ : ByteArray).size = (joinW l (t.drop i)).length := by show (joinW l (t.drop i)).toArray.size = _; simp
    have e2 : joinW l t = joinW l (t.take i) ++ joinW l (t.drop i) := by rw [← joinW_app, List.take_append_drop]
    have e3 := congrArg List.length e2
    rw [List.length_append] at e3
    omega)
  have Hpre := Lib.hid hpre
  have Hdr := Lib.hid hdr
  have Hl := Lib.hid hl
  have Ht := Lib.hid ht
  have Hword := Lib.hid hword
  have HT := Lib.hid hTT
  have hT2 : T ≤ 200 := by omega
  obtain ⟨S, hS⟩ : ∃ S : ByteArray, S = ⟨(joinW l t).toArray⟩ := ⟨_, rfl⟩
  rw [← hS] at q1 q1' ⊢
  have HS := Lib.hid hS
  clear hfb hC hF hok hwl hsz hpre hdr hl ht hword hTT hT hz hS
  go_enter Tryd.func13, Tryd.ntmps13
  go_wp2_with fail
  refine H1.out.mono ?_
  rintro e w1 ⟨rfl, hb1⟩
  have h := h.below (hb1.mono hB)
  have hB1 : B ≤ w1.heap.size := Nat.le_trans hB hb1.size
  go_wp2
  clear q1 q1'
  go_loopw [1, 8, 9] (fun sv ov _ wr => ∃ (i : Nat) (A' : Option Addr) (c' : Nat), i ≤ T ∧ sv = .string ⟨(joinW l (t.drop i)).toArray⟩ ∧ ov = .slice A' i c' ∧ OwnK 3 1 wr (· < w1.heap.size) A' i c' ((t.take i).flatMap cInt) ∧ Below w1.heap.size w1 wr) (fun sv _ _ _ => strSz sv)
  case atStart => exact ⟨0, none, 0, Nat.zero_le _, by rw [HS.out]; rfl, rfl, OwnK.nil _ _ _ _, Below.refl _ _⟩
  case round =>
    obtain ⟨i, A', c', hi, rfl, rfl, hown, hbr⟩ := hrel
    by_cases hlt : i < T
    · have hd := Hdr.out i hlt
      have hx := Ht.out (t.getD i 0) (by rw [getD_some _ _ _ (by rw [HT.out]; exact hlt)]; exact List.getElem_mem _)
      have hts := take_succ_getD t i 0 (by rw [HT.out]; exact hlt)
      have hp := fun k hk => Hpre.out i k hlt hk
      generalize t.getD i 0 = x at *
      obtain ⟨kk, rfl⟩ : ∃ z : Nat, x = z := ⟨x.toNat, by omega⟩
      rw [Int.toNat_natCast] at hp
      have hkn : kk < n := by omega
      have hw := Hword.out kk hkn
      obtain ⟨b, o, rfl, hbB, _⟩ := (h.below (hbr.mono hB1)).2 (by omega)
      have hr := h.below (hbr.mono hB1)
      have hj : joinW l (t.drop i) = wd (l.getD kk ByteArray.empty) ++ joinW l (t.drop (i + 1)) := by rw [hd, joinW_cons, Int.toNat_natCast]
      obtain ⟨X, hX⟩ : ∃ X : ByteArray, X = ⟨(joinW l (t.drop i)).toArray⟩ := ⟨_, rfl⟩
      obtain ⟨Y, hY⟩ : ∃ Y : ByteArray, Y = ⟨(joinW l (t.drop (i + 1))).toArray⟩ := ⟨_, rfl⟩
      have hXl : X.data.toList = wd (l.getD kk ByteArray.empty) ++ Y.data.toList := by rw [hX, hY]; exact hj
      rw [← hX] at hp ⊢
      have hXY : X.size = (l.getD kk ByteArray.empty).size + Y.size := by
        have := congrArg List.length hXl
        rw [List.length_append] at this
        exact this
      have hex : X.extract (l.getD kk ByteArray.empty).size X.size = Y := str_ext (by
        rw [Lib.extract_data, hXl, show (l.getD kk ByteArray.empty).size = (wd (l.getD kk ByteArray.empty)).length from rfl, List.drop_left, List.take_of_length_le]
        have e : Y.data.toList.length = Y.size := rfl
        have e' : (wd (l.getD kk ByteArray.empty)).length = (l.getD kk ByteArray.empty).size := rfl
        omega)
      have hxe : X.data.toList ≠ [] := fun e => by
        have : X.size = 0 := by show X.data.toList.length = 0; rw [e]; rfl
        omega
      have q2 : (X.toList == []) = false := by rw [ByteArray.toList_eq]; simpa using hxe
      have q2' : X.toList.isEmpty = false := by rw [ByteArray.toList_eq, List.isEmpty_eq_false_iff]; exact hxe
      have hXb : X.size ≤ 140737488355328 := by
        have := hpreSz.out i
        rw [← hX] at this; omega
      have Hp := Lib.hid hp
      have HY := Lib.hid hY
      have HXY := Lib.hid hXY
      have Hex := Lib.hid hex
      have Hts := Lib.hid hts
      have Hr := Lib.hid hr
      clear hp hX hY hXl hXY hex hxe hd hx hts hj
      go_wp2
      go_loopw [9] (fun kv wq => ∃ k : Nat, k ≤ kk ∧ kv = .int .i64 k ∧ wq = wr) (fun kv _ => kk - (intOf kv).toNat)
      case atStart => exact ⟨0, Nat.zero_le _, rfl, rfl⟩
      case round =>
        obtain ⟨k, hk, rfl, rfl⟩ := hrel
        have q3 : decide ((k : Int) < (n : Int)) = true := decide_eq_true (by omega)
        have q3' : decide (k < n) = true := decide_eq_true (by omega)
        have c0 := rdS Hl.out Hr.out (show k < n by omega)
        have hwk := Hword.out k (by omega)
        have ik : (k : Int) < n := by omega
        by_cases hkk : k = kk
        case neg =>
          have hpf := fun w => hasPrefix_any X (l.getD k ByteArray.empty) hXb (by omega) w
          rw [Hp.out k (by omega), decide_eq_false hkk] at hpf
          have Hpf := Lib.hid hpf
          clear hpf
          generalize l.getD k ByteArray.empty = y at *
          go_wp2_with fail
          refine (Hpf.out _).mono ?_
          rintro e w5 ⟨rfl, rfl⟩
          go_wp2
          go_roundw
          case rel => exact ⟨k + 1, by omega, by go_num, trivial⟩
          case measure => simp [intOf]; omega
        case pos =>
          subst hkk
          have hpf := fun w => hasPrefix_any X (l.getD k ByteArray.empty) hXb (by omega) w
          rw [Hp.out k (by omega), decide_eq_true rfl] at hpf
          have Hpf := Lib.hid hpf
          clear hpf
          have q5 : ((k : Int) == (n : Int)) = false := by rw [beq_eq_false_iff_ne]; omega
          have hbs := hbr.size
          have hexX := Hex.out
          have hyX : (l.getD k ByteArray.empty).size ≤ X.size := by have := HXY.out; omega
          have hyY : Y.size < X.size := by have := HXY.out; omega
          have HyY := Lib.hid hyY
          clear hyY
          generalize l.getD k ByteArray.empty = y at *
          have hyX' : (y.size : Int) ≤ X.size := by omega
          have hcl : ∀ j, j < 1 → (wr.alloc (Obj.cells #[.int .i64 (k : Int)] 3)).drew.cell? ((⟨wr.heap.size, 0, none⟩ : Addr).add j) = ([.int .i64 (k : Int)] : List Value)[j]? := fun j hj => by
            obtain rfl : j = 0 := by omega
            rw [add_at]
            show (wr.alloc _).cell? _ = _
            rw [World.cell?_alloc_mark]; rfl
          have hk8 : i ≤ 8000000000000 := by omega
          have hk9 : (i + 1) * 8 ≤ 140737488355328 := by omega
          have c1 : (wr.alloc (Obj.cells #[.int .i64 (k : Int)] 3)).drew.cell? ⟨b, o + k, none⟩ = some (.string y) := by
            show (wr.alloc _).cell? _ = _
            rw [World.cell?_alloc_lt _ _ _ (by show b < wr.heap.size; omega)]; exact c0
          have hown1 : OwnK 3 1 (wr.alloc (Obj.cells #[.int .i64 (k : Int)] 3)).drew (· < w1.heap.size) A' i c' ((t.take i).flatMap cInt) := (hown.alloc _).drew
          have hbl : b < (wr.alloc (Obj.cells #[.int .i64 (k : Int)] 3)).drew.heap.size := by show b < (wr.alloc _).heap.size; simp; omega
          have hne1 : (Value.slice A' i c').ownBlock ≠ some b := fun e => by have := (hown.lt _ e).1; omega
          have hKs : ∀ q, q < w1.heap.size → q < (wr.alloc (Obj.cells #[.int .i64 (k : Int)] 3)).drew.heap.size := fun q hq => by show q < (wr.alloc _).heap.size; simp; omega
          have hbe : RowKit.Below w1.heap.size w1 (wr.alloc (Obj.cells #[.int .i64 (k : Int)] 3)).drew := (hbr.alloc hbs _).drew
          have hlo : ∀ g, (Value.slice A' i c').ownBlock = some g → w1.heap.size ≤ g := fun g hg => by have := (hown.lt g hg).1; omega
          clear Hp hown
          go_wp2_with fail
          refine (Hpf.out _).mono ?_
          rintro e w5 ⟨rfl, rfl⟩
          go_wp2_with fail
          go_region_law
            ((refine step_append_K rfl (.tmp 44) (.tmp 46) 22 rfl (· < w1.heap.size) (.int .i64 0) 8 hinfo Tryd.underlying22 rfl (by decide) (by decide) A' i c' _ rfl hown1 ⟨wr.heap.size, 0, none⟩ 1 [.int .i64 (k : Int)] rfl rfl (by simp [Value.oneCell']) hcl hk9 hk8 hKs ?_; intro A3 c3 w3 hown3 hg3 hp3; have y2 : w3.cell? ⟨b, o + k, none⟩ = some (.string y) := by (unfold World.cell?; rw [hg3.block b hbl (fun e => hne1 e.symm)]; exact c1)))
          all_goals
            have hb3 : RowKit.Below w1.heap.size w1 w3 := hbe.grown hg3 hbe.size hlo
            have hnx : (t.take i).flatMap cInt ++ [Value.int .i64 (k : Int)] = (t.take (i + 1)).flatMap cInt := by rw [Hts.out, List.flatMap_append]; rfl
            rw [hnx] at hown3
            go_wp2
            go_roundw
            case rel =>
              repeat apply Exists.intro
              exact ⟨⟨i + 1, A3, c3, by omega, by rw [HY.out], rfl, hown3, hb3⟩, rfl⟩
            case measure => exact HyY.out
    · obtain rfl : i = T := by omega
      have e : t.take i = t := List.take_of_length_le (by rw [HT.out]; omega)
      have e2 : t.drop i = [] := List.drop_eq_nil_of_le (by rw [HT.out]; omega)
      rw [e] at hown
      rw [e2]
      have e3 : (⟨(joinW l []).toArray⟩ : ByteArray) = ⟨#[]⟩ := rfl
      rw [e3]
      have hbw := chain hbr hb1
      go_wp2
      go_ret2
      exact ⟨hbw, A', c', rfl, hown.toReads⟩
end Go.Proofs.YtlnobikecmgocaaDoor
