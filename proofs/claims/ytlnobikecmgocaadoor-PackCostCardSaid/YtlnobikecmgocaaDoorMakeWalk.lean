/- The walk of code.Make. -/
import Derived.Test.YtlnobikecmgocaaDoorBits
import Derived.Test.YtlnobikecmgocaaDoorCodeSum
import Derived.Test.YtlnobikecmgocaaDoorCodeFront
import Derived.Test.YtlnobikecmgocaaDoorOwnS
namespace Go.Proofs.YtlnobikecmgocaaDoor
open Go.RowKit
set_option linter.unusedVariables false

def stepM (lens : List Nat) (n : Nat) (st : Nat × List Wd) (i : Nat) : Nat × List Wd := if lens.getD i 0 = n then (st.1 + 2 ^ (12 - n), st.2.set i (bitsL (st.1 / 2 ^ (12 - n)) n)) else st
def rowM (lens : List Nat) (n : Nat) (st : Nat × List Wd) : Nat → Nat × List Wd
  | 0 => st
  | k + 1 => stepM lens n (rowM lens n st k) k
def allM (lens : List Nat) : Nat → Nat × List Wd
  | 0 => (0, List.replicate lens.length [])
  | m + 1 => rowM lens (m + 1) (allM lens m) lens.length
def makeM (lens : List Nat) : List Wd := (allM lens 12).2
def dM (lens : List Nat) (m k : Nat) (i : Nat) : Bool := decide (lens.getD i 0 ≤ m) || (decide (lens.getD i 0 = m + 1) && decide (i < k))
/-- Words on the way, levels 1 to m, and the first k of the next level. -/
structure OnM (lens : List Nat) (m k next : Nat) (out : List Wd) : Prop where
  st : ∃ a, MkSt lens (dM lens m k) next out a
  div : 2 ^ (12 - (m + 1)) ∣ next
theorem OnM.start {lens : List Nat} (h : ∀ i, i < lens.length → 1 ≤ lens.getD i 0) : OnM lens 0 0 0 (List.replicate lens.length []) := by
  refine ⟨⟨fun _ => 0, ?_⟩, Nat.dvd_zero _⟩
  have hs := MkSt.start lens
  have hd : ∀ i, i < lens.length → dM lens 0 0 i = false := fun i hi => by
    have := h i hi
    unfold dM
    rw [decide_eq_false (by omega), decide_eq_false (show ¬ i < 0 by omega), Bool.and_false, Bool.or_false]
  refine ⟨hs.len, (fun i hi hD => by rw [hd i hi] at hD; cases hD), (fun i k hi hk hik hD => by rw [hd i hi] at hD; cases hD), ?_⟩
  rw [← hs.rest]
  congr 1
  exact sumL_congr fun i hi => by rw [hd i (List.mem_range.1 hi)]
theorem OnM.level {lens : List Nat} {m next : Nat} {out : List Wd} (h : OnM lens m lens.length next out) : OnM lens (m + 1) 0 next out := by
  obtain ⟨⟨a, ha⟩, hd⟩ := h
  have e : ∀ i, i < lens.length → dM lens (m + 1) 0 i = dM lens m lens.length i := fun i hi => by
    unfold dM
    rw [decide_eq_false (show ¬ i < 0 by omega), Bool.and_false, Bool.or_false, decide_eq_true hi, Bool.and_true]
    by_cases h1 : lens.getD i 0 ≤ m
    · rw [decide_eq_true h1, Bool.true_or, decide_eq_true (by omega)]
    · by_cases h2 : lens.getD i 0 = m + 1
      · rw [decide_eq_true h2, Bool.or_true, decide_eq_true (by omega)]
      · rw [decide_eq_false h1, decide_eq_false h2, decide_eq_false (by omega)]; rfl
  refine ⟨⟨a, ⟨ha.len, fun i hi hD => ha.word i hi (by rw [← e i hi]; exact hD), fun i k hi hk hik h1 h2 => ha.apart i k hi hk hik (by rw [← e i hi]; exact h1) (by rw [← e k hk]; exact h2), ?_⟩⟩, ?_⟩
  · rw [← ha.rest]
    congr 1
    exact sumL_congr fun i hi => by rw [e i (List.mem_range.1 hi)]
  · refine Nat.dvd_trans (Nat.pow_dvd_pow 2 (by omega)) hd
theorem OnM.skip {lens : List Nat} {m k next : Nat} {out : List Wd} (h : OnM lens m k next out) (hk : k < lens.length) (hne : lens.getD k 0 ≠ m + 1) : OnM lens m (k + 1) next out := by
  obtain ⟨⟨a, ha⟩, hd⟩ := h
  have e : ∀ i, i < lens.length → dM lens m (k + 1) i = dM lens m k i := fun i hi => by
    unfold dM
    by_cases h2 : lens.getD i 0 = m + 1
    · have : i ≠ k := by rintro rfl; exact hne h2
      have h3 : decide (i < k + 1) = decide (i < k) := by
        by_cases h4 : i < k
        · rw [decide_eq_true h4, decide_eq_true (by omega)]
        · rw [decide_eq_false h4, decide_eq_false (by omega)]
      rw [h3]
    · rw [decide_eq_false h2, Bool.false_and, Bool.false_and]
  refine ⟨⟨a, ⟨ha.len, fun i hi hD => ha.word i hi (by rw [← e i hi]; exact hD), fun i j hi hj hij h1 h2 => ha.apart i j hi hj hij (by rw [← e i hi]; exact h1) (by rw [← e j hj]; exact h2), ?_⟩⟩, hd⟩
  rw [← ha.rest]
  congr 1
  exact sumL_congr fun i hi => by rw [e i (List.mem_range.1 hi)]
theorem OnM.put {lens : List Nat} {m k next : Nat} {out : List Wd} (h : OnM lens m k next out) (hk : k < lens.length) (he : lens.getD k 0 = m + 1) :
    OnM lens m (k + 1) (next + 2 ^ (12 - (m + 1))) (out.set k (bitsL (next / 2 ^ (12 - (m + 1))) (m + 1))) ∧ next + 2 ^ (12 - (m + 1)) ≤ kr 12 lens := by
  obtain ⟨⟨a, ha⟩, hd⟩ := h
  have d0 : dM lens m k k = false := by
    unfold dM
    rw [decide_eq_false (by omega), decide_eq_false (show ¬ k < k by omega), Bool.and_false, Bool.or_false]
  have hr := ha.room hk d0
  rw [he] at hr
  refine ⟨⟨⟨fun j => if j = k then next else a j, ?_⟩, ?_⟩, hr⟩
  · have hp := ha.put (D' := dM lens m (k + 1)) hk d0 (by rw [he]; exact hd) (by
        unfold dM
        rw [decide_eq_true he, decide_eq_true (show k < k + 1 by omega), Bool.and_true, Bool.or_true]) (fun j hj => by
        unfold dM
        have h3 : decide (j < k + 1) = decide (j < k) := by
          by_cases h4 : j < k
          · rw [decide_eq_true h4, decide_eq_true (by omega)]
          · rw [decide_eq_false h4, decide_eq_false (by omega)]
        rw [h3])
    rw [he] at hp
    exact hp
  · exact (Nat.dvd_add_right hd).2 (Nat.dvd_refl _)
theorem OnM.le {lens : List Nat} {m k next : Nat} {out : List Wd} (h : OnM lens m k next out) : next ≤ kr 12 lens := by
  obtain ⟨⟨a, ha⟩, _⟩ := h
  have := ha.rest
  omega
theorem OnM.done {lens : List Nat} {next : Nat} {out : List Wd} (h : OnM lens 12 0 next out) (h1 : ∀ i, i < lens.length → 1 ≤ lens.getD i 0 ∧ lens.getD i 0 ≤ 12) (hn : lens.length ≤ 12) (hK : kr 12 lens ≤ 2 ^ 12) : CodeOk out ∧ FrontP out ∧ out.map List.length = lens := by
  obtain ⟨⟨a, ha⟩, _⟩ := h
  have := ha.done (fun i hi => by
    unfold dM
    rw [decide_eq_true (h1 i hi).2, Bool.true_or]) h1 hn hK
  exact ⟨this.1, this.2.1, this.2.2⟩

def strW (w : Wd) : ByteArray := ⟨w.toArray⟩
theorem wd_strW (w : Wd) : wd (strW w) = w := by simp [strW]
def cW (w : Wd) : Value := .string (strW w)
theorem makeStr {P : Program} (t : TypeId) (ht : P.underlying t = some (.slice 9)) (hi : (P.info? 9).map (fun i => (i.zero, i.size, i.bytes)) = some (some (.string ⟨#[]⟩), 1, 16)) (n : Nat) (h : n ≤ 1000) (w : World) :
    (Instr.makeSlice t (.int .i64 (n : Int)) (.int .i64 (n : Int))).run P w = .ok (.slice (some ⟨w.heap.size, 0, none⟩) n n) (w.alloc (.cells (madeCells #[.string ⟨#[]⟩] n) 9)) := by
  obtain ⟨i0, hi, hz0, hz1, hz2⟩ := info_parts hi
  have := run_make_rowN t 9 i0 (.string ⟨#[]⟩) ht hi hz0 .i64 .i64 n n (Nat.le_refl _) (by rw [hz2]; omega) (by omega) w
  rw [hz1, Nat.mul_one] at this
  exact this
theorem madeStr (n : Nat) : madeCells #[.string ⟨#[]⟩] n = ((List.replicate n ([] : Wd)).map cW).toArray := by
  apply Array.toList_inj.1
  rw [toList_madeCells_one, List.toList_toArray, List.map_replicate]
  rfl
theorem Blk.setW {w : World} {g : Nat} {t : TypeId} {σ : List Wd} (h : Blk w g t (σ.map cW).toArray) (k : Nat) (x : Wd) : Blk (w.setCell ⟨g, k, none⟩ (.string (strW x))) g t ((σ.set k x).map cW).toArray := by
  have := h.set_ k (.string (strW x))
  rw [List.setIfInBounds_toArray] at this
  rw [List.map_set]
  exact this

/-- What code.Make tells. -/
def makeE (l : List Int) : Int := if sumE l ≠ 0 then sumE l else if 4096 < sumV l then 4 else 0
set_option maxRecDepth 100000 in
set_option maxHeartbeats 4000000 in
theorem codeMake_any (A : Option Addr) (n c B : Nat) (l : List Int) (w : World) (hn : n ≤ 1125899906842624) (hl : l.length = n) (h : Reads w B A n 1 (l.flatMap cInt)) (hB : B ≤ w.heap.size) :
    Calls Tryd.prog 20 #[.slice A n c] w fun e w' => Below w.heap.size w w' ∧ ((makeE l ≠ 0 ∧ e = .returned (.tuple #[.slice none 0 0, .int .i64 (makeE l)])) ∨
      (makeE l = 0 ∧ ∃ g, e = .returned (.tuple #[.slice (some ⟨g, 0, none⟩) n n, .int .i64 0]) ∧ g < w'.heap.size ∧ Reads w' w'.heap.size (some ⟨g, 0, none⟩) n 1 (((makeM (nats l)).map strW).flatMap cStr) ∧ (makeM (nats l)).length = n ∧ CodeOk (makeM (nats l)) ∧ FrontP (makeM (nats l)) ∧ (makeM (nats l)).map List.length = nats l)) := by
  have HS := Lib.hid (codeSum_any A n c B l w hn hl h)
  by_cases h1 : sumE l = 0
  case neg =>
    have e0 : makeE l = sumE l := by unfold makeE; rw [if_pos h1]
    rw [e0]
    have q1 : (sumE l != 0) = true := by simpa using h1
    generalize sumV l = V at *
    generalize sumE l = E at *
    go_enter Tryd.func20, Tryd.ntmps20
    go_wp2_with fail
    refine HS.out.mono ?_
    rintro e w1 ⟨rfl, rfl⟩
    go_wp2
    go_ret2
    exact ⟨Below.refl _ _, .inl ⟨h1, rfl⟩⟩
  obtain ⟨hl12, hin⟩ := (sumE_zero l).1 h1
  have hV : sumV l = ((kr 12 (nats l) : Nat) : Int) := by unfold sumV; rw [if_pos h1]
  rw [h1, hV] at HS
  have hkrb := kr_le 12 (nats l)
  have hnl : (nats l).length = n := by unfold nats; rw [List.length_map, hl]
  rw [show (2 : Nat) ^ 12 = 4096 from by decide, hnl] at hkrb
  by_cases hbig : 4096 < kr 12 (nats l)
  · have e0 : makeE l = 4 := by unfold makeE; rw [if_neg (fun h => h h1), hV, if_pos (by omega)]
    rw [e0]
    have q1 : decide ((4096 : Int) < ((kr 12 (nats l) : Nat) : Int)) = true := decide_eq_true (by omega)
    have q1' : decide (4096 < kr 12 (nats l)) = true := decide_eq_true hbig
    generalize kr 12 (nats l) = K at *
    clear hV hkrb hnl hbig
    go_enter Tryd.func20, Tryd.ntmps20
    go_wp2_with fail
    refine HS.out.mono ?_
    rintro e w1 ⟨rfl, rfl⟩
    go_wp2
    go_ret2
    exact ⟨Below.refl _ _, .inl ⟨by decide, rfl⟩⟩
  have e0 : makeE l = 0 := by unfold makeE; rw [if_neg (fun h => h h1), hV, if_neg (by omega)]
  have hle : ∀ i, i < (nats l).length → 1 ≤ (nats l).getD i 0 ∧ (nats l).getD i 0 ≤ 12 := fun i hi => by
    rw [hnl] at hi
    have hm : l.getD i 0 ∈ l := by rw [getD_some _ _ _ (by omega)]; exact List.getElem_mem _
    have h2 := hin _ hm
    have e : (nats l).getD i 0 = (l.getD i 0).toNat := by
      unfold nats
      rw [List.getD_eq_getElem?_getD, List.getElem?_map, List.getD_eq_getElem?_getD]
      cases l[i]? <;> rfl
    rw [e]; omega
  have hdone : ∀ next out, OnM (nats l) 12 0 next out → out = makeM (nats l) → CodeOk (makeM (nats l)) ∧ FrontP (makeM (nats l)) ∧ (makeM (nats l)).map List.length = nats l := fun next out h1 h2 => by
    subst h2; exact h1.done hle (by omega) (by rw [show (2 : Nat) ^ 12 = 4096 from by decide]; omega)
  have hstart := OnM.start (lens := nats l) (fun i hi => (hle i hi).1)
  rw [hnl] at hstart
  have Hdone := Lib.hid hdone
  have Hin := Lib.hid hin
  have Hl := Lib.hid hl
  have Hnl := Lib.hid hnl
  have hn12 : n ≤ 12 := by omega
  have q1 : decide ((4096 : Int) < ((kr 12 (nats l) : Nat) : Int)) = false := decide_eq_false (by omega)
  have q1' : decide (4096 < kr 12 (nats l)) = false := decide_eq_false hbig
  have hK : kr 12 (nats l) ≤ 4096 := by omega
  have hleE : ∀ {m k next : Nat} {out : List Wd}, OnM (nats l) m k next out → next ≤ 4096 := fun h => Nat.le_trans h.le hK
  have HleE := Lib.hid hK
  have hmk := fun w => makeStr (P := Tryd.prog) 28 Tryd.underlying28 infoStrE n (by omega) w
  have E0 := Lib.hid e0
  generalize hKK : kr 12 (nats l) = K at *
  have HKK := Lib.hid hKK
  clear hV hkrb hnl hbig hle hdone hin hl hKK e0 h1 hl12 hleE hK
  go_enter Tryd.func20, Tryd.ntmps20
  go_wp2_with fail
  refine HS.out.mono ?_
  rintro e w1 ⟨rfl, rfl⟩
  have hg0 := Blk.new w 9 (madeCells #[.string ⟨#[]⟩] n)
  have hb0 : Below w.heap.size w (w.alloc (Obj.cells (madeCells #[.string ⟨#[]⟩] n) 9)) := (Below.refl _ _).alloc (Nat.le_refl _) _
  rw [madeStr] at hg0
  have Hst := Lib.hid hstart
  clear hstart
  go_wp2
  rw [madeStr] at *
  generalize w.alloc (Obj.cells (((List.replicate n ([] : Wd)).map cW).toArray) 9) = w2 at *
  go_loopw [7, 8, 9, 10, 30] (fun nv mv _ _ _ wr => ∃ (m next : Nat) (out : List Wd), m ≤ 12 ∧ mv = .int .i64 ((m : Int) + 1) ∧ nv = .int .i64 (next : Int) ∧ Hid ((next, out) = allM (nats l) m ∧ OnM (nats l) m 0 next out) ∧ Blk wr w.heap.size 9 (out.map cW).toArray ∧ Below w.heap.size w wr) (fun _ mv _ _ _ _ => 14 - (intOf mv).toNat)
  case atStart => exact ⟨0, 0, _, by omega, rfl, rfl, Lib.hid ⟨by unfold allM; rw [Hnl.out], Hst.out⟩, hg0, hb0⟩
  case round =>
    clear hg0 hb0 Hst
    obtain ⟨m, next, out, hm, rfl, rfl, HO, hg, hbr⟩ := hrel
    have hnx4 : next ≤ 4096 := Nat.le_trans HO.out.2.le (by rw [HKK.out]; exact HleE.out)
    by_cases hm12 : m < 12
    · have q2 : decide ((m : Int) + 1 ≤ 12) = true := decide_eq_true (by omega)
      obtain ⟨q, hq⟩ : ∃ q, 12 - (m + 1) = q := ⟨_, rfl⟩
      have hq11 : q ≤ 11 := by omega
      have hqi : (12 : Int) - ((m : Int) + 1) = (q : Int) := by omega
      have Hq := Lib.hid hq
      clear hq
      go_wp2
      go_loopw [7, 9, 10, 30] (fun nv _ _ iv W => ∃ (k next : Nat) (out : List Wd), k ≤ n ∧ iv = .int .i64 k ∧ nv = .int .i64 (next : Int) ∧ Hid ((next, out) = rowM (nats l) (m + 1) (allM (nats l) m) k ∧ OnM (nats l) m k next out) ∧ Blk W w.heap.size 9 (out.map cW).toArray ∧ Below w.heap.size w W) (fun _ _ _ iv _ => n - (intOf iv).toNat)
      case atStart => exact ⟨0, next, out, Nat.zero_le _, rfl, rfl, Lib.hid ⟨HO.out.1, HO.out.2⟩, hg, hbr⟩
      case round =>
        clear hg hbr HO hnx4
        obtain ⟨k, next, out, hk, rfl, rfl, HO, hg, hbr⟩ := hrel
        have hnx4 : next ≤ 4096 := Nat.le_trans HO.out.2.le (by rw [HKK.out]; exact HleE.out)
        have hol : out.length = n := by
          obtain ⟨⟨a, ha⟩, _⟩ := HO.out.2
          rw [ha.len, Hnl.out]
        by_cases hkn : k < n
        · obtain ⟨b, o, rfl, hbB, hc⟩ := (h.below (hbr.mono hB)).2 (by omega)
          have c0 := hc (k * 1 + 0) (by rw [flat_length cInt 1 cInt_len, Hl.out]; omega)
          rw [flat_getD cInt 1 cInt_len 0 l k _ (by rw [Hl.out]; omega) (by omega)] at c0
          simp only [cInt, List.getD_cons_zero, Nat.mul_one, Nat.add_zero] at c0
          have hxk : (nats l).getD k 0 = (l.getD k 0).toNat := by
            unfold nats
            rw [List.getD_eq_getElem?_getD, List.getElem?_map, List.getD_eq_getElem?_getD]
            cases l[k]? <;> rfl
          have hxb := Hin.out (l.getD k 0) (by rw [getD_some _ _ _ (by rw [Hl.out]; omega)]; exact List.getElem_mem _)
          have Hxk := Lib.hid hxk
          clear hc hxk
          generalize l.getD k 0 = x at *
          by_cases hxm : x = (m : Int) + 1
          · obtain ⟨hp1, hp2⟩ := HO.out.2.put (k := k) (by rw [Hnl.out]; exact hkn) (by rw [Hxk.out, hxm]; omega)
            have hrow : (next + 2 ^ (12 - (m + 1)), out.set k (bitsL (next / 2 ^ (12 - (m + 1))) (m + 1))) = rowM (nats l) (m + 1) (allM (nats l) m) (k + 1) := by
              rw [rowM, ← HO.out.1, stepM, if_pos (by rw [Hxk.out, hxm]; omega)]
            rw [Hq.out] at hp1 hp2 hrow
            have hp3 : next + 2 ^ q ≤ 4096 := Nat.le_trans hp2 (by rw [HKK.out]; exact HleE.out)
            have hbt := bits_any (next / 2 ^ q) (m + 1) (Nat.le_trans (Nat.div_le_self _ _) hnx4) (by omega)
            have e1 : (((next / 2 ^ q : Nat)) : Int) = (next : Int) / 2 ^ q := by simp
            rw [e1, show (((m + 1 : Nat)) : Int) = (m : Int) + 1 from by omega] at hbt
            have hblk := hg.setW k (bitsL (next / 2 ^ q) (m + 1))
            have hset := hbr.setCell (p := ⟨w.heap.size, k, none⟩) (Nat.le_refl _) (.string (strW (bitsL (next / 2 ^ q) (m + 1))))
            have g0 : wr.cell? ⟨w.heap.size, k, none⟩ = some (cW (out.getD k [])) := by
              rw [hg.cell, List.getElem?_toArray, List.getElem?_map, List.getElem?_eq_getElem (by omega), List.getD_eq_getElem?_getD, List.getElem?_eq_getElem (by omega)]; rfl
            have f0 := hg.frozen k
            have e2 : ((next : Int) + (2 : Int) ^ q) = (((next + 2 ^ q : Nat)) : Int) := by simp
            have hpq : ((2 : Int) ^ q) = ((2 ^ q : Nat) : Int) := by simp
            have q3 : (x == (m : Int) + 1) = true := by rw [hxm]; simp
            rw [show (⟨(bitsL (next / 2 ^ q) (m + 1)).toArray⟩ : ByteArray) = strW (bitsL (next / 2 ^ q) (m + 1)) from rfl] at hbt
            have Hbt := Lib.hid hbt
            have Hp := Lib.hid (⟨hrow, hp1⟩ : _ ∧ _)
            have He2 := Lib.hid e2
            have Hpq := Lib.hid hpq
            have Hp3 := Lib.hid hp3
            unfold cW at g0
            generalize strW (bitsL (next / 2 ^ q) (m + 1)) = sb at *
            have kn' : (k : Int) < n := by omega
            clear hp1 hp2 hrow hbt e1 hxm e2 hpq hp3 hg hbr hxb
            go_wp2_with fail
            refine (Hbt.out _).mono ?_
            rintro e w3 ⟨rfl, rfl⟩
            go_wp2
            go_roundw
            case rel =>
              refine ⟨k + 1, next + 2 ^ q, _, by omega, by go_num, ?_, Hp, hblk, hset⟩
              rw [Hpq.out]
              have hp3 := Hp3.out
              generalize 2 ^ q = p at *
              rw [IntWalk.wrap64_in (p : Int) (by omega), IntWalk.wrap64_in _ (by omega)]
              congr 1
            case measure => simp [intOf]; omega
          · have hsk := HO.out.2.skip (k := k) (by rw [Hnl.out]; exact hkn) (by rw [Hxk.out]; omega)
            have hrow : (next, out) = rowM (nats l) (m + 1) (allM (nats l) m) (k + 1) := by
              rw [rowM, ← HO.out.1, stepM, if_neg (by rw [Hxk.out]; omega)]
            have q3 : (x == (m : Int) + 1) = false := beq_eq_false_iff_ne.2 hxm
            have Hp := Lib.hid (⟨hrow, hsk⟩ : _ ∧ _)
            clear hsk hrow hxm hxb
            go_wp2
            go_roundw
            case rel => exact ⟨k + 1, next, out, by omega, by go_num, rfl, Hp, hg, hbr⟩
            case measure => simp [intOf]; omega
        · obtain rfl : k = n := by omega
          have hlev := OnM.level (lens := nats l) (m := m) (next := next) (out := out) (by rw [Hnl.out]; exact HO.out.2)
          have hall : (next, out) = allM (nats l) (m + 1) := by rw [allM, Hnl.out]; exact HO.out.1
          have Hp := Lib.hid (⟨hall, hlev⟩ : _ ∧ _)
          clear hlev hall
          go_wp2
          go_roundw
          case rel => exact ⟨m + 1, next, out, by omega, by go_num, rfl, Hp, hg, hbr⟩
          case measure => simp [intOf]; omega
    · obtain rfl : m = 12 := by omega
      have q2 : decide (((12 : Nat) : Int) + 1 ≤ 12) = false := by decide
      have hout : out = makeM (nats l) := by unfold makeM; rw [← HO.out.1]
      have hd := Hdone.out next out HO.out.2 hout
      have hol : out.length = n := by
        obtain ⟨⟨a, ha⟩, _⟩ := HO.out.2
        rw [ha.len, Hnl.out]
      have hrd : Reads wr wr.heap.size (some ⟨w.heap.size, 0, none⟩) n 1 ((out.map strW).flatMap cStr) := by
        refine ⟨by rw [flat_length cStr 1 cStr_len, List.length_map, hol], fun _ => ⟨w.heap.size, 0, rfl, hg.lt, fun j hj => ?_⟩⟩
        rw [flat_length cStr 1 cStr_len, List.length_map, hol] at hj
        have e1 := flat_getD cStr 1 cStr_len ByteArray.empty (out.map strW) j 0 (by rw [List.length_map, hol]; omega) (by omega)
        simp only [Nat.mul_one, Nat.add_zero] at e1
        rw [e1, hg.cell, Nat.zero_add, List.getElem?_toArray, List.getElem?_map, List.getElem?_eq_getElem (by omega)]
        rw [show (out.map strW).getD j ByteArray.empty = strW (out[j]'(by omega)) from by rw [List.getD_eq_getElem?_getD, List.getElem?_map, List.getElem?_eq_getElem (by omega)]; rfl]
        rfl
      have hlt := hg.lt
      rw [hout] at hrd hol
      have Hd := Lib.hid hd
      have Hrd := Lib.hid hrd
      have Hol := Lib.hid hol
      clear hd hrd hol hout hg HO
      go_wp2
      go_ret2
      exact ⟨hbr, .inr ⟨E0.out, w.heap.size, rfl, hlt, Hrd.out, Hol.out, Hd.out.1, Hd.out.2.1, Hd.out.2.2⟩⟩
end Go.Proofs.YtlnobikecmgocaaDoor
