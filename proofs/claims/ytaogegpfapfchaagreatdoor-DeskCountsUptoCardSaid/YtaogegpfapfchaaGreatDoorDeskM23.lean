import Derived.Test.YtaogegpfapfchaaGreatDoorDeskM21
import Derived.Test.YtaogegpfapfchaaGreatDoorDeskM22
/- Several texts in one: XSeek XSeekWalk. -/
/- Plain: where a word stands in a text (Knuth, Morris, Pratt). -/
namespace Go.Proofs.YtaogegpfapfchaaGreatDoor
set_option linter.unusedVariables false

/-- The last k of the first i bytes are the word's first ones. -/
def Mt (s p : List UInt8) (k i : Nat) : Prop := k ≤ i ∧ k ≤ p.length ∧ ∀ j, j < k → p.getD j 0 = s.getD (i - k + j) 0
instance (s p : List UInt8) (k i : Nat) : Decidable (Mt s p k i) := by unfold Mt; exact inferInstance
/-- The most of them. -/
def LMt (s p : List UInt8) (k i : Nat) : Prop := Mt s p k i ∧ ∀ c, Mt s p c i → c ≤ k
theorem mt_zero (s p : List UInt8) (i : Nat) : Mt s p 0 i := ⟨by omega, by omega, fun j hj => by omega⟩
theorem lmt_start (s p : List UInt8) : LMt s p 0 0 := ⟨mt_zero s p 0, fun c hc => by have := hc.1; omega⟩
theorem mt_step (s p : List UInt8) (k i : Nat) : Mt s p (k + 1) (i + 1) ↔ Mt s p k i ∧ k < p.length ∧ p.getD k 0 = s.getD i 0 := by
  constructor
  · rintro ⟨h1, h2, h3⟩
    refine ⟨⟨by omega, by omega, fun j hj => ?_⟩, by omega, ?_⟩
    · have := h3 j (by omega)
      rwa [show i + 1 - (k + 1) + j = i - k + j from by omega] at this
    · have := h3 k (by omega)
      rwa [show i + 1 - (k + 1) + k = i from by omega] at this
  · rintro ⟨⟨h1, h2, h3⟩, h4, h5⟩
    refine ⟨by omega, by omega, fun j hj => ?_⟩
    rw [show i + 1 - (k + 1) + j = i - k + j from by omega]
    by_cases e : j = k
    · rw [e, h5, show i - k + k = i from by omega]
    · exact h3 j (by omega)
theorem mt_border {s p : List UInt8} {k i c : Nat} (h : Mt s p k i) (hb : Bd p k c) : Mt s p c i := by
  refine ⟨by have := h.1; have := hb.1; omega, by have := h.2.1; have := hb.1; omega, fun j hj => ?_⟩
  have h1 := hb.2 j hj
  have h2 := h.2.2 (k - c + j) (by have := hb.1; omega)
  rw [h1, h2]
  have := h.1; have := hb.1
  congr 1; omega
theorem mt_inner {s p : List UInt8} {k i c : Nat} (h : Mt s p k i) (h' : Mt s p c i) (hc : c < k) : Bd p k c := by
  refine ⟨hc, fun j hj => ?_⟩
  have h1 := h'.2.2 j hj
  have h2 := h.2.2 (k - c + j) (by omega)
  rw [h1, h2]
  have := h.1
  congr 1; omega
/-- What holds in the loop that looks for the next one. -/
def CMt (s p : List UInt8) (k i : Nat) : Prop := Mt s p k i ∧ ∀ c, Mt s p c i → c < p.length → p.getD c 0 = s.getD i 0 → c ≤ k
theorem cmt_start {s p : List UInt8} {k i : Nat} (h : LMt s p k i) : CMt s p k i := ⟨h.1, fun c hc _ _ => h.2 c hc⟩
theorem cmt_next {s p : List UInt8} {k i : Nat} (h : CMt s p k i) (hk : 0 < k) (hne : k = p.length ∨ p.getD k 0 ≠ s.getD i 0) : CMt s p (pi p k) i := by
  refine ⟨mt_border h.1 (pi_bd p hk), fun c hc hcl he => ?_⟩
  have h1 := h.2 c hc hcl he
  have h2 : c < k := by
    rcases Nat.lt_or_ge c k with h3 | h3
    · exact h3
    · have e : c = k := by omega
      subst e
      rcases hne with h4 | h4
      · omega
      · exact absurd he h4
  exact pi_max p (mt_inner h.1 hc h2)
theorem cmt_hit {s p : List UInt8} {k i : Nat} (h : CMt s p k i) (hk : k < p.length) (he : p.getD k 0 = s.getD i 0) : LMt s p (k + 1) (i + 1) := by
  refine ⟨(mt_step s p k i).2 ⟨h.1, hk, he⟩, fun c hc => ?_⟩
  cases c with
  | zero => omega
  | succ c =>
    obtain ⟨h1, h2, h3⟩ := (mt_step s p c i).1 hc
    have := h.2 c h1 h2 h3
    omega
theorem cmt_miss {s p : List UInt8} {i : Nat} (h : CMt s p 0 i) (he : p.getD 0 0 ≠ s.getD i 0) : LMt s p 0 (i + 1) := by
  refine ⟨mt_zero s p (i + 1), fun c hc => ?_⟩
  cases c with
  | zero => omega
  | succ c =>
    obtain ⟨h1, h2, h3⟩ := (mt_step s p c i).1 hc
    have := h.2 c h1 h2 h3
    rw [show c = 0 from by omega] at h3
    exact absurd h3 he

/-- Where it stands, as far as the first i bytes tell. -/
def foundOf (s p : List UInt8) : Nat → List Nat
  | 0 => []
  | i + 1 => foundOf s p i ++ if Mt s p p.length (i + 1) then [i + 1 - p.length] else []
theorem foundOf_length (s p : List UInt8) : ∀ i, (foundOf s p i).length ≤ i
  | 0 => Nat.le_refl _
  | i + 1 => by
    have := foundOf_length s p i
    rw [foundOf, List.length_append]
    split <;> simp <;> omega
theorem lmt_found {s p : List UInt8} {k i : Nat} (h : LMt s p k i) : Mt s p p.length i ↔ k = p.length := by
  constructor
  · intro h1
    have := h.2 _ h1
    have := h.1.2.1
    omega
  · rintro rfl
    exact h.1
/-- It stands there. -/
def Occ (s p : List UInt8) (x : Nat) : Prop := x + p.length ≤ s.length ∧ ∀ j, j < p.length → p.getD j 0 = s.getD (x + j) 0
theorem occ_prefix (s p : List UInt8) (x : Nat) (hx : x ≤ s.length) : Occ s p x ↔ p <+: s.drop x := by
  rw [List.prefix_iff_eq_take]
  constructor
  · rintro ⟨h1, h2⟩
    refine ext_getD _ _ 0 (by rw [List.length_take, List.length_drop]; omega) fun j hj => ?_
    rw [getD_take _ _ _ _ hj, getD_drop]
    exact h2 j hj
  · intro h
    have hl := congrArg List.length h
    rw [List.length_take, List.length_drop] at hl
    refine ⟨by omega, fun j hj => ?_⟩
    conv => lhs; rw [h]
    rw [getD_take _ _ _ _ hj, getD_drop]
theorem mem_found (s p : List UInt8) (hp : 0 < p.length) (x : Nat) : ∀ i, i ≤ s.length → (x ∈ foundOf s p i ↔ x + p.length ≤ i ∧ Occ s p x)
  | 0, _ => ⟨fun h => by simp [foundOf] at h, fun ⟨h, _⟩ => by omega⟩
  | i + 1, hi => by
    rw [foundOf, List.mem_append, mem_found s p hp x i (by omega)]
    constructor
    · rintro (⟨h1, h2⟩ | h)
      · exact ⟨by omega, h2⟩
      · by_cases e : Mt s p p.length (i + 1)
        · rw [if_pos e, List.mem_singleton] at h
          have := e.1
          refine ⟨by omega, by omega, fun j hj => ?_⟩
          rw [h]; exact e.2.2 j hj
        · rw [if_neg e] at h; simp at h
    · rintro ⟨h1, h2⟩
      by_cases e : x + p.length = i + 1
      · right
        have hm : Mt s p p.length (i + 1) := ⟨by omega, Nat.le_refl _, fun j hj => by rw [show i + 1 - p.length + j = x + j from by omega]; exact h2.2 j hj⟩
        rw [if_pos hm, List.mem_singleton]; omega
      · exact .inl ⟨by omega, h2⟩
theorem found_rise (s p : List UInt8) (hp : 0 < p.length) : ∀ i, i ≤ s.length → (foundOf s p i).Pairwise (· < ·)
  | 0, _ => List.Pairwise.nil
  | i + 1, hi => by
    rw [foundOf]
    refine List.pairwise_append.2 ⟨found_rise s p hp i (by omega), ?_, fun a ha b hb => ?_⟩
    · split <;> simp
    · by_cases e : Mt s p p.length (i + 1)
      · rw [if_pos e, List.mem_singleton] at hb
        have := ((mem_found s p hp a i (by omega)).1 ha).1
        omega
      · rw [if_neg e] at hb; simp at hb
/-- All places. -/
def findOf (s p : List UInt8) : List Nat := foundOf s p s.length
theorem mem_find (s p : List UInt8) (hp : 0 < p.length) (x : Nat) : x ∈ findOf s p ↔ Occ s p x := by
  unfold findOf
  rw [mem_found s p hp x _ (Nat.le_refl _)]
  exact ⟨fun h => h.2, fun h => ⟨h.1, h⟩⟩
/-- What an error is told. -/
def seekE (n m : Nat) : Int := if 200 < n ∨ 200 < m then 2 else if m = 0 then 5 else 0
theorem seekE_ok {n m : Nat} : seekE n m = 0 ↔ n ≤ 200 ∧ m ≤ 200 ∧ 0 < m := by
  unfold seekE
  by_cases h : 200 < n ∨ 200 < m
  · rw [if_pos h]; omega
  · rw [if_neg h]
    by_cases h2 : m = 0
    · rw [if_pos h2]; omega
    · rw [if_neg h2]; omega

end Go.Proofs.YtaogegpfapfchaaGreatDoor

/- The walks of seek.check and seek.Find. -/
namespace Go.Proofs.YtaogegpfapfchaaGreatDoor
open Go.RowKit
set_option linter.unusedVariables false

set_option maxHeartbeats 1000000 in
theorem seekCheck_any (s p : ByteArray) (w : World) :
    Calls Tryz.prog 66 #[.string s, .string p] w fun e w' => e = .returned (.int .i64 (seekE s.size p.size)) ∧ w = w' := by
  by_cases hs : s.size ≤ 200
  · have H1 := Lib.hid (wordCheck_ok s hs)
    by_cases hp : p.size ≤ 200
    · have H2 := Lib.hid (wordCheck_ok p hp)
      by_cases h0 : p.size = 0
      · have q0 : p.toList = [] := by rw [ByteArray.toList_eq]; exact List.eq_nil_of_length_eq_zero h0
        have q0' : (!p.toList.isEmpty) = false := by rw [q0]; rfl
        have q0'' : (p.toList == []) = true := by rw [q0]; rfl
        have q03 : p.toList.isEmpty = true := by rw [q0]; rfl
        have hE : Hid (seekE s.size p.size = 5) := by show seekE _ _ = 5; unfold seekE; rw [if_neg (by omega), if_pos h0]
        have H0 := Lib.hid h0
        clear h0
        go_enter Tryz.func66, Tryz.ntmps66
        go_wp2_with fail
        refine (H1.out _).mono ?_
        rintro e w1 ⟨rfl, rfl⟩
        go_wp2_with fail
        refine (H2.out _).mono ?_
        rintro e w1 ⟨rfl, rfl⟩
        go_wp2
        go_ret
        exact ⟨by rw [hE.out]; rfl, rfl⟩
      · have hl : p.toList ≠ [] := fun h => h0 (by rw [ByteArray.toList_eq] at h; show p.data.toList.length = 0; rw [h]; rfl)
        have q0 : p.toList.isEmpty = false := by rw [List.isEmpty_eq_false_iff]; exact hl
        have q0' : (p.toList == []) = false := by rw [beq_eq_false_iff_ne]; exact hl
        have hE : Hid (seekE s.size p.size = 0) := seekE_ok.2 ⟨hs, hp, by omega⟩
        clear hl
        go_enter Tryz.func66, Tryz.ntmps66
        go_wp2_with fail
        refine (H1.out _).mono ?_
        rintro e w1 ⟨rfl, rfl⟩
        go_wp2_with fail
        refine (H2.out _).mono ?_
        rintro e w1 ⟨rfl, rfl⟩
        go_wp2
        go_ret
        exact ⟨by rw [hE.out]; rfl, rfl⟩
    · have hE : Hid (seekE s.size p.size = 2) := by show seekE _ _ = 2; unfold seekE; rw [if_pos (by omega)]
      go_enter Tryz.func66, Tryz.ntmps66
      go_wp2_with fail
      refine (H1.out _).mono ?_
      rintro e w1 ⟨rfl, rfl⟩
      go_wp2_with fail
      refine (wordCheck_no p (by omega) _).mono ?_
      rintro e w1 ⟨rfl, rfl⟩
      go_wp2
      go_ret
      exact ⟨by rw [hE.out]; rfl, rfl⟩
  · have hE : Hid (seekE s.size p.size = 2) := by show seekE _ _ = 2; unfold seekE; rw [if_pos (by omega)]
    go_enter Tryz.func66, Tryz.ntmps66
    go_wp2_with fail
    refine (wordCheck_no s (by omega) _).mono ?_
    rintro e w1 ⟨rfl, rfl⟩
    go_wp2
    go_ret
    exact ⟨by rw [hE.out]; rfl, rfl⟩

set_option maxRecDepth 100000 in
set_option maxHeartbeats 4000000 in
theorem find_ok (s p : ByteArray) (hE : seekE s.size p.size = 0) (w : World) :
    Calls Tryz.prog 35 #[.string s, .string p] w (ToldInts (nI (findOf s.data.toList p.data.toList)) w) := by
  obtain ⟨hs, hp, hp0⟩ := seekE_ok.1 hE
  have hc1 := seekCheck_any s p
  rw [hE] at hc1
  have C1 := Lib.hid hc1
  have H1 := Lib.hid (borders_ok p hp)
  have hbl := bordersOf_length p.data.toList
  have hba := bordersOf_at p.data.toList
  generalize bordersOf p.data.toList = bo at *
  have Hbl := Lib.hid hbl
  have Hba := Lib.hid hba
  clear hc1 hE hbl hba
  go_enter Tryz.func35, Tryz.ntmps35
  go_wp2_with fail
  refine (C1.out _).mono ?_
  rintro e w1 ⟨rfl, rfl⟩
  go_wp2_with fail
  refine (H1.out _).mono ?_
  rintro e w2 ⟨A, rfl, hr2, hb2⟩
  obtain ⟨b, o, rfl, hbB, hc⟩ := hr2.2 (by omega)
  have hcell : ∀ j, j < p.size → w2.cell? ⟨b, o + j, none⟩ = some (.int .i64 ((pi p.data.toList (j + 1) : Nat) : Int)) := fun j hj => by
    have c0 := hc (j * 1 + 0) (by rw [flat_length cInt 1 cInt_len, Hbl.out]; show j * 1 + 0 < p.size * 1; omega)
    rw [flat_getD cInt 1 cInt_len 0 bo j _ (by rw [Hbl.out]; exact hj) (by omega), Hba.out j hj] at c0
    simpa [cInt] using c0
  have Hcell := Lib.hid hcell
  clear hcell hc
  go_wp2
  go_loopw [9, 10, 11, 25] (fun ov kv _ iv wr => ∃ (i k m : Nat) (A' : Option Addr) (c' : Nat), i ≤ s.size ∧ m ≤ i ∧ k ≤ p.size ∧ iv = .int .i64 i ∧ kv = .int .i64 k ∧ ov = .slice A' m c' ∧ Hid ((nI (foundOf s.data.toList p.data.toList i)).length = m) ∧ Hid (LMt s.data.toList p.data.toList k i) ∧
      wr.ownsRow w2.heap.size 3 1 (.slice A' m c') m ((nI (foundOf s.data.toList p.data.toList i)).flatMap cInt) ∧ Below w2.heap.size w2 wr) (fun _ _ _ iv _ => s.size - (intOf iv).toNat)
  case atStart => exact ⟨0, 0, 0, none, 0, Nat.zero_le _, Nat.le_refl _, Nat.zero_le _, rfl, rfl, rfl, rfl, lmt_start _ _, World.ownsRow_nil _ _ _ _, Below.refl _ _⟩
  case round =>
    obtain ⟨i, k0, m, A', c', hi, hmi, hk0, rfl, rfl, rfl, Hm, Hl, hown, hbr⟩ := hrel
    by_cases hlt : i < s.size
    · have hlt' : (i : Int) < s.size := by omega
      have Hc0 := Lib.hid (cmt_start Hl.out)
      go_wp2
      go_loopw [10] (fun kv wq => ∃ k : Nat, k ≤ p.size ∧ kv = .int .i64 k ∧ Hid (CMt s.data.toList p.data.toList k i) ∧ wq.ownsRow w2.heap.size 3 1 (.slice A' m c') m ((nI (foundOf s.data.toList p.data.toList i)).flatMap cInt) ∧ Below w2.heap.size w2 wq) (fun kv _ => (intOf kv).toNat)
      case atStart => exact ⟨k0, hk0, rfl, Hc0, hown, hbr⟩
      case round =>
        clear hown hbr
        obtain ⟨k, hk, rfl, Hc, hown, hbr⟩ := hrel
        have Hgi := Lib.hid (getD_bytes s i hlt)
        by_cases hkm : k < p.size
        · have hkm' : (k : Int) < p.size := by omega
          have Hgk := Lib.hid (getD_bytes p k hkm)
          have qk : ((k : Int) == (p.size : Int)) = false := by rw [beq_eq_false_iff_ne]; omega
          by_cases heq : p[k] = s[i]
          · have q1 : ((p[k].toNat : Int) == (s[i].toNat : Int)) = true := by rw [heq]; simp
            have q1' : ((p[k].toNat : Int) != (s[i].toNat : Int)) = false := by rw [heq]; simp
            by_cases hend : k + 1 = p.size
            · have qe : ((k : Int) + 1 == (p.size : Int)) = true := by rw [beq_iff_eq]; omega
              by_cases hkz : 0 < k
              · have q0 : decide ((0 : Int) < (k : Int)) = true := decide_eq_true (by omega)
                have hl2 := cmt_hit Hc.out hkm (by rw [Hgk.out, Hgi.out]; exact heq)
                have hfo : foundOf s.data.toList p.data.toList (i + 1) = foundOf s.data.toList p.data.toList i ++ if Mt s.data.toList p.data.toList p.data.toList.length (i + 1) then [i + 1 - p.data.toList.length] else [] := rfl
                have hmt := lmt_found hl2
                have hf2 : foundOf s.data.toList p.data.toList (i + 1) = foundOf s.data.toList p.data.toList i ++ [i + 1 - p.size] := by rw [hfo, if_pos (hmt.2 (by show k + 1 = p.size; omega))]; rfl
                have hval : (i : Int) + 1 - (p.size : Int) = ((i + 1 - p.size : Nat) : Int) := by have := hl2.1.1; omega
                have Hval := Lib.hid hval
                have Hl2 := Lib.hid hl2
                have Hf2 := Lib.hid hf2
                clear heq hl2 hfo hmt hf2 hval
                go_wp2
                go_quiet (fail)
                go_wp2
                go_quiet (fail)
                go_wp2_with (first | (at_builtin; go_must (refine wpList_append_new _ 76 (.tmp 63) (.tmp 69) rfl rfl w2.heap.size 3 infoIntW Tryz.underlying76 rfl (by decide) _ _ _ _ rfl (ownsRow_drewN hown _) #[.int .i64 ((i : Int) + 1 - (p.size : Int))] 1 rfl rfl (by simp [Value.oneCell']) (by unfold maxLen; omega) (by omega) hbr.size ?_); intro A3 c3 w3 hown3 hb3 hg3))
                go_roundw
                case rel =>
                  refine ⟨i + 1, k + 1, m + 1, A3, c3, by omega, by omega, by omega, by go_num, by go_num, rfl, Lib.hid (by rw [nI_length, Hf2.out, List.length_append, ← nI_length, Hm.out]; rfl), Hl2, ?_, (below_drewN hbr _).trans hb3⟩
                  rw [Hf2.out, nI_snoc, flat_snoc, ← Hval.out]; exact hown3
                case measure => simp [intOf]; omega
              · have q0 : decide ((0 : Int) < (k : Int)) = false := decide_eq_false (by omega)
                have hl2 := cmt_hit Hc.out hkm (by rw [Hgk.out, Hgi.out]; exact heq)
                have hfo : foundOf s.data.toList p.data.toList (i + 1) = foundOf s.data.toList p.data.toList i ++ if Mt s.data.toList p.data.toList p.data.toList.length (i + 1) then [i + 1 - p.data.toList.length] else [] := rfl
                have hmt := lmt_found hl2
                have hf2 : foundOf s.data.toList p.data.toList (i + 1) = foundOf s.data.toList p.data.toList i ++ [i + 1 - p.size] := by rw [hfo, if_pos (hmt.2 (by show k + 1 = p.size; omega))]; rfl
                have hval : (i : Int) + 1 - (p.size : Int) = ((i + 1 - p.size : Nat) : Int) := by have := hl2.1.1; omega
                have Hval := Lib.hid hval
                have Hl2 := Lib.hid hl2
                have Hf2 := Lib.hid hf2
                clear heq hl2 hfo hmt hf2 hval
                go_wp2
                go_quiet (fail)
                go_wp2
                go_quiet (fail)
                go_wp2_with (first | (at_builtin; go_must (refine wpList_append_new _ 76 (.tmp 63) (.tmp 69) rfl rfl w2.heap.size 3 infoIntW Tryz.underlying76 rfl (by decide) _ _ _ _ rfl (ownsRow_drewN hown _) #[.int .i64 ((i : Int) + 1 - (p.size : Int))] 1 rfl rfl (by simp [Value.oneCell']) (by unfold maxLen; omega) (by omega) hbr.size ?_); intro A3 c3 w3 hown3 hb3 hg3))
                go_roundw
                case rel =>
                  refine ⟨i + 1, k + 1, m + 1, A3, c3, by omega, by omega, by omega, by go_num, by go_num, rfl, Lib.hid (by rw [nI_length, Hf2.out, List.length_append, ← nI_length, Hm.out]; rfl), Hl2, ?_, (below_drewN hbr _).trans hb3⟩
                  rw [Hf2.out, nI_snoc, flat_snoc, ← Hval.out]; exact hown3
                case measure => simp [intOf]; omega
            · have qe : ((k : Int) + 1 == (p.size : Int)) = false := by rw [beq_eq_false_iff_ne]; omega
              by_cases hkz : 0 < k
              · have q0 : decide ((0 : Int) < (k : Int)) = true := decide_eq_true (by omega)
                have hl2 := cmt_hit Hc.out hkm (by rw [Hgk.out, Hgi.out]; exact heq)
                have hfo : foundOf s.data.toList p.data.toList (i + 1) = foundOf s.data.toList p.data.toList i ++ if Mt s.data.toList p.data.toList p.data.toList.length (i + 1) then [i + 1 - p.data.toList.length] else [] := rfl
                have hmt := lmt_found hl2
                have hf2 : foundOf s.data.toList p.data.toList (i + 1) = foundOf s.data.toList p.data.toList i := by rw [hfo, if_neg (mt hmt.1 (by show ¬ k + 1 = p.size; omega)), List.append_nil]
                have Hl2 := Lib.hid hl2
                have Hf2 := Lib.hid hf2
                clear heq hl2 hfo hmt hf2
                go_wp2
                go_quiet (fail)
                go_wp2
                go_quiet (fail)
                go_wp2
                go_roundw
                case rel =>
                  refine ⟨i + 1, k + 1, m, A', c', by omega, by omega, by omega, by go_num, by go_num, rfl, Lib.hid (by rw [Hf2.out]; exact Hm.out), Hl2, ?_, below_drewN hbr _⟩
                  rw [Hf2.out]; exact ownsRow_drewN hown _
                case measure => simp [intOf]; omega
              · have q0 : decide ((0 : Int) < (k : Int)) = false := decide_eq_false (by omega)
                have hl2 := cmt_hit Hc.out hkm (by rw [Hgk.out, Hgi.out]; exact heq)
                have hfo : foundOf s.data.toList p.data.toList (i + 1) = foundOf s.data.toList p.data.toList i ++ if Mt s.data.toList p.data.toList p.data.toList.length (i + 1) then [i + 1 - p.data.toList.length] else [] := rfl
                have hmt := lmt_found hl2
                have hf2 : foundOf s.data.toList p.data.toList (i + 1) = foundOf s.data.toList p.data.toList i := by rw [hfo, if_neg (mt hmt.1 (by show ¬ k + 1 = p.size; omega)), List.append_nil]
                have Hl2 := Lib.hid hl2
                have Hf2 := Lib.hid hf2
                clear heq hl2 hfo hmt hf2
                go_wp2
                go_quiet (fail)
                go_wp2
                go_quiet (fail)
                go_wp2
                go_roundw
                case rel =>
                  refine ⟨i + 1, k + 1, m, A', c', by omega, by omega, by omega, by go_num, by go_num, rfl, Lib.hid (by rw [Hf2.out]; exact Hm.out), Hl2, ?_, below_drewN hbr _⟩
                  rw [Hf2.out]; exact ownsRow_drewN hown _
                case measure => simp [intOf]; omega
          · have q1 : ((p[k].toNat : Int) == (s[i].toNat : Int)) = false := by rw [beq_eq_false_iff_ne]; intro h; exact heq (UInt8.toNat_inj.1 (by omega))
            have q1' : ((p[k].toNat : Int) != (s[i].toNat : Int)) = true := by rw [bne_iff_ne]; intro h; exact heq (UInt8.toNat_inj.1 (by omega))
            by_cases hkz : 0 < k
            · have q0 : decide ((0 : Int) < (k : Int)) = true := decide_eq_true (by omega)
              obtain ⟨k', hk'⟩ : ∃ k', k - 1 = k' := ⟨_, rfl⟩
              have hks : k' < p.size := by omega
              have ck := Hcell.out k' hks
              rw [show k' + 1 = k from by omega] at ck
              have ckw := (hbr.cell (p := ⟨b, o + k', none⟩) hbB).trans ck
              have ek : (k : Int) - 1 = (k' : Int) := by omega
              have hpk := pi_lt p.data.toList (p := k) hkz
              have Hn := Lib.hid (cmt_next Hc.out hkz (.inr (by rw [Hgk.out, Hgi.out]; exact heq)))
              clear hk' ck heq
              generalize pi p.data.toList k = K1 at *
              go_wp2
              go_quiet (fail)
              go_wp2
              clear ek
              go_roundw
              case rel => exact ⟨K1, by omega, rfl, Hn, ownsRow_drewN hown _, below_drewN hbr _⟩
              case measure => simp [intOf]; omega
            · have q0 : decide ((0 : Int) < (k : Int)) = false := decide_eq_false (by omega)
              have qe : ((k : Int) == (p.size : Int)) = false := qk
              have hl2 : LMt s.data.toList p.data.toList k (i + 1) := by
                obtain rfl : k = 0 := by omega
                exact cmt_miss Hc.out (by rw [Hgk.out, Hgi.out]; exact heq)
              have hfo : foundOf s.data.toList p.data.toList (i + 1) = foundOf s.data.toList p.data.toList i ++ if Mt s.data.toList p.data.toList p.data.toList.length (i + 1) then [i + 1 - p.data.toList.length] else [] := rfl
              have hmt := lmt_found hl2
              have hf2 : foundOf s.data.toList p.data.toList (i + 1) = foundOf s.data.toList p.data.toList i := by rw [hfo, if_neg (mt hmt.1 (by show ¬ k = p.size; omega)), List.append_nil]
              have Hl2 := Lib.hid hl2
              have Hf2 := Lib.hid hf2
              clear heq hl2 hfo hmt hf2
              go_wp2
              go_quiet (fail)
              go_wp2
              go_quiet (fail)
              go_wp2
              go_roundw
              case rel =>
                refine ⟨i + 1, k, m, A', c', by omega, by omega, by omega, by go_num, by go_num, rfl, Lib.hid (by rw [Hf2.out]; exact Hm.out), Hl2, ?_, below_drewN hbr _⟩
                rw [Hf2.out]; exact ownsRow_drewN hown _
              case measure => simp [intOf]; omega
        · obtain rfl : k = p.size := by omega
          have q0 : decide ((0 : Int) < (p.size : Int)) = true := decide_eq_true (by omega)
          have qk : ((p.size : Int) == (p.size : Int)) = true := by simp
          obtain ⟨k', hk'⟩ : ∃ k', p.size - 1 = k' := ⟨_, rfl⟩
          have hks : k' < p.size := by omega
          have ck := Hcell.out k' hks
          rw [show k' + 1 = p.size from by omega] at ck
          have ckw := (hbr.cell (p := ⟨b, o + k', none⟩) hbB).trans ck
          have ek : (p.size : Int) - 1 = (k' : Int) := by omega
          have hpk := pi_lt p.data.toList (p := p.size) hp0
          have Hn := Lib.hid (cmt_next Hc.out hp0 (.inl rfl))
          clear hk' ck
          generalize pi p.data.toList p.size = K1 at *
          go_wp2
          go_quiet (fail)
          go_wp2
          clear ek
          go_roundw
          case rel => exact ⟨K1, by omega, rfl, Hn, ownsRow_drewN hown _, below_drewN hbr _⟩
          case measure => simp [intOf]; omega
    · obtain rfl : i = s.size := by omega
      go_wp2
      go_ret2
      have hn : (nI (findOf s.data.toList p.data.toList)).length = m := Hm.out
      refine ⟨A', c', ?_, ?_, chain hbr hb2, ?_⟩
      · rw [hn]; rfl
      · rw [hn]; exact Reads.of_own hown
      · rw [hn]; exact ownCapW hown

set_option maxHeartbeats 400000 in
theorem find_no (s p : ByteArray) (hE : seekE s.size p.size ≠ 0) (w : World) :
    Calls Tryz.prog 35 #[.string s, .string p] w fun e w' => e = .returned (.tuple #[.slice none 0 0, .int .i64 (seekE s.size p.size)]) ∧ w = w' := by
  have hc1 := seekCheck_any s p
  generalize seekE s.size p.size = E at *
  have C1 := Lib.hid hc1
  have q1 : (E != 0) = true := by simpa using hE
  clear hc1
  go_enter Tryz.func35, Tryz.ntmps35
  go_wp2_with fail
  refine (C1.out _).mono ?_
  rintro e w1 ⟨rfl, rfl⟩
  go_wp2
  go_ret2
  exact ⟨rfl, rfl⟩

end Go.Proofs.YtaogegpfapfchaaGreatDoor

