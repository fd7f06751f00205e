/- The walk of turn.Get. -/
import Derived.Test.YtpnpalbdlhlnkaaTurnOrder
namespace Go.Proofs.Ytpnpalbdlhlnkaa
open Go.RowKit
set_option linter.unusedVariables false

/-- The text that the steps from a place make. -/
noncomputable def candB (t : ByteArray) (at_ : Nat) : ByteArray := ⟨(stepsG t.data.toList (ordB t.data.toList) at_ t.size).toArray⟩
/-- Is it let in? -/
def argOk (t : ByteArray) (a : Int) : Prop := t.size ≤ 200 ∧ 0 ≤ a ∧ a < max 1 (t.size : Int)
/-- Get answers with a text. -/
def getOk (t : ByteArray) (a : Int) : Prop := argOk t a ∧ putT (candB t a.toNat) = t ∧ putA (candB t a.toNat) = a
theorem placeG_lt {t : List UInt8} {k : Nat} (hk : k < t.length) : ∀ n, placeG (ordB t) k n < t.length
  | 0 => hk
  | n + 1 => by
    have h := placeG_lt hk n
    have hl := (ordB_is t).len
    rw [placeG]
    refine (ordB_is t).lt ?_
    rw [List.getD_eq_getElem?_getD, List.getElem?_eq_getElem (by omega)]
    exact List.getElem_mem _
theorem candB_size (t : ByteArray) (a : Nat) : (candB t a).size = t.size := by
  show (stepsG _ _ _ _).length = _
  rw [stepsG_len]

set_option maxRecDepth 100000 in
set_option maxHeartbeats 4000000 in
theorem turnGet_pos (t : ByteArray) (h0 : 0 < t.size) (hs : t.size ≤ 200) (a : Nat) (ha : a < t.size) (w : World) : Calls Try.prog 6 #[.string t, .int .i64 a] w fun e w' => Below w.heap.size w w' ∧
    ((getOk t a ∧ e = .returned (.tuple #[.string (candB t a), .int .i64 0])) ∨ (¬ getOk t a ∧ e = .returned (.tuple #[.string ⟨#[]⟩, .int .i64 3]))) := by
  have hC := Lib.hid (wordCheck_ok t hs)
  have hO := Lib.hid (turnOrder_pos t h0 hs)
  have hP := Lib.hid (turnPut_any (candB t a))
  have hcs := candB_size t a
  have hargs : argOk t a := ⟨hs, by omega, by omega⟩
  have Hargs := Lib.hid hargs
  have q1 : decide ((a : Int) < 0) = false := decide_eq_false (by omega)
  have q2 : ∀ (ats : Array TypeId) (ty : TypeId) (w : World), (Builtin.max_ ats ty #[.int .i64 1, .int .i64 (t.size : Int)]).run Try.prog w = .ok (.int .i64 (t.size : Int)) w := fun ats ty w => by
    go_simp
    try (congr 2; omega)
  have q3 : decide ((t.size : Int) ≤ (a : Int)) = false := decide_eq_false (by omega)
  have q3' : decide (t.size ≤ a) = false := decide_eq_false (by omega)
  clear hargs
  go_enter Try.func6, Try.ntmps6
  go_wp2_with fail
  refine (hC.out _).mono ?_
  rintro e w2 ⟨rfl, rfl⟩
  go_wp2_with fail
  refine (hO.out _).mono ?_
  rintro e w1 ⟨g, rfl, hgl, hgz, hcell, hb1⟩
  clear q1 q2 q3 q3'
  go_wp2
  go_loopw [8, 9, 32] (fun bv kv iv wr => ∃ (k : Nat) (A : Option Addr) (c : Nat), k ≤ t.size ∧ iv = .int .i64 k ∧ kv = .int .i64 ((placeG (ordB t.data.toList) a k : Nat) : Int) ∧ bv = .slice A k c ∧ OwnU wr (fun q => q < w1.heap.size) A k c (stepsG t.data.toList (ordB t.data.toList) a k) ∧ Below w1.heap.size w1 wr) (fun _ _ iv _ => t.size - (intOf iv).toNat)
  case atStart => exact ⟨0, none, 0, Nat.zero_le _, rfl, rfl, rfl, OwnU.nil _ _, Below.refl _ _⟩
  case round =>
    obtain ⟨k, A, c, hk, rfl, rfl, rfl, hown, hbr⟩ := hrel
    have hpl := placeG_lt (t := t.data.toList) (k := a) ha k
    have hpl2 := placeG_lt (t := t.data.toList) (k := a) ha (k + 1)
    have hss := stepsG_snoc t.data.toList (ordB t.data.toList) k a
    have hsl : t.data.toList.length = t.size := rfl
    rw [hsl] at hpl hpl2
    by_cases hlt : k < t.size
    · have c0 := (hbr.cell (p := ⟨g, placeG (ordB t.data.toList) a k, none⟩) hgz).trans (hcell _ hpl)
      rw [show (ordB t.data.toList).getD (placeG (ordB t.data.toList) a k) 0 = placeG (ordB t.data.toList) a (k + 1) from rfl] at c0
      have Hss := Lib.hid hss
      clear hss hsl
      generalize placeG (ordB t.data.toList) a k = p at *
      generalize hq : placeG (ordB t.data.toList) a (k + 1) = q at *
      have Hq := Lib.hid hq
      clear hq
      have hpl' : (p : Int) < t.size := by omega
      have hpl2' : (q : Int) < t.size := by omega
      have hpb := getD_bytes t q hpl2
      have hk8 : k ≤ 8000000000000 := by omega
      obtain ⟨A', c', W', r1, r2, r3, r4⟩ := run_append_U (P := Try.prog) (wr.alloc (Obj.cells #[.int .u8 (t[q].toNat : Int)] 5)) (fun q => q < w1.heap.size) 28 28 Try.underlying28 infoU8 A k c _ (hown.alloc _) ⟨wr.heap.size, 0, none⟩ 1 t[q] (by
          rw [World.cell?_alloc_mark]; rfl) rfl hk8 (fun q hq => by have := hbr.size; simp; omega)
      have hbr2 : Below w1.heap.size w1 W' := (hbr.alloc hbr.size _).grown r3 (by have := hbr.size; simp; omega) fun q hq => by have := (hown.lt q hq).1; omega
      rw [← hpb, ← Hss.out] at r2
      have Hr2 := Lib.hid r2
      clear hpb r2 r3 r4
      go_wp2_with (first | (at_builtin; go_must (refine wpList_app_eq rfl (.tmp 38) (.tmp 42) 28 28 rfl _ _ _ rfl rfl r1 ?_)))
      clear r1
      go_wp2
      go_roundw
      case rel => exact ⟨k + 1, A', c', by omega, by go_num, by rw [Hq.out], rfl, Hr2.out, hbr2⟩
      case measure => simp [intOf]; omega
    · obtain rfl : k = t.size := by omega
      have hstr := run_string_U (P := Try.prog) 28 9 hown Try.underlying28 Try.underlying5 Try.underlying9
      have hstr2 := fun w' (hb : Below wr.heap.size wr w') => run_string_U (P := Try.prog) 28 9 (hown.after hb) Try.underlying28 Try.underlying5 Try.underlying9
      rw [show (⟨(stepsG t.data.toList (ordB t.data.toList) a t.size).toArray⟩ : ByteArray) = candB t a from rfl] at hstr
      rw [show (⟨(stepsG t.data.toList (ordB t.data.toList) a t.size).toArray⟩ : ByteArray) = candB t a from rfl] at hstr2
      have hb5 : Below w.heap.size w wr := hb1.trans (hbr.mono hb1.size)
      have Hs2 := Lib.hid hstr2
      have hgk : getOk t a ↔ putT (candB t a) = t ∧ putA (candB t a) = a := by
        unfold getOk
        rw [Int.toNat_natCast]
        exact ⟨fun h => h.2, fun h => ⟨Hargs.out, h⟩⟩
      have Hgk := Lib.hid hgk
      clear hgk hstr2 hss hpl hpl2 hown hsl
      generalize putT (candB t a) = pt at *
      generalize putA (candB t a) = pa at *
      generalize putE (candB t a) = pe at *
      go_wp2_with fail
      refine (hP.out _).mono ?_
      rintro e w6 ⟨rfl, hb6⟩
      have hs6 := Hs2.out _ hb6
      have hb7 := chain hb6 hb5
      by_cases h1 : pt = t
      · have q4 : (pt.toList != t.toList) = false := by rw [h1]; simp
        have q4b : (pt.toList == t.toList) = true := by rw [h1]; simp
        by_cases h2 : pa = a
        · have q5 : (pa != (a : Int)) = false := bne_eq_false_iff_eq.2 h2
          have q5b : (pa == (a : Int)) = true := beq_iff_eq.2 h2
          have hyes := Hgk.out.2 ⟨h1, h2⟩
          clear h1 h2
          go_wp2
          all_goals (go_ret2; exact ⟨hb7, .inl ⟨hyes, rfl⟩⟩)
        · have q5 : (pa != (a : Int)) = true := by simpa using h2
          have q5b : (pa == (a : Int)) = false := by simpa using h2
          have hno : ¬ getOk t a := fun h => h2 (Hgk.out.1 h).2
          clear h1 h2
          go_wp2
          all_goals (go_ret2; exact ⟨hb7, .inr ⟨hno, rfl⟩⟩)
      · have q4 : (pt.toList != t.toList) = true := by
          rw [bne_iff_ne]; intro h; exact h1 (by cases pt; cases t; simpa [ByteArray.toList_eq] using h)
        have q4b : (pt.toList == t.toList) = false := by
          rw [beq_eq_false_iff_ne]; exact bne_iff_ne.1 q4
        have hno : ¬ getOk t a := fun h => h1 (Hgk.out.1 h).1
        clear h1
        go_wp2
        all_goals (go_ret2; exact ⟨hb7, .inr ⟨hno, rfl⟩⟩)

theorem putT_nil : putT ⟨#[]⟩ = ⟨#[]⟩ ∧ putA ⟨#[]⟩ = 0 := by
  have e : ordOf [] = [] := (ordOf_is []).unique ⟨by simp, by simp⟩
  constructor
  · unfold putT
    rw [if_pos (by decide)]
    show (⟨(tOf []).toArray⟩ : ByteArray) = _
    unfold tOf
    rw [e]; rfl
  · unfold putA
    rw [if_pos (by decide)]
    show ((atOf [] : Nat) : Int) = 0
    unfold atOf
    rw [e]; rfl
set_option maxRecDepth 100000 in
set_option maxHeartbeats 2000000 in
theorem turnOrder_zero (w : World) : Calls Try.prog 13 #[.string ⟨#[]⟩] w fun e w' => ∃ g, e = .returned (.slice (some ⟨g, 0, none⟩) 0 0) ∧ Below w.heap.size w w' := by
  have hmk := fun w => make_ints (P := Try.prog) 33 3 Try.underlying33 (by kernel_rfl) 0 0 rfl (by omega) w
  have hbx := Blk.new w 9 #[.string ⟨#[]⟩]
  have hb0 : Below w.heap.size w (w.alloc (Obj.cells #[.string ⟨#[]⟩] 9)) := (Below.refl _ _).alloc (Nat.le_refl _) _
  have c1 : (w.alloc (Obj.cells #[.string ⟨#[]⟩] 9)).cell? ⟨w.heap.size, 0, none⟩ = some (.string ⟨#[]⟩) := hbx.cell 0
  go_enter Try.func13, Try.ntmps13
  go_wp2_with fail
  generalize w.alloc (Obj.cells #[.string ⟨#[]⟩] 9) = w1 at *
  have hb2 := hb0.alloc hb0.size (Obj.cells (madeCells #[.int .i64 0] 0) 3)
  go_wp2
  generalize w1.heap.size = g1 at *
  generalize w1.alloc (Obj.cells (madeCells #[.int .i64 0] 0) 3) = w2 at *
  go_loopw [4, 10] (fun _ iv wr => iv = .int .i64 0 ∧ wr = w2) (fun _ iv _ => 0)
  case atStart => exact ⟨rfl, rfl⟩
  case round =>
    obtain ⟨rfl, rfl⟩ := hrel
    generalize wr = V at *
    go_wp2_with fail
    refine (intSort_none _ _ _ _).mono ?_
    rintro e w4 ⟨rfl, rfl⟩
    go_wp2
    go_ret
    exact ⟨_, rfl, hb2⟩
set_option maxRecDepth 100000 in
set_option maxHeartbeats 2000000 in
theorem turnGet_zero (w : World) : Calls Try.prog 6 #[.string ⟨#[]⟩, .int .i64 0] w fun e w' => Below w.heap.size w w' ∧ e = .returned (.tuple #[.string ⟨#[]⟩, .int .i64 0]) := by
  have hC := Lib.hid (wordCheck_ok ⟨#[]⟩ (by decide))
  have hO := Lib.hid turnOrder_zero
  have hP := turnPut_any ⟨#[]⟩
  rw [putT_nil.1, putT_nil.2] at hP
  have HP := Lib.hid hP
  clear hP
  go_enter Try.func6, Try.ntmps6
  go_wp2_with fail
  refine (hC.out _).mono ?_
  rintro e w2 ⟨rfl, rfl⟩
  go_wp2_with fail
  refine (hO.out _).mono ?_
  rintro e w1 ⟨g, rfl, hb1⟩
  go_wp2
  go_loopw [8, 9, 32] (fun bv kv iv wr => iv = .int .i64 0 ∧ kv = .int .i64 0 ∧ bv = .slice none 0 0 ∧ wr = w1) (fun _ _ iv _ => 0)
  case atStart => exact ⟨rfl, rfl, rfl, rfl⟩
  case round =>
    obtain ⟨rfl, rfl, rfl, rfl⟩ := hrel
    have hstr : ∀ w, (convert 28 9 (.slice none 0 0)).run Try.prog w = .ok (.string ⟨#[]⟩) w := fun w => by
      have := run_string_U (P := Try.prog) 28 9 (OwnU.nil w (fun _ => False)) Try.underlying28 Try.underlying5 Try.underlying9
      exact this
    go_wp2_with fail
    refine (HP.out _).mono ?_
    rintro e w6 ⟨rfl, hb6⟩
    have hb7 := chain hb6 hb1
    go_wp2
    all_goals (go_ret2; exact ⟨hb7, rfl⟩)
theorem getOk_zero : getOk ⟨#[]⟩ 0 := by
  have e : candB ⟨#[]⟩ (0 : Int).toNat = ⟨#[]⟩ := by
    unfold candB
    rfl
  refine ⟨⟨by decide, by decide, by decide⟩, ?_⟩
  rw [e]
  exact putT_nil
set_option maxHeartbeats 1000000 in
/-- turn.Get of whatever comes: a text just where it is one. -/
theorem turnGet_any (t : ByteArray) (a : Int) (hts : t.size ≤ 140737488351232) (w : World) : Calls Try.prog 6 #[.string t, .int .i64 a] w fun e w' => Below w.heap.size w w' ∧
    ((getOk t a ∧ e = .returned (.tuple #[.string (candB t a.toNat), .int .i64 0])) ∨ (¬ getOk t a ∧ ∃ E : Int, E ≠ 0 ∧ e = .returned (.tuple #[.string ⟨#[]⟩, .int .i64 E]))) := by
  by_cases hs : t.size ≤ 200
  case neg =>
    have hno : ¬ getOk t a := fun h => hs h.1.1
    have hC := Lib.hid (wordCheck_no t (by omega))
    go_enter Try.func6, Try.ntmps6
    go_wp2_with fail
    refine (hC.out _).mono ?_
    rintro e w2 ⟨rfl, rfl⟩
    go_wp2
    go_ret2
    exact ⟨Below.refl _ _, .inr ⟨hno, 2, by decide, rfl⟩⟩
  by_cases h1 : a < 0
  · have hno : ¬ getOk t a := fun h => by have := h.1.2.1; omega
    have hC := Lib.hid (wordCheck_ok t hs)
    have q1 : decide (a < 0) = true := decide_eq_true h1
    go_enter Try.func6, Try.ntmps6
    go_wp2_with fail
    refine (hC.out _).mono ?_
    rintro e w2 ⟨rfl, rfl⟩
    go_wp2
    go_ret2
    exact ⟨Below.refl _ _, .inr ⟨hno, 1, by decide, rfl⟩⟩
  obtain ⟨n, rfl⟩ : ∃ n : Nat, a = n := ⟨a.toNat, by omega⟩
  rcases Nat.eq_zero_or_pos t.size with h0 | h0
  · obtain rfl : t = ⟨#[]⟩ := by
      obtain ⟨⟨l⟩⟩ := t
      cases l with
      | nil => rfl
      | cons a l => simp [ByteArray.size] at h0
    by_cases hn : n = 0
    · subst hn
      refine (turnGet_zero w).mono fun e w' ⟨hb, he⟩ => ⟨hb, .inl ⟨getOk_zero, ?_⟩⟩
      rw [he]
      rfl
    · have hno : ¬ getOk ⟨#[]⟩ n := fun h => by
        have := h.1.2.2
        rw [show ((⟨#[]⟩ : ByteArray).size : Int) = 0 from rfl] at this
        omega
      have hC := Lib.hid (wordCheck_ok ⟨#[]⟩ (by decide))
      have q1 : decide ((n : Int) < 0) = false := decide_eq_false (by omega)
      have q2 : decide ((1 : Int) ≤ (n : Int)) = true := decide_eq_true (by omega)
      have q2' : decide (1 ≤ n) = true := decide_eq_true (by omega)
      go_enter Try.func6, Try.ntmps6
      go_wp2_with fail
      refine (hC.out _).mono ?_
      rintro e w2 ⟨rfl, rfl⟩
      go_wp2
      all_goals (go_ret2; exact ⟨Below.refl _ _, .inr ⟨hno, 1, by decide, rfl⟩⟩)
  by_cases hn : n < t.size
  · refine (turnGet_pos t h0 hs n hn w).mono fun e w' ⟨hb, h⟩ => ⟨hb, ?_⟩
    rcases h with ⟨h1, h2⟩ | ⟨h1, h2⟩
    · exact .inl ⟨h1, by rw [Int.toNat_natCast]; exact h2⟩
    · exact .inr ⟨h1, 3, by decide, h2⟩
  · have hno : ¬ getOk t n := fun h => by
      have := h.1.2.2
      omega
    have hC := Lib.hid (wordCheck_ok t hs)
    have q1 : decide ((n : Int) < 0) = false := decide_eq_false (by omega)
    have q2 : ∀ (ats : Array TypeId) (ty : TypeId) (w : World), (Builtin.max_ ats ty #[.int .i64 1, .int .i64 (t.size : Int)]).run Try.prog w = .ok (.int .i64 (t.size : Int)) w := fun ats ty w => by
      go_simp
      try (congr 2; omega)
    have q3 : decide ((t.size : Int) ≤ (n : Int)) = true := decide_eq_true (by omega)
    have q3' : decide (t.size ≤ n) = true := decide_eq_true (by omega)
    go_enter Try.func6, Try.ntmps6
    go_wp2_with fail
    refine (hC.out _).mono ?_
    rintro e w2 ⟨rfl, rfl⟩
    go_wp2
    all_goals (go_ret2; exact ⟨Below.refl _ _, .inr ⟨hno, 1, by decide, rfl⟩⟩)
end Go.Proofs.Ytpnpalbdlhlnkaa
