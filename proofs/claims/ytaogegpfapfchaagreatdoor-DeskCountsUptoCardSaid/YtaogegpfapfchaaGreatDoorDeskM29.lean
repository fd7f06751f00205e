import Derived.Test.YtaogegpfapfchaaGreatDoorDeskM28
/- Several texts in one: XDeskAsk. -/
/- The walk of the desk's asked. -/
namespace Go.Proofs.YtaogegpfapfchaaGreatDoor
open Go.RowKit
set_option linter.unusedVariables false

abbrev kPer : ByteArray := ⟨#[112, 101, 114, 105, 111, 100, 115]⟩
abbrev kFind : ByteArray := ⟨#[102, 105, 110, 100]⟩
abbrev kSplit : ByteArray := ⟨#[115, 112, 108, 105, 116]⟩
abbrev kTurn : ByteArray := ⟨#[116, 117, 114, 110]⟩
abbrev kFar : ByteArray := ⟨#[102, 97, 114]⟩
def eN (E : Nat) (s : ByteArray) : Except Nat ByteArray := if E = 0 then .ok s else .error E
noncomputable def askD (l : List ByteArray) : Except Nat ByteArray :=
  if l.length < 2 then .error 12
  else if l.getD 0 ⟨#[]⟩ = kPer ∧ l.length = 2 then eN (wE (l.getD 1 ⟨#[]⟩)) (listD (perR (l.getD 1 ⟨#[]⟩)))
  else if l.getD 0 ⟨#[]⟩ = kFind ∧ l.length = 3 then eN (seekN (l.getD 1 ⟨#[]⟩) (l.getD 2 ⟨#[]⟩)) (listD (findR (l.getD 1 ⟨#[]⟩) (l.getD 2 ⟨#[]⟩)))
  else if l.getD 0 ⟨#[]⟩ = kSplit ∧ l.length = 2 then eN (wE (l.getD 1 ⟨#[]⟩)) (joinB (splF (l.getD 1 ⟨#[]⟩)))
  else if l.getD 0 ⟨#[]⟩ = kTurn ∧ l.length = 2 then eN (wE (l.getD 1 ⟨#[]⟩)) (putT (l.getD 1 ⟨#[]⟩) ++ ⟨#[32]⟩ ++ decB (putA (l.getD 1 ⟨#[]⟩)).toNat)
  else if l.getD 0 ⟨#[]⟩ = kFar ∧ l.length = 3 then eN (de (l.getD 1 ⟨#[]⟩) (l.getD 2 ⟨#[]⟩)).toNat (decB (dv (l.getD 1 ⟨#[]⟩) (l.getD 2 ⟨#[]⟩)).toNat)
  else .error 12
def askEnd : Except Nat ByteArray → Ending
  | .error E => .panicked (thrown E)
  | .ok s => .returned (.string s)

set_option maxHeartbeats 1000000 in
theorem ask_few (A : Option Addr) (n c : Nat) (w : World) (hn : n < 2) : Calls Tryz.prog 22 #[.slice A n c] w fun e w' => e = .panicked (thrown 12) ∧ Below w.heap.size w w' := by
  have M := Lib.hid (must_no 12 (by decide))
  have q1 : decide (n < 2) = true := decide_eq_true hn
  have q1' : decide ((n : Int) < 2) = true := decide_eq_true (by omega)
  go_enter Tryz.func22, Tryz.ntmps22
  go_wp2_with fail
  refine (M.out _).mono ?_
  rintro e w1 ⟨rfl, rfl⟩
  exact ⟨rfl, rfl, Below.refl _ _⟩

set_option maxRecDepth 100000 in
set_option maxHeartbeats 2000000 in
theorem ask_per (b o c : Nat) (x y : ByteArray) (w : World) (ht : Tab w) (hx : x = kPer) (c0 : w.cell? ⟨b, o, none⟩ = some (.string x)) (c1 : w.cell? ⟨b, o + 1, none⟩ = some (.string y)) :
    Calls Tryz.prog 22 #[.slice (some ⟨b, o, none⟩) 2 c] w fun e w' => e = askEnd (eN (wE y) (listD (perR y))) ∧ Below w.heap.size w w' := by
  have P := Lib.hid (periods_all y w)
  have q1 : x.toList = [112, 101, 114, 105, 111, 100, 115] := by rw [hx]; decide +kernel
  have T := Lib.hid ht
  clear hx ht
  by_cases hE : wE y = 0
  · rw [hE] at P ⊢
    have M := Lib.hid must_ok
    go_enter Tryz.func22, Tryz.ntmps22
    go_wp2_with fail
    refine P.out.mono ?_
    rintro e w1 ⟨A, n, c, rfl, hl, hn, hxx, hr, hb⟩
    go_wp2_with fail
    refine (M.out _).mono ?_
    rintro e w2 ⟨rfl, rfl⟩
    have L := Lib.hid (listed_any (perR y) A n c _ hl (by omega) hxx w1 hr (Nat.le_refl _) (T.out.after hb))
    go_wp2_with fail
    refine L.out.mono ?_
    rintro e w2 ⟨rfl, hb2⟩
    go_wp2
    go_ret
    exact ⟨rfl, chain hb2 hb⟩
  · have e1 : eN (wE y) (listD (perR y)) = .error (wE y) := by unfold eN; rw [if_neg hE]
    rw [e1]
    have M := Lib.hid (must_no (wE y : Int) (by omega))
    generalize wE y = E at *
    go_enter Tryz.func22, Tryz.ntmps22
    go_wp2_with fail
    refine P.out.mono ?_
    rintro e w1 ⟨A, n, c, rfl, hl, hn, hxx, hr, hb⟩
    go_wp2_with fail
    refine (M.out _).mono ?_
    rintro e w2 ⟨rfl, rfl⟩
    exact ⟨rfl, rfl, hb⟩

/- arms -/
theorem put_at (s : ByteArray) : ∃ k : Nat, putA s = (k : Int) ∧ k ≤ 1000 := by
  unfold putA
  by_cases h : s.size ≤ 200
  · rw [if_pos h]
    refine ⟨_, rfl, ?_⟩
    have h1 := (ordOf_is s.data.toList).len
    have h2 : s.data.toList.length = s.size := rfl
    have h3 : (ordOf s.data.toList).idxOf 0 ≤ (ordOf s.data.toList).length := List.idxOf_le_length
    unfold atOf zeroAt
    omega
  · rw [if_neg h]
    exact ⟨0, rfl, by decide⟩
theorem put_size (s : ByteArray) : (putT s).size ≤ 1000 := by
  unfold putT
  by_cases h : s.size ≤ 200
  · rw [if_pos h]
    have h1 : (⟨(tOf s.data.toList).toArray⟩ : ByteArray).size = (tOf s.data.toList).length := rfl
    have h2 : s.data.toList.length = s.size := rfl
    rw [h1, tOf_len]
    omega
  · rw [if_neg h]
    decide
theorem put_all (s : ByteArray) (w : World) : Calls Tryz.prog 37 #[.string s] w fun e w' => ∃ k : Nat, e = .returned (.tuple #[.string (putT s), .int .i64 (k : Int), .int .i64 (wE s : Int)]) ∧ (putA s).toNat = k ∧ k ≤ 1000 ∧ (putT s).size ≤ 1000 ∧ Below w.heap.size w w' := by
  refine (turnPut_any s w).mono ?_
  rintro e w' ⟨rfl, hb⟩
  have h1 : putE s = ((wE s : Nat) : Int) := by unfold putE wE; split <;> rfl
  have h2 : ∃ k : Nat, putA s = (k : Int) ∧ k ≤ 1000 := put_at s
  obtain ⟨k, h2, h3⟩ := h2
  exact ⟨k, by rw [h1, h2], by rw [h2]; rfl, h3, put_size s, hb⟩
theorem dist_all (a b : ByteArray) (w : World) : Calls Tryz.prog 38 #[.string a, .string b] w fun e w' => ∃ k : Nat, e = .returned (.tuple #[.int .i64 (k : Int), .int .i64 ((de a b).toNat : Int)]) ∧ (dv a b).toNat = k ∧ k ≤ 400 ∧ Below w.heap.size w w' := by
  refine (dist_any a b w).mono ?_
  rintro e w' ⟨rfl, hb⟩
  have h1 := dv_bd a b
  have h2 : ((de a b).toNat : Int) = de a b := by unfold de; split <;> rfl
  exact ⟨(dv a b).toNat, by rw [h2, Int.toNat_of_nonneg h1.1], rfl, by omega, hb⟩
theorem below_of_drew {w w1 : World} (h : Below w.drew.heap.size w.drew w1) : Below w.heap.size w w1 := chain h (first_drew (Below.refl _ _))

set_option maxRecDepth 100000 in
set_option maxHeartbeats 2000000 in
theorem ask_find (b o c : Nat) (x y z : ByteArray) (w : World) (ht : Tab w) (hbs : b < w.heap.size) (hx : x = kFind) (c0 : w.cell? ⟨b, o, none⟩ = some (.string x)) (c1 : w.cell? ⟨b, o + 1, none⟩ = some (.string y)) (c2 : w.cell? ⟨b, o + 2, none⟩ = some (.string z)) :
    Calls Tryz.prog 22 #[.slice (some ⟨b, o, none⟩) 3 c] w fun e w' => e = askEnd (eN (seekN y z) (listD (findR y z))) ∧ Below w.heap.size w w' := by
  have P := Lib.hid (find_all y z)
  have q1 : x.toList = [102, 105, 110, 100] := by rw [hx]; decide +kernel
  have T := Lib.hid ht
  clear hx ht
  by_cases hE : seekN y z = 0
  · rw [hE] at P ⊢
    have M := Lib.hid must_ok
    go_enter Tryz.func22, Tryz.ntmps22
    go_wp2
    go_region_held3 (fun w' => w'.cell? ⟨b, o + 1, none⟩ = some (.string y) ∧ w'.cell? ⟨b, o + 2, none⟩ = some (.string z)) (first | exact ⟨c1, c2⟩ | assumption)
      ((first | (go_at_call 35; (with_reducible refine (P.out _).mono ?_); rintro e w1 ⟨A, n, c, rfl, hl, hn, hxx, hr, hb⟩; have hs : w1.cell? ⟨b, o + 1, none⟩ = some (.string y) ∧ w1.cell? ⟨b, o + 2, none⟩ = some (.string z) := ⟨by rw [hb.cell (by show b < _; exact hbs)]; exact c1, by rw [hb.cell (by show b < _; exact hbs)]; exact c2⟩)))
    all_goals
      have hbb : Below w.heap.size w w1 := below_of_drew hb
    go_wp2_with fail
    refine (M.out _).mono ?_
    rintro e w2 ⟨rfl, rfl⟩
    have L := Lib.hid (listed_any (findR y z) A n c _ hl (by omega) hxx w1 hr (Nat.le_refl _) (T.out.after hbb))
    go_wp2_with fail
    refine L.out.mono ?_
    rintro e w2 ⟨rfl, hb2⟩
    go_wp2
    go_ret
    exact ⟨rfl, chain hb2 hbb⟩
  · have e1 : eN (seekN y z) (listD (findR y z)) = .error (seekN y z) := by unfold eN; rw [if_neg hE]
    rw [e1]
    have M := Lib.hid (must_no ((seekN y z : Nat) : Int) (by omega))
    generalize seekN y z = E at *
    go_enter Tryz.func22, Tryz.ntmps22
    go_wp2
    go_region_held3 (fun w' => w'.cell? ⟨b, o + 1, none⟩ = some (.string y) ∧ w'.cell? ⟨b, o + 2, none⟩ = some (.string z)) (first | exact ⟨c1, c2⟩ | assumption)
      ((first | (go_at_call 35; (with_reducible refine (P.out _).mono ?_); rintro e w1 ⟨A, n, c, rfl, hl, hn, hxx, hr, hb⟩; have hs : w1.cell? ⟨b, o + 1, none⟩ = some (.string y) ∧ w1.cell? ⟨b, o + 2, none⟩ = some (.string z) := ⟨by rw [hb.cell (by show b < _; exact hbs)]; exact c1, by rw [hb.cell (by show b < _; exact hbs)]; exact c2⟩)))
    all_goals
      have hbb : Below w.heap.size w w1 := below_of_drew hb
    go_wp2_with fail
    refine (M.out _).mono ?_
    rintro e w2 ⟨rfl, rfl⟩
    exact ⟨rfl, rfl, hbb⟩

set_option maxRecDepth 100000 in
set_option maxHeartbeats 2000000 in
theorem ask_split (b o c : Nat) (x y : ByteArray) (w : World) (ht : Tab w) (hx : x = kSplit) (c0 : w.cell? ⟨b, o, none⟩ = some (.string x)) (c1 : w.cell? ⟨b, o + 1, none⟩ = some (.string y)) :
    Calls Tryz.prog 22 #[.slice (some ⟨b, o, none⟩) 2 c] w fun e w' => e = askEnd (eN (wE y) (joinB (splF y))) ∧ Below w.heap.size w w' := by
  have P := Lib.hid (split_all y w)
  have q1 : x.toList = [115, 112, 108, 105, 116] := by rw [hx]; decide +kernel
  have T := Lib.hid ht
  clear hx ht
  by_cases hE : wE y = 0
  · rw [hE] at P ⊢
    have M := Lib.hid must_ok
    go_enter Tryz.func22, Tryz.ntmps22
    go_wp2_with fail
    refine P.out.mono ?_
    rintro e w1 ⟨A, n, c, rfl, hl, hc, hn, hxx, hr, hbb⟩
    go_wp2_with fail
    refine (M.out _).mono ?_
    rintro e w2 ⟨rfl, rfl⟩
    have L := Lib.hid (joinSp_any A n c _ (splF y) hl hc hn hxx w1 hr (Nat.le_refl _))
    go_wp2_with fail
    refine L.out.mono ?_
    rintro e w2 ⟨rfl, hb2⟩
    go_wp2
    go_ret
    exact ⟨rfl, chain hb2 hbb⟩
  · have e1 : eN (wE y) (joinB (splF y)) = .error (wE y) := by unfold eN; rw [if_neg hE]
    rw [e1]
    have M := Lib.hid (must_no ((wE y : Nat) : Int) (by omega))
    generalize wE y = E at *
    go_enter Tryz.func22, Tryz.ntmps22
    go_wp2_with fail
    refine P.out.mono ?_
    rintro e w1 ⟨A, n, c, rfl, hl, hc, hn, hxx, hr, hbb⟩
    go_wp2_with fail
    refine (M.out _).mono ?_
    rintro e w2 ⟨rfl, rfl⟩
    exact ⟨rfl, rfl, hbb⟩

set_option maxRecDepth 100000 in
set_option maxHeartbeats 2000000 in
theorem ask_turn (b o c : Nat) (x y : ByteArray) (w : World) (ht : Tab w) (hx : x = kTurn) (c0 : w.cell? ⟨b, o, none⟩ = some (.string x)) (c1 : w.cell? ⟨b, o + 1, none⟩ = some (.string y)) :
    Calls Tryz.prog 22 #[.slice (some ⟨b, o, none⟩) 2 c] w fun e w' => e = askEnd (eN (wE y) (putT y ++ ⟨#[32]⟩ ++ decB (putA y).toNat)) ∧ Below w.heap.size w w' := by
  have P := Lib.hid (put_all y w)
  have q1 : x.toList = [116, 117, 114, 110] := by rw [hx]; decide +kernel
  have T := Lib.hid ht
  clear hx ht
  by_cases hE : wE y = 0
  · rw [hE] at P ⊢
    have M := Lib.hid must_ok
    go_enter Tryz.func22, Tryz.ntmps22
    go_wp2_with fail
    refine P.out.mono ?_
    rintro e w1 ⟨k, rfl, hk, hk1, hts, hbb⟩
    go_wp2_with fail
    refine (M.out _).mono ?_
    rintro e w2 ⟨rfl, rfl⟩
    have L := Lib.hid (itoa_tab k (by omega) w1 (T.out.after hbb))
    have l1 := decDigits_le k
    have l2 : (decB k).size = (Lib.decDigits k).length := rfl
    have a1 : ∀ w, (Op.stringOp .add (putT y) ⟨#[32]⟩).run Tryz.prog w = .ok (.string (putT y ++ ⟨#[32]⟩)) w := fun w => run_string_add_sum w _ _ (by show _ + 1 ≤ _; omega)
    have a2 : ∀ w, (Op.stringOp .add (putT y ++ ⟨#[32]⟩) (decB k)).run Tryz.prog w = .ok (.string (putT y ++ ⟨#[32]⟩ ++ decB k)) w := fun w => run_string_add_sum w _ _ (by simp only [ByteArray.size_append]; show _ + 1 + _ ≤ _; omega)
    have Hk := Lib.hid hk
    clear hk l1 l2
    go_wp2_with fail
    refine L.out.mono ?_
    rintro e w2 ⟨rfl, hb2⟩
    change ∀ w, (Op.stringOp .add (putT y ++ ⟨#[32]⟩) ⟨(Lib.decDigits k).toArray⟩).run Tryz.prog w = .ok (.string (putT y ++ ⟨#[32]⟩ ++ decB k)) w at a2
    go_wp2
    go_ret
    exact ⟨by rw [Hk.out]; rfl, chain hb2 hbb⟩
  · have e1 : eN (wE y) (putT y ++ ⟨#[32]⟩ ++ decB (putA y).toNat) = .error (wE y) := by unfold eN; rw [if_neg hE]
    rw [e1]
    have M := Lib.hid (must_no ((wE y : Nat) : Int) (by omega))
    generalize wE y = E at *
    go_enter Tryz.func22, Tryz.ntmps22
    go_wp2_with fail
    refine P.out.mono ?_
    rintro e w1 ⟨k, rfl, hk, hk1, hts, hbb⟩
    go_wp2_with fail
    refine (M.out _).mono ?_
    rintro e w2 ⟨rfl, rfl⟩
    exact ⟨rfl, rfl, hbb⟩

set_option maxRecDepth 100000 in
set_option maxHeartbeats 2000000 in
theorem ask_far (b o c : Nat) (x y z : ByteArray) (w : World) (ht : Tab w) (hbs : b < w.heap.size) (hx : x = kFar) (c0 : w.cell? ⟨b, o, none⟩ = some (.string x)) (c1 : w.cell? ⟨b, o + 1, none⟩ = some (.string y)) (c2 : w.cell? ⟨b, o + 2, none⟩ = some (.string z)) :
    Calls Tryz.prog 22 #[.slice (some ⟨b, o, none⟩) 3 c] w fun e w' => e = askEnd (eN ((de y z).toNat) (decB (dv y z).toNat)) ∧ Below w.heap.size w w' := by
  have P := Lib.hid (dist_all y z)
  have q1 : x.toList = [102, 97, 114] := by rw [hx]; decide +kernel
  have T := Lib.hid ht
  clear hx ht
  by_cases hE : (de y z).toNat = 0
  · rw [hE] at P ⊢
    have M := Lib.hid must_ok
    go_enter Tryz.func22, Tryz.ntmps22
    go_wp2
    go_region_held3 (fun w' => w'.cell? ⟨b, o + 1, none⟩ = some (.string y) ∧ w'.cell? ⟨b, o + 2, none⟩ = some (.string z)) (first | exact ⟨c1, c2⟩ | assumption)
      ((first | (go_at_call 38; (with_reducible refine (P.out _).mono ?_); rintro e w1 ⟨k, rfl, hk, hk1, hb⟩; have hs : w1.cell? ⟨b, o + 1, none⟩ = some (.string y) ∧ w1.cell? ⟨b, o + 2, none⟩ = some (.string z) := ⟨by rw [hb.cell (by show b < _; exact hbs)]; exact c1, by rw [hb.cell (by show b < _; exact hbs)]; exact c2⟩)))
    all_goals
      have hbb : Below w.heap.size w w1 := below_of_drew hb
    go_wp2_with fail
    refine (M.out _).mono ?_
    rintro e w2 ⟨rfl, rfl⟩
    have L := Lib.hid (itoa_tab k (by omega) w1 (T.out.after hbb))
    have Hk := Lib.hid hk
    clear hk
    go_wp2_with fail
    refine L.out.mono ?_
    rintro e w2 ⟨rfl, hb2⟩
    go_wp2
    go_ret
    exact ⟨by rw [Hk.out]; rfl, chain hb2 hbb⟩
  · have e1 : eN ((de y z).toNat) (decB (dv y z).toNat) = .error ((de y z).toNat) := by unfold eN; rw [if_neg hE]
    rw [e1]
    have M := Lib.hid (must_no (((de y z).toNat : Nat) : Int) (by omega))
    generalize (de y z).toNat = E at *
    go_enter Tryz.func22, Tryz.ntmps22
    go_wp2
    go_region_held3 (fun w' => w'.cell? ⟨b, o + 1, none⟩ = some (.string y) ∧ w'.cell? ⟨b, o + 2, none⟩ = some (.string z)) (first | exact ⟨c1, c2⟩ | assumption)
      ((first | (go_at_call 38; (with_reducible refine (P.out _).mono ?_); rintro e w1 ⟨k, rfl, hk, hk1, hb⟩; have hs : w1.cell? ⟨b, o + 1, none⟩ = some (.string y) ∧ w1.cell? ⟨b, o + 2, none⟩ = some (.string z) := ⟨by rw [hb.cell (by show b < _; exact hbs)]; exact c1, by rw [hb.cell (by show b < _; exact hbs)]; exact c2⟩)))
    all_goals
      have hbb : Below w.heap.size w w1 := below_of_drew hb
    go_wp2_with fail
    refine (M.out _).mono ?_
    rintro e w2 ⟨rfl, rfl⟩
    exact ⟨rfl, rfl, hbb⟩

set_option maxRecDepth 100000 in
set_option maxHeartbeats 2000000 in
theorem miss_Per (b o n c : Nat) (x : ByteArray) (w : World) (hn : ¬ n < 2) (hc : n ≤ 140737488355328) (c0 : w.cell? ⟨b, o, none⟩ = some (.string x)) (hx : x = kPer) (hm : ¬ n = 2) :
    Calls Tryz.prog 22 #[.slice (some ⟨b, o, none⟩) n c] w fun e w' => e = .panicked (thrown 12) ∧ Below w.heap.size w w' := by
  have q1 : x.toList = [112, 101, 114, 105, 111, 100, 115] := by rw [hx]; decide +kernel
  have q2 : ((n : Int) == 2) = false := by rw [beq_eq_false_iff_ne]; omega
  have q3 : ¬ (n : Int) = 2 := by omega
  clear hx
  have M := Lib.hid (must_no 12 (by decide))
  have p1 : decide (n < 2) = false := decide_eq_false hn
  have p1' : decide ((n : Int) < 2) = false := decide_eq_false (by omega)
  go_enter Tryz.func22, Tryz.ntmps22
  go_wp2_with fail
  refine (M.out _).mono ?_
  rintro e w2 ⟨rfl, rfl⟩
  exact ⟨rfl, rfl, Below.refl _ _⟩

set_option maxRecDepth 100000 in
set_option maxHeartbeats 2000000 in
theorem miss_Find (b o n c : Nat) (x : ByteArray) (w : World) (hn : ¬ n < 2) (hc : n ≤ 140737488355328) (c0 : w.cell? ⟨b, o, none⟩ = some (.string x)) (hx : x = kFind) (hm : ¬ n = 3) :
    Calls Tryz.prog 22 #[.slice (some ⟨b, o, none⟩) n c] w fun e w' => e = .panicked (thrown 12) ∧ Below w.heap.size w w' := by
  have q1 : x.toList = [102, 105, 110, 100] := by rw [hx]; decide +kernel
  have q2 : ((n : Int) == 3) = false := by rw [beq_eq_false_iff_ne]; omega
  have q3 : ¬ (n : Int) = 3 := by omega
  clear hx
  have M := Lib.hid (must_no 12 (by decide))
  have p1 : decide (n < 2) = false := decide_eq_false hn
  have p1' : decide ((n : Int) < 2) = false := decide_eq_false (by omega)
  go_enter Tryz.func22, Tryz.ntmps22
  go_wp2_with fail
  refine (M.out _).mono ?_
  rintro e w2 ⟨rfl, rfl⟩
  exact ⟨rfl, rfl, Below.refl _ _⟩

set_option maxRecDepth 100000 in
set_option maxHeartbeats 2000000 in
theorem miss_Split (b o n c : Nat) (x : ByteArray) (w : World) (hn : ¬ n < 2) (hc : n ≤ 140737488355328) (c0 : w.cell? ⟨b, o, none⟩ = some (.string x)) (hx : x = kSplit) (hm : ¬ n = 2) :
    Calls Tryz.prog 22 #[.slice (some ⟨b, o, none⟩) n c] w fun e w' => e = .panicked (thrown 12) ∧ Below w.heap.size w w' := by
  have q1 : x.toList = [115, 112, 108, 105, 116] := by rw [hx]; decide +kernel
  have q2 : ((n : Int) == 2) = false := by rw [beq_eq_false_iff_ne]; omega
  have q3 : ¬ (n : Int) = 2 := by omega
  clear hx
  have M := Lib.hid (must_no 12 (by decide))
  have p1 : decide (n < 2) = false := decide_eq_false hn
  have p1' : decide ((n : Int) < 2) = false := decide_eq_false (by omega)
  go_enter Tryz.func22, Tryz.ntmps22
  go_wp2_with fail
  refine (M.out _).mono ?_
  rintro e w2 ⟨rfl, rfl⟩
  exact ⟨rfl, rfl, Below.refl _ _⟩

set_option maxRecDepth 100000 in
set_option maxHeartbeats 2000000 in
theorem miss_Turn (b o n c : Nat) (x : ByteArray) (w : World) (hn : ¬ n < 2) (hc : n ≤ 140737488355328) (c0 : w.cell? ⟨b, o, none⟩ = some (.string x)) (hx : x = kTurn) (hm : ¬ n = 2) :
    Calls Tryz.prog 22 #[.slice (some ⟨b, o, none⟩) n c] w fun e w' => e = .panicked (thrown 12) ∧ Below w.heap.size w w' := by
  have q1 : x.toList = [116, 117, 114, 110] := by rw [hx]; decide +kernel
  have q2 : ((n : Int) == 2) = false := by rw [beq_eq_false_iff_ne]; omega
  have q3 : ¬ (n : Int) = 2 := by omega
  clear hx
  have M := Lib.hid (must_no 12 (by decide))
  have p1 : decide (n < 2) = false := decide_eq_false hn
  have p1' : decide ((n : Int) < 2) = false := decide_eq_false (by omega)
  go_enter Tryz.func22, Tryz.ntmps22
  go_wp2_with fail
  refine (M.out _).mono ?_
  rintro e w2 ⟨rfl, rfl⟩
  exact ⟨rfl, rfl, Below.refl _ _⟩

set_option maxRecDepth 100000 in
set_option maxHeartbeats 2000000 in
theorem miss_Far (b o n c : Nat) (x : ByteArray) (w : World) (hn : ¬ n < 2) (hc : n ≤ 140737488355328) (c0 : w.cell? ⟨b, o, none⟩ = some (.string x)) (hx : x = kFar) (hm : ¬ n = 3) :
    Calls Tryz.prog 22 #[.slice (some ⟨b, o, none⟩) n c] w fun e w' => e = .panicked (thrown 12) ∧ Below w.heap.size w w' := by
  have q1 : x.toList = [102, 97, 114] := by rw [hx]; decide +kernel
  have q2 : ((n : Int) == 3) = false := by rw [beq_eq_false_iff_ne]; omega
  have q3 : ¬ (n : Int) = 3 := by omega
  clear hx
  have M := Lib.hid (must_no 12 (by decide))
  have p1 : decide (n < 2) = false := decide_eq_false hn
  have p1' : decide ((n : Int) < 2) = false := decide_eq_false (by omega)
  go_enter Tryz.func22, Tryz.ntmps22
  go_wp2_with fail
  refine (M.out _).mono ?_
  rintro e w2 ⟨rfl, rfl⟩
  exact ⟨rfl, rfl, Below.refl _ _⟩

set_option maxRecDepth 100000 in
set_option maxHeartbeats 2000000 in
theorem miss_none (b o n c : Nat) (x : ByteArray) (w : World) (hn : ¬ n < 2) (hc : n ≤ 140737488355328) (c0 : w.cell? ⟨b, o, none⟩ = some (.string x)) (hPer : x ≠ kPer) (hFind : x ≠ kFind) (hSplit : x ≠ kSplit) (hTurn : x ≠ kTurn) (hFar : x ≠ kFar) :
    Calls Tryz.prog 22 #[.slice (some ⟨b, o, none⟩) n c] w fun e w' => e = .panicked (thrown 12) ∧ Below w.heap.size w w' := by
  have qPer : ¬ x.toList = [112, 101, 114, 105, 111, 100, 115] := fun h => hPer (by rw [ByteArray.toList_eq] at h; exact str_ext h)
  have qFind : ¬ x.toList = [102, 105, 110, 100] := fun h => hFind (by rw [ByteArray.toList_eq] at h; exact str_ext h)
  have qSplit : ¬ x.toList = [115, 112, 108, 105, 116] := fun h => hSplit (by rw [ByteArray.toList_eq] at h; exact str_ext h)
  have qTurn : ¬ x.toList = [116, 117, 114, 110] := fun h => hTurn (by rw [ByteArray.toList_eq] at h; exact str_ext h)
  have qFar : ¬ x.toList = [102, 97, 114] := fun h => hFar (by rw [ByteArray.toList_eq] at h; exact str_ext h)
  clear hPer hFind hSplit hTurn hFar
  have M := Lib.hid (must_no 12 (by decide))
  have p1 : decide (n < 2) = false := decide_eq_false hn
  have p1' : decide ((n : Int) < 2) = false := decide_eq_false (by omega)
  go_enter Tryz.func22, Tryz.ntmps22
  go_wp2_with fail
  refine (M.out _).mono ?_
  rintro e w2 ⟨rfl, rfl⟩
  exact ⟨rfl, rfl, Below.refl _ _⟩

theorem asked_any (A : Option Addr) (n c B : Nat) (l : List ByteArray) (hl : l.length = n) (hn : n ≤ 140737488355328) (w : World) (r : Reads w B A n 1 (l.flatMap cStr)) (hB : B ≤ w.heap.size) (ht : Tab w) :
    Calls Tryz.prog 22 #[.slice A n c] w fun e w' => e = askEnd (askD l) ∧ Below w.heap.size w w' := by
  unfold askD
  rw [hl]
  by_cases h2 : n < 2
  · rw [if_pos h2]
    exact ask_few A n c w h2
  rw [if_neg h2]
  obtain ⟨b, o, rfl, hbB, _⟩ := r.2 (by omega)
  obtain ⟨_, hc⟩ := reads_cellsJ r hl (by omega)
  have hg : ∀ j, j < n → w.cell? ⟨b, o + j, none⟩ = some (.string (l.getD j ⟨#[]⟩)) := fun j hj => hc j _ (by rw [List.getD_eq_getElem?_getD, List.getElem?_eq_getElem (by omega)]; rfl)
  have c0 := hg 0 (by omega)
  have c1 := hg 1 (by omega)
  have c2 := hg 2
  rw [Nat.add_zero] at c0
  clear hg hc r
  generalize l.getD 0 ⟨#[]⟩ = x at *
  generalize l.getD 1 ⟨#[]⟩ = y at *
  generalize l.getD 2 ⟨#[]⟩ = z at *
  have nt : ∀ k m : Nat, ∀ s, ¬ (x = s ∧ n = k) → x = s → n ≠ k := fun k m s h e hh => h ⟨e, hh⟩
  by_cases g1 : x = kPer ∧ n = 2
  · rw [if_pos g1]; obtain ⟨hx, rfl⟩ := g1; exact ask_per b o c x y w ht hx c0 c1
  rw [if_neg g1]
  by_cases g2 : x = kFind ∧ n = 3
  · rw [if_pos g2]; obtain ⟨hx, rfl⟩ := g2; exact ask_find b o c x y z w ht (by omega) hx c0 c1 (c2 (by decide))
  rw [if_neg g2]
  by_cases g3 : x = kSplit ∧ n = 2
  · rw [if_pos g3]; obtain ⟨hx, rfl⟩ := g3; exact ask_split b o c x y w ht hx c0 c1
  rw [if_neg g3]
  by_cases g4 : x = kTurn ∧ n = 2
  · rw [if_pos g4]; obtain ⟨hx, rfl⟩ := g4; exact ask_turn b o c x y w ht hx c0 c1
  rw [if_neg g4]
  by_cases g5 : x = kFar ∧ n = 3
  · rw [if_pos g5]; obtain ⟨hx, rfl⟩ := g5; exact ask_far b o c x y z w ht (by omega) hx c0 c1 (c2 (by decide))
  rw [if_neg g5]
  by_cases k1 : x = kPer
  · exact miss_Per b o n c x w h2 hn c0 k1 fun h => g1 ⟨k1, h⟩
  by_cases k2 : x = kFind
  · exact miss_Find b o n c x w h2 hn c0 k2 fun h => g2 ⟨k2, h⟩
  by_cases k3 : x = kSplit
  · exact miss_Split b o n c x w h2 hn c0 k3 fun h => g3 ⟨k3, h⟩
  by_cases k4 : x = kTurn
  · exact miss_Turn b o n c x w h2 hn c0 k4 fun h => g4 ⟨k4, h⟩
  by_cases k5 : x = kFar
  · exact miss_Far b o n c x w h2 hn c0 k5 fun h => g5 ⟨k5, h⟩
  exact miss_none b o n c x w h2 hn c0 k1 k2 k3 k4 k5
end Go.Proofs.YtaogegpfapfchaaGreatDoor

