/- LyndonDuval's walk: the next Lyndon word is one, is greater, and no other one lies between. -/
import Derived.Test.YtppbjomobbaeaaaNextWalk
import Derived.OpenShut
namespace Go.Proofs.Ytppbjomobbaeaaa
open Go.RowKit Go.ChangeShapes Go.WideShapes
set_option linter.unusedVariables false

set_option maxHeartbeats 400000 in
theorem above_any (g : Nat) (x last : UInt8) (w : World) (hc : w.cell? ⟨g, 0, none⟩ = some (.int .u8 (last.toNat : Int))) :
    Calls Try.prog 23 #[.int .u8 (x.toNat : Int), .pointer (some ⟨g, 0, none⟩)] w fun e w' => e = .returned (.bool (decide (last.toNat < x.toNat))) ∧ w = w' := by
  go_enter Try.func23, Try.ntmps23
  go_wp2
  go_ret
  exact ⟨by simp, rfl⟩

/-- Where the first byte above stands, or -1. -/
def firstAbove (last : UInt8) : List UInt8 → Nat → Int
  | [], _ => -1
  | x :: l, k => if last.toNat < x.toNat then (k : Int) else firstAbove last l (k + 1)
theorem firstAbove_neg (last : UInt8) : ∀ (l : List UInt8) (k : Nat), decide (0 ≤ firstAbove last l k) = l.any (fun x => decide (last.toNat < x.toNat))
  | [], k => by simp [firstAbove]
  | x :: l, k => by
    unfold firstAbove
    by_cases h : last.toNat < x.toNat
    · rw [if_pos h]; simp [h]
    · rw [if_neg h, firstAbove_neg last l (k + 1)]; simp [h]

set_option maxHeartbeats 400000 in
theorem indexAbove_any (g gb n c : Nat) (last : UInt8) (l : List UInt8) (hl : l.length = n) (hn : n ≤ 1000) (w : World) (hat : BytesAt w gb l) (hc : w.cell? ⟨g, 0, none⟩ = some (.int .u8 (last.toNat : Int))) :
    Calls Try.prog 50 #[.slice (some ⟨gb, 0, none⟩) n c, .func (Fn.func 23) #[] #[.pointer (some ⟨g, 0, none⟩)]] w
      fun e w' => e = .returned (.int .i64 (firstAbove last l 0)) ∧ w = w' := by
  have HC := Lib.hid (fun x => above_any g x last w hc)
  have Hat := Lib.hid hat
  have Hl := Lib.hid hl
  clear hat hc hl
  go_enter Try.func50, Try.ntmps50
  go_wp2
  go_loop [5, 8] (fun _ i => ∃ k : Nat, k ≤ n ∧ i = .int .i64 k ∧ Hid (firstAbove last l 0 = firstAbove last (l.drop k) k)) (fun _ i => n - (intOf i).toNat)
  case atStart => exact ⟨0, Nat.zero_le _, rfl, Lib.hid (by simp)⟩
  case round =>
    obtain ⟨k, hk, rfl, Hf⟩ := hrel
    by_cases hlt : k < n
    · have hck := (Hat.out.2 k (by rw [Hl.out]; exact hlt)).1
      have hd : l.drop k = l.getD k 0 :: l.drop (k + 1) := drop_getD l k 0 (by rw [Hl.out]; exact hlt)
      have Hd := Lib.hid hd
      clear hd
      have hv := HC.out (l.getD k 0)
      generalize l.getD k 0 = y at *
      have Hv := Lib.hid hv
      clear hv
      by_cases hab : last.toNat < y.toNat
      · have q1 : decide (last.toNat < y.toNat) = true := decide_eq_true hab
        go_wp2_with fail
        refine Hv.out.mono ?_
        rintro e w1 ⟨rfl, rfl⟩
        go_wp2
        go_ret
        exact ⟨by rw [Hf.out, Hd.out, firstAbove, if_pos hab]; rfl, rfl⟩
      · have q1 : decide (last.toNat < y.toNat) = false := decide_eq_false hab
        go_wp2_with fail
        refine Hv.out.mono ?_
        rintro e w1 ⟨rfl, rfl⟩
        go_wp2
        go_round
        case rel => exact ⟨k + 1, by omega, by go_num, Lib.hid (by rw [Hf.out, Hd.out, firstAbove, if_neg hab])⟩
        case measure => simp [intOf]; omega
    · obtain rfl : k = n := by omega
      go_wp2
      go_ret
      exact ⟨by rw [Hf.out, List.drop_of_length_le (by rw [Hl.out]; exact Nat.le_refl _)]; rfl, rfl⟩

set_option maxHeartbeats 400000 in
theorem containsAbove_any (g gb n c : Nat) (last : UInt8) (l : List UInt8) (hl : l.length = n) (hn : n ≤ 1000) (w : World) (hat : BytesAt w gb l) (hc : w.cell? ⟨g, 0, none⟩ = some (.int .u8 (last.toNat : Int))) :
    Calls Try.prog 22 #[.slice (some ⟨gb, 0, none⟩) n c, .func (Fn.func 23) #[] #[.pointer (some ⟨g, 0, none⟩)]] w
      fun e w' => e = .returned (.bool (l.any (fun x => decide (last.toNat < x.toNat)))) ∧ w = w' := by
  have hr := firstAbove_neg last l 0
  have Hr := Lib.hid hr
  clear hr
  have H1 := Lib.hid (indexAbove_any g gb n c last l hl hn w hat hc)
  clear hc hat
  go_enter Try.func22, Try.ntmps22
  go_wp2_with fail
  refine H1.out.mono ?_
  rintro e w1 ⟨rfl, rfl⟩
  generalize firstAbove last l 0 = v at *
  go_wp2
  go_ret
  exact ⟨congrArg (fun b => Ending.returned (.bool b)) Hr.out, rfl⟩

theorem lyn_ab : Lyn [97, 98] := lyn_join (lyn_one 97) (lyn_one 98) (by decide)
theorem next_abb (w w' : World) (e : Ending) (h : ToldNext (ByteArray.mk #[97, 98]).data.toList 3 98 w e w') : e = .returned (.tuple #[.string ⟨#[97, 98, 98]⟩, .int .i64 0]) ∧ Below w.heap.size w w' := by
  refine ⟨?_, h.1⟩
  rcases h.2 with ⟨E, _, _, _, hb⟩ | ⟨N, hN, _, _, _, _, h⟩
  · exact absurd ⟨by decide, by decide, by decide, lyn_ab, by decide⟩ hb
  · obtain rfl : N = 3 := by omega
    rcases h with ⟨_, h⟩ | ⟨p, hp, rfl⟩
    · have := h 0 (by omega)
      exact absurd this (by decide)
    · have h1 := hp.fits
      have h2 := hp.can
      have h3 := hp.per
      have h4 := hp.rest
      rcases p with _ | ⟨a, _ | ⟨b, _ | ⟨c, p⟩⟩⟩
      · exact absurd (h4 2 (by simp) (by omega)) (by decide)
      · have h2 : (98 : UInt8) < 98 := h2
        exact absurd h2 (by decide)
      · have ha := h3 0 (by simp)
        have hb := h3 1 (by simp)
        obtain rfl : a = 97 := ha
        obtain rfl : b = 98 := hb
        rfl
      · simp only [List.length_cons] at h1; omega

set_option maxRecDepth 100000 in
set_option maxHeartbeats 2000000 in
theorem lyndonDuval_core (s : ByteArray) (n : Int) (last : UInt8) (v : ByteArray) (hs0 : s.size ≤ 140737488351232) (hv0 : v.size ≤ 140737488351232) (hn : -9223372036854775808 ≤ n ∧ n ≤ 9223372036854775807) (w : World) :
    Calls Try.prog 5 #[.string s, .int .i64 n, .int .u8 (last.toNat : Int), .string v] w fun e w' => e = .returned (.bool true) ∧ Below w.heap.size w w' := by
  have c1 : ∀ w, Calls Try.prog 21 #[.string ⟨#[97, 98]⟩, .int .i64 3, .int .u8 98] w fun e w' => e = .returned (.tuple #[.string ⟨#[97, 98, 98]⟩, .int .i64 0]) ∧ Below w.heap.size w w' := fun w =>
    (next_any ⟨#[97, 98]⟩ (by decide) 3 (by decide) 98 w).mono fun e w' h => next_abb w w' e h
  have C1 := Lib.hid c1
  have C2 := Lib.hid (next_any s hs0 n hn last)
  clear c1
  go_enter Try.func5, Try.ntmps5
  go_wp2_with fail
  refine (C1.out _).mono ?_
  rintro e w1 ⟨rfl, hb1⟩
  have hbox1 : w1.cell? ⟨w.heap.size, 0, none⟩ = some (.int .u8 (last.toNat : Int)) := by
    rw [hb1.cell (by simp), World.cell?_alloc_mark]; rfl
  have hlt1 : w.heap.size < w1.heap.size := by have := hb1.size; simp at this; omega
  have hbw1 : Below w.heap.size w w1 := ((Below.refl _ _).alloc (Nat.le_refl _) _).trans (hb1.mono (by simp))
  clear hb1
  go_wp2_with fail
  refine (C2.out _).mono ?_
  rintro e w2 ⟨hb2, h2⟩
  have hbox2 : w2.cell? ⟨w.heap.size, 0, none⟩ = some (.int .u8 (last.toNat : Int)) := by rw [hb2.cell hlt1]; exact hbox1
  have hlt2 : w.heap.size < w2.heap.size := Nat.lt_of_lt_of_le hlt1 hb2.size
  have hbw2 := chain hb2 hbw1
  clear hb2 hbw1 hbox1 hlt1 C1 C2
  rcases h2 with ⟨E, hE0, hE4, rfl, _⟩ | ⟨N, rfl, hN, hlyn, hlN, hall, h2⟩
  · have q1 : (E != 0) = true := by simpa using hE0
    have q2 : (E != 4) = true := by simpa using hE4
    go_wp2
    go_ret
    exact ⟨rfl, hbw2⟩
  -- what is asked of w
  have hcl : ∀ h : v.size ≤ 200, ∀ w, Calls Try.prog 16 #[.string v] w (ToldIs v.data.toList w) := fun h => is_ok v h
  have hcn : ∀ h : 200 < v.size, ∀ w, Calls Try.prog 16 #[.string v] w fun e w' => e = .returned (.tuple #[.bool false, .int .i64 2]) ∧ w = w' := fun h => is_no v h
  have Hcl := Lib.hid hcl
  have Hcn := Lib.hid hcn
  have Hlyn := Lib.hid hlyn
  have Hall := Lib.hid hall
  clear hcl hcn hlyn hall
  rcases h2 with ⟨rfl, hnone⟩ | ⟨p, hp, rfl⟩
  · have hno : v.size ≤ 200 → Lyn v.data.toList → v.size ≤ N → llt s.data.toList v.data.toList = true → v.data.toList.any (fun x => decide (last.toNat < x.toNat)) = true := fun _ h2 h3 h4 => by
      refine Classical.byContradiction fun hx => ?_
      refine next_none Hlyn.out hnone h2 h4 h3 fun y hy => ?_
      have : ¬ last.toNat < y.toNat := fun hh => hx (List.any_eq_true.2 ⟨y, hy, decide_eq_true hh⟩)
      rw [UInt8.le_iff_toNat_le]; omega
    have Hno := Lib.hid hno
    clear hno hnone
    by_cases hv2 : v.size ≤ 200
    case neg =>
      go_wp2_with fail
      refine (Hcn.out (by omega) _).mono ?_
      rintro e w3 ⟨rfl, rfl⟩
      go_wp2
      go_ret
      exact ⟨rfl, hbw2⟩
    go_wp2_with fail
    refine (Hcl.out hv2 _).mono ?_
    rintro e w3 ⟨b, hb, rfl, hb3⟩
    have hbox3 : w3.cell? ⟨w.heap.size, 0, none⟩ = some (.int .u8 (last.toNat : Int)) := by rw [hb3.cell hlt2]; exact hbox2
    have hlt3 : w.heap.size < w3.heap.size := Nat.lt_of_lt_of_le hlt2 hb3.size
    have hbw3 := chain hb3 hbw2
    clear hb3 hbw2 hbox2 hlt2
    by_cases hbt : b = true
    case neg =>
      obtain rfl : b = false := by simpa using hbt
      clear hb
      go_wp2
      go_ret
      exact ⟨rfl, hbw3⟩
    subst hbt
    have hlv := hb.1 rfl
    by_cases hvN : v.size ≤ N
    case neg =>
      have q1 : decide ((v.size : Int) ≤ (N : Int)) = false := decide_eq_false (by omega)
      have q1n : decide (v.size ≤ N) = false := decide_eq_false (by omega)
      clear hb hlv
      go_wp2
      go_ret
      exact ⟨rfl, hbw3⟩
    have q1 : decide ((v.size : Int) ≤ (N : Int)) = true := decide_eq_true (by omega)
    have q1n : decide (v.size ≤ N) = true := decide_eq_true (by omega)
    by_cases hlt : llt s.data.toList v.data.toList = true
    case neg =>
      have q2 : (Op.bytesLess v.toList s.toList || v.toList == s.toList) = true := leq_is (by unfold lle; simpa using hlt)
      clear hb hlv
      go_wp2
      go_ret
      exact ⟨rfl, hbw3⟩
    have q2 : (Op.bytesLess v.toList s.toList || v.toList == s.toList) = false := leq_not hlt
    have hany := Hno.out hv2 hlv hvN hlt
    have Hany := Lib.hid hany
    clear hb hlv hlt hany Hno
    have hcv := fun w s => run_bytes_of_string (P := Try.prog) w 9 37 5 s Try.underlying9 Try.underlying37 Try.underlying5
    go_wp2_with fail
    generalize hW : World.drew _ = W
    obtain ⟨hb0, hz0, hat⟩ := bytes_at v _ (grownCap_ge _ _ _ _) _ _ _ hW
    clear hW
    generalize grownCap _ _ _ _ = cap
    have hbox4 : W.cell? ⟨w.heap.size, 0, none⟩ = some (.int .u8 (last.toNat : Int)) := by rw [hb0.cell hlt3]; exact hbox3
    refine (containsAbove_any w.heap.size _ v.size cap last v.data.toList rfl (by omega) W hat hbox4).mono ?_
    rintro e w4 ⟨rfl, rfl⟩
    rw [Hany.out]
    have hbw4 := chain hb0 hbw3
    go_wp2
    go_ret
    exact ⟨rfl, hbw4⟩
  · have hyes : Lyn (p ++ [s.data.toList.getD (p.length % s.data.toList.length) 0 + 1]) := (hp.lyn Hlyn.out).1
    have hgt := (hp.lyn Hlyn.out).2
    have hlen : (p ++ [s.data.toList.getD (p.length % s.data.toList.length) 0 + 1]).length ≤ N := by rw [List.length_append]; have := hp.fits; simp; omega
    have hleast : v.size ≤ 200 → Lyn v.data.toList → v.size ≤ N → llt s.data.toList v.data.toList = true → v.data.toList.any (fun x => decide (last.toNat < x.toNat)) = false → lle (p ++ [s.data.toList.getD (p.length % s.data.toList.length) 0 + 1]) v.data.toList := fun _ h2 h3 h4 h5 => by
      refine hp.least Hlyn.out h2 h4 h3 fun y hy => ?_
      have : ¬ last.toNat < y.toNat := fun hh => by
        have := (List.any_eq_true (p := fun x : UInt8 => decide (last.toNat < x.toNat))).2 ⟨y, hy, decide_eq_true hh⟩
        rw [h5] at this; cases this
      rw [UInt8.le_iff_toNat_le]; omega
    generalize hT : p ++ [s.data.toList.getD (p.length % s.data.toList.length) 0 + 1] = T at *
    have hone := is_ok (tx T) (by rw [tx_size]; omega)
    rw [tx_list] at hone
    have q9 : (Op.bytesLess (tx T).toList s.toList || (tx T).toList == s.toList) = false := leq_not hgt
    have hsz : (tx T).size ≤ N := hlen
    have hleast' : v.size ≤ 200 → Lyn v.data.toList → v.size ≤ N → llt s.data.toList v.data.toList = true → v.data.toList.any (fun x => decide (last.toNat < x.toNat)) = false → Op.bytesLess v.toList (tx T).toList = false := fun a b c d e => less_is (hleast a b c d e)
    generalize tx T = t at *
    have Hone := Lib.hid hone
    have Hyes := Lib.hid hyes
    have Hleast := Lib.hid hleast'
    have q8 : decide ((t.size : Int) ≤ (N : Int)) = true := decide_eq_true (by omega)
    have q8n : decide (t.size ≤ N) = true := decide_eq_true (by omega)
    clear hone hyes hleast hleast' hT hp hgt hlen
    by_cases hv2 : v.size ≤ 200
    case neg =>
      go_wp2_with fail
      refine (Hcn.out (by omega) _).mono ?_
      rintro e w3 ⟨rfl, rfl⟩
      go_wp2_with fail
      refine (Hone.out _).mono ?_
      rintro e w5 ⟨b5, hb5, rfl, hb5'⟩
      obtain rfl : b5 = true := hb5.2 Hyes.out
      have hbw5 := chain hb5' hbw2
      clear hb5 hb5'
      go_wp2
      go_ret
      exact ⟨rfl, hbw5⟩
    go_wp2_with fail
    refine (Hcl.out hv2 _).mono ?_
    rintro e w3 ⟨b, hb, rfl, hb3⟩
    have hbox3 : w3.cell? ⟨w.heap.size, 0, none⟩ = some (.int .u8 (last.toNat : Int)) := by rw [hb3.cell hlt2]; exact hbox2
    have hlt3 : w.heap.size < w3.heap.size := Nat.lt_of_lt_of_le hlt2 hb3.size
    have hbw3 := chain hb3 hbw2
    clear hb3 hbw2 hbox2 hlt2
    by_cases hbt : b = true
    case neg =>
      obtain rfl : b = false := by simpa using hbt
      clear hb
      go_wp2_with fail
      refine (Hone.out _).mono ?_
      rintro e w5 ⟨b5, hb5, rfl, hb5'⟩
      obtain rfl : b5 = true := hb5.2 Hyes.out
      have hbw5 := chain hb5' hbw3
      clear hb5 hb5'
      go_wp2
      go_ret
      exact ⟨rfl, hbw5⟩
    subst hbt
    have hlv := hb.1 rfl
    by_cases hvN : v.size ≤ N
    case neg =>
      have q1 : decide ((v.size : Int) ≤ (N : Int)) = false := decide_eq_false (by omega)
      have q1n : decide (v.size ≤ N) = false := decide_eq_false (by omega)
      clear hb hlv
      go_wp2_with fail
      refine (Hone.out _).mono ?_
      rintro e w5 ⟨b5, hb5, rfl, hb5'⟩
      obtain rfl : b5 = true := hb5.2 Hyes.out
      have hbw5 := chain hb5' hbw3
      clear hb5 hb5'
      go_wp2
      go_ret
      exact ⟨rfl, hbw5⟩
    have q1 : decide ((v.size : Int) ≤ (N : Int)) = true := decide_eq_true (by omega)
    have q1n : decide (v.size ≤ N) = true := decide_eq_true (by omega)
    by_cases hlt : llt s.data.toList v.data.toList = true
    case neg =>
      have q2 : (Op.bytesLess v.toList s.toList || v.toList == s.toList) = true := leq_is (by unfold lle; simpa using hlt)
      clear hb hlv
      go_wp2_with fail
      refine (Hone.out _).mono ?_
      rintro e w5 ⟨b5, hb5, rfl, hb5'⟩
      obtain rfl : b5 = true := hb5.2 Hyes.out
      have hbw5 := chain hb5' hbw3
      clear hb5 hb5'
      go_wp2
      go_ret
      exact ⟨rfl, hbw5⟩
    have q2 : (Op.bytesLess v.toList s.toList || v.toList == s.toList) = false := leq_not hlt
    have hle := Hleast.out hv2 hlv hvN hlt
    have Hle := Lib.hid hle
    clear hb hlv hlt hle Hleast
    have hcv := fun w s => run_bytes_of_string (P := Try.prog) w 9 37 5 s Try.underlying9 Try.underlying37 Try.underlying5
    go_wp2_with fail
    generalize hW : World.drew _ = W
    obtain ⟨hb0, hz0, hat⟩ := bytes_at v _ (grownCap_ge _ _ _ _) _ _ _ hW
    clear hW
    generalize grownCap _ _ _ _ = cap
    have hbox4 : W.cell? ⟨w.heap.size, 0, none⟩ = some (.int .u8 (last.toNat : Int)) := by rw [hb0.cell hlt3]; exact hbox3
    refine (containsAbove_any w.heap.size _ v.size cap last v.data.toList rfl (by omega) W hat hbox4).mono ?_
    rintro e w4 ⟨rfl, rfl⟩
    have hbw4 := chain hb0 hbw3
    cases hany : v.data.toList.any (fun x => decide (last.toNat < x.toNat))
    · have q7 := Hle.out hany
      clear hat hb0 Hle
      go_wp2_with fail
      refine (Hone.out _).mono ?_
      rintro e w5 ⟨b5, hb5, rfl, hb5'⟩
      obtain rfl : b5 = true := hb5.2 Hyes.out
      have hbw5 := chain hb5' hbw4
      clear hb5 hb5'
      go_wp2
      go_ret
      exact ⟨rfl, hbw5⟩
    · clear hat hb0 Hle
      go_wp2_with fail
      refine (Hone.out _).mono ?_
      rintro e w5 ⟨b5, hb5, rfl, hb5'⟩
      obtain rfl : b5 = true := hb5.2 Hyes.out
      have hbw5 := chain hb5' hbw4
      clear hb5 hb5'
      go_wp2
      go_ret
      exact ⟨rfl, hbw5⟩

theorem lyndonDuval_walk (s : ByteArray) (n x : Int) (v : ByteArray) (hs0 : s.size ≤ 140737488351232) (hn : (Lit.int .i64 n).wf = true) (hx : (Lit.int .u8 x).wf = true) (hv0 : v.size ≤ 140737488351232) (w : World) :
    Calls Try.prog 5 #[.string s, .int .i64 n, .int .u8 x, .string v] w fun e w' => e = .returned (.bool true) ∧ Below w.heap.size w w' := by
  obtain ⟨y, rfl⟩ : ∃ y : UInt8, x = (y.toNat : Int) := by
    obtain ⟨h1, h2⟩ := bounds_u8 hx
    exact ⟨UInt8.ofNat x.toNat, by rw [UInt8.toNat_ofNat']; omega⟩
  have hb := bounds_i64 hn
  exact lyndonDuval_core s n y v hs0 hv0 (by omega) w

end Go.Proofs.Ytppbjomobbaeaaa
