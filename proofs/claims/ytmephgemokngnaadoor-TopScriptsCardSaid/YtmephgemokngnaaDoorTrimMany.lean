/- The walk of trim.Many. -/
import Derived.Test.YtmephgemokngnaaDoorTrimScript
namespace Go.Proofs.YtmephgemokngnaaDoor
open Go.RowKit
set_option linter.unusedVariables false

def manyL (n : Int) (L : List (List Ed)) : List Ed := scr 0 [] ((cellsE (cells0 n.toNat) L).2 ++ [(n, (0 : UInt8))])
def manyI (n : Int) (L : List (List Ed)) : Int := if n < 0 ∨ 200 < n then 1 else if 30 < L.length then 2 else if (cellsE (cells0 n.toNat) L).1 ≠ 0 then (cellsE (cells0 n.toNat) L).1 else checkE n (manyL n L)
/-- What Many tells. -/
def ToldMany (n : Int) (L : List (List Ed)) (w : World) (e : Ending) (w' : World) : Prop :=
  Below w.heap.size w w' ∧ ((manyI n L ≠ 0 ∧ e = .returned (.tuple #[.slice none 0 0, .int .i64 (manyI n L)])) ∨
    (manyI n L = 0 ∧ ∃ A c, e = .returned (.tuple #[.slice A (manyL n L).length c, .int .i64 0]) ∧ Reads w' w'.heap.size A (manyL n L).length 3 ((manyL n L).flatMap cEdit)))
def ToldManyO (n : Int) (L : List (List Ed)) (w : World) (e : Ending) (w' : World) : Prop :=
  Below w.heap.size w w' ∧ ((manyI n L ≠ 0 ∧ e = .returned (.tuple #[.slice none 0 0, .int .i64 (manyI n L)])) ∨
    (manyI n L = 0 ∧ ∃ A c, e = .returned (.tuple #[.slice A (manyL n L).length c, .int .i64 0]) ∧ w'.ownsRow w.heap.size 37 3 (.slice A (manyL n L).length c) (manyL n L).length ((manyL n L).flatMap cEdit)))
theorem ToldManyO.weak {n : Int} {L : List (List Ed)} {w : World} {e : Ending} {w' : World} (h : ToldManyO n L w e w') : ToldMany n L w e w' := ⟨h.1, h.2.imp id (fun ⟨h1, A, c, h2, h3⟩ => ⟨h1, A, c, h2, Reads.of_own h3⟩)⟩
/-- What is known of a script among many. -/
def RowOk (w : World) (B : Nat) (x : EdRow) : Prop := x.2.2.2.length = x.2.1 ∧ Reads w B x.1 x.2.1 3 (x.2.2.2.flatMap cEdit) ∧ OkL x.2.2.2 ∧ x.2.1 ≤ 4398046511104
abbrev scrs (l : List EdRow) : List (List Ed) := l.map (fun x => x.2.2.2)

theorem applyC_length (l : List Cell) {es : List Ed} (h : OkE l.length true 0 es) : ((applyC l 0 es).length : Int) = l.length + gain es := by
  have h1 := dec_apply [] l es 0
  have h2 : OkE (l.map (dec [])).length true (0 : Nat) es := by rw [List.length_map]; exact h
  have h3 := app_length (e := 0) h2 (fun _ => rfl) (Nat.zero_le _)
  have h4 : (applyC l 0 es).length = (app (l.map (dec [])) 0 es).length := by rw [← h1, List.length_map]
  rw [List.length_map] at h3
  omega
theorem mem_applyC (l : List Cell) : ∀ (es : List Ed) (a : Nat) (x : Cell), x ∈ applyC l a es → x ∈ l ∨ x.1 = -1
  | [], a, x, h => .inl (List.mem_of_mem_drop h)
  | e :: es, a, x, h => by
    rw [applyC] at h
    rcases List.mem_append.1 h with h | h
    · rcases List.mem_append.1 h with h | h
      · exact .inl (List.mem_of_mem_take (List.mem_of_mem_drop h))
      · obtain ⟨b, _, rfl⟩ := List.mem_map.1 h
        exact .inr rfl
    · exact mem_applyC l es _ x h
theorem own_mono {w : World} {B B' size n : Nat} {e : TypeId} {v : Value} {xs : List Value} (h : w.ownsRow B e size v n xs) (hb : B' ≤ B) : w.ownsRow B' e size v n xs := by
  refine ⟨h.1, ?_⟩
  rcases h.2 with h0 | ⟨g, cap, cur, hv, hg, rest⟩
  · exact .inl h0
  · exact .inr ⟨g, cap, cur, hv, Nat.le_trans hb hg, rest⟩
theorem own_cap2 {w : World} {B size n c : Nat} {e : TypeId} {A : Option Addr} {xs : List Value} (h : w.ownsRow B e size (.slice A n c) n xs) : n ≤ c := by
  rcases h.2 with ⟨h1, h0⟩ | ⟨g, cap, cur, h1, _, _, h2, _⟩
  · omega
  · injection h1 with _ _ h3
    omega
theorem cells0_succ (k : Nat) : cells0 (k + 1) = cells0 k ++ [((k : Int), (0 : UInt8))] := by
  unfold cells0
  rw [List.range_succ, List.map_append]
  rfl

set_option maxRecDepth 100000 in
set_option maxHeartbeats 4000000 in
theorem many_bad (n : Int) (hn : -9223372036854775808 ≤ n ∧ n ≤ 9223372036854775807) (A : Option Addr) (len cap : Nat) (L : List (List Ed)) (hl : L.length = len) (hlen : len ≤ 1000000000000000) (h : n < 0 ∨ 200 < n ∨ 30 < len) (w : World) :
    Calls Tryd.prog 22 #[.int .i64 n, .slice A len cap] w (ToldManyO n L w) := by
  unfold ToldManyO
  by_cases h1 : n < 0
  · have hI : manyI n L = 1 := by unfold manyI; rw [if_pos (.inl h1)]
    have q1 : decide (n < 0) = true := decide_eq_true h1
    rw [hI]
    clear hI h hl
    go_enter Tryd.func22, Tryd.ntmps22
    go_wp2
    go_ret2
    exact ⟨Below.refl _ _, by simp⟩
  · have q1 : decide (n < 0) = false := decide_eq_false h1
    by_cases h2 : 200 < n
    · have hI : manyI n L = 1 := by unfold manyI; rw [if_pos (.inr h2)]
      have q2 : decide (200 < n) = true := decide_eq_true h2
      rw [hI]
      clear hI h hl
      go_enter Tryd.func22, Tryd.ntmps22
      go_wp2
      go_ret2
      exact ⟨Below.refl _ _, by simp⟩
    · have q2 : decide (200 < n) = false := decide_eq_false h2
      have h3 : 30 < len := by omega
      have hI : manyI n L = 2 := by unfold manyI; rw [if_neg (by omega), hl, if_pos h3]
      have q3 : decide ((30 : Int) < (len : Int)) = true := decide_eq_true (by omega)
      have q3' : decide (30 < len) = true := decide_eq_true h3
      rw [hI]
      clear hI h hl
      go_enter Tryd.func22, Tryd.ntmps22
      go_wp2
      go_ret2
      exact ⟨Below.refl _ _, by simp⟩

set_option maxRecDepth 100000 in
set_option maxHeartbeats 8000000 in
theorem many_ok (n : Nat) (hn : n ≤ 200) (A : Option Addr) (len cap B : Nat) (l : List EdRow) (hl : l.length = len) (hlen : len ≤ 30) (w : World) (rl : Reads w B A len 1 (l.flatMap cRow)) (hel : ∀ x ∈ l, RowOk w B x) (hB : B ≤ w.heap.size) :
    Calls Tryd.prog 22 #[.int .i64 (n : Int), .slice A len cap] w (ToldManyO (n : Int) (scrs l) w) := by
  have hI : manyI (n : Int) (scrs l) = if (cellsE (cells0 n) (scrs l)).1 ≠ 0 then (cellsE (cells0 n) (scrs l)).1 else checkE n (manyL n (scrs l)) := by
    unfold manyI
    rw [if_neg (by omega), if_neg (by rw [List.length_map, hl]; omega), Int.toNat_natCast]
  have hL : manyL (n : Int) (scrs l) = scr 0 [] ((cellsE (cells0 n) (scrs l)).2 ++ [((n : Int), (0 : UInt8))]) := by unfold manyL; rw [Int.toNat_natCast]
  have HI := Lib.hid hI
  have HL := Lib.hid hL
  have Hl := Lib.hid hl
  have Hel := Lib.hid hel
  have q1 : decide ((n : Int) < 0) = false := decide_eq_false (by omega)
  have q2 : decide ((200 : Int) < (n : Int)) = false := decide_eq_false (by omega)
  have q3 : decide ((30 : Int) < (len : Int)) = false := decide_eq_false (by omega)
  have q3' : decide (30 < len) = false := decide_eq_false (by omega)
  have q2' : decide (200 < n) = false := decide_eq_false (by omega)
  obtain ⟨BB, hBB⟩ : ∃ BB, BB = w.heap.size := ⟨_, rfl⟩
  unfold ToldManyO
  rw [← hBB]
  generalize manyI (n : Int) (scrs l) = I at *
  generalize manyL (n : Int) (scrs l) = M at *
  have hBB2 : BB ≤ w.heap.size := by omega
  have hBBB : B ≤ BB := by omega
  have hbdc := buildCell
  clear hI hL hl hel hBB hB
  go_enter Tryd.func22, Tryd.ntmps22
  go_wp2
  go_loopw [6, 7, 21] (fun ov _ kv wr => ∃ (k c3 : Nat) (A3 : Option Addr), k ≤ n ∧ kv = .int .i64 (k : Int) ∧ ov = .slice A3 k c3 ∧ wr.ownsRow BB 65 2 (.slice A3 k c3) k ((cells0 k).flatMap cCell) ∧ Below BB w wr) (fun _ _ kv _ => n - (intOf kv).toNat)
  case atStart => exact ⟨0, 0, none, Nat.zero_le _, rfl, rfl, World.ownsRow_nil _ _ _ _, Below.refl _ _⟩
  case round =>
    obtain ⟨k, c3, A3, hk, rfl, rfl, hown, hbr⟩ := hrel
    have hBBr : BB ≤ wr.heap.size := Nat.le_trans hBB2 hbr.size
    by_cases hlt : k < n
    · go_wp2_with (first | (at_builtin; go_must (refine wpList_append_new _ 63 (.tmp 24) (.tmp 27) rfl rfl BB 65 infoCell Tryd.underlying63 rfl (by decide) A3 k c3 _ rfl hown #[.int .i64 (k : Int), .int .u8 0] 1 rfl rfl (by simp [Value.oneCell']) (by unfold maxLen; omega) (by omega) hBBr ?_); intro A4 c4 w4 hown4 hb4 hg4))
      go_roundw
      case rel =>
        refine ⟨k + 1, c4, A4, by omega, by go_num, rfl, ?_, hbr.trans hb4⟩
        rw [cells0_succ, flat_snoc]; exact hown4
      case measure => simp only [intOf]; omega
    · have hkn : k = n := by omega
      obtain ⟨w2, hw2⟩ : ∃ w2, w2 = wr := ⟨_, rfl⟩
      rw [← hw2] at hown hbr hBBr ⊢
      have hc0 : ∀ x ∈ cells0 n, -1 ≤ x.1 ∧ x.1 ≤ 200 := fun x hx => by
        unfold cells0 at hx
        obtain ⟨j, hj, rfl⟩ := List.mem_map.1 hx
        have := List.mem_range.1 hj
        simp only; omega
      have Hc0 := Lib.hid hc0
      rw [hkn] at hown ⊢
      clear hw2 hlt hc0 hkn hk
      go_wp2
      go_loopw [6, 9, 10, 32] (fun ov _ _ kv wr => ∃ (k m c3 : Nat) (A3 : Option Addr) (C : List Cell), k ≤ len ∧ kv = .int .i64 (k : Int) ∧ ov = .slice A3 m c3 ∧ m ≤ 200 ∧ Hid (C.length = m) ∧ Hid (∀ x ∈ C, -1 ≤ x.1 ∧ x.1 ≤ 200) ∧ Hid (cellsE C (scrs (l.drop k)) = cellsE (cells0 n) (scrs l)) ∧
          wr.ownsRow BB 65 2 (.slice A3 m c3) m (C.flatMap cCell) ∧ Below BB w wr) (fun _ _ _ kv _ => len - (intOf kv).toNat)
      case atStart => exact ⟨0, n, c3, A3, cells0 n, Nat.zero_le _, rfl, rfl, hn, Lib.hid (by simp [cells0]), Hc0, Lib.hid rfl, hown, hbr⟩
      case round =>
        clear hown hbr hBBr
        obtain ⟨k, m, c3, A3, C, hk, rfl, rfl, hm, HC, HCb, HS, hown, hbr⟩ := hrel
        have hBBr : BB ≤ wr.heap.size := Nat.le_trans hBB2 hbr.size
        by_cases hlt : k < len
        · obtain ⟨bx, o, hA0, hbB, hc⟩ := (rl.below (hbr.mono hBBB)).2 (by omega)
          have c0 := hc (k * 1 + 0) (by rw [flat_length cRow 1 cRow_len, Hl.out]; omega)
          have dR : EdRow := (none, 0, 0, [])
          rw [flat_getD cRow 1 cRow_len dR l k _ (by rw [Hl.out]; omega) (by omega)] at c0
          simp only [cRow, List.getD_cons_zero, Nat.mul_one, Nat.add_zero] at c0
          have hmem : l.getD k dR ∈ l := by rw [getD_some _ _ _ (by rw [Hl.out]; omega)]; exact List.getElem_mem _
          obtain ⟨x1, x2, x3, x4⟩ := Hel.out _ hmem
          have hs := HS.out
          have e : scrs (l.drop k) = (l.getD k dR).2.2.2 :: scrs (l.drop (k + 1)) := by rw [drop_getD l k dR (by rw [Hl.out]; omega)]; rfl
          rw [e, cellsE] at hs
          clear e
          generalize l.getD k dR = x at *
          obtain ⟨X, xl, xc, xs⟩ := x
          simp only at c0 x1 x2 x3 x4 hs
          have hck := check_any m (by omega) X xl xc B xs x4 x1 x3 wr (x2.below (hbr.mono hBBB)) (Nat.le_trans hBBB hBBr)
          rw [HC.out] at hs
          have Hs := Lib.hid hs
          have Hx1 := Lib.hid x1
          have HCK := Lib.hid hck
          have hcap := own_cap2 hown
          clear hmem hc hs hck x1 x3 HS
          subst hA0
          by_cases hE : checkE (m : Int) xs = 0
          · have hs := Hs.out
            rw [if_neg (by simpa using hE)] at hs
            have Hs2 := Lib.hid hs
            have HE := Lib.hid hE
            rw [hE] at HCK
            clear hs hE Hs
            go_wp2_with fail
            refine HCK.out.mono ?_
            rintro e w3 ⟨rfl, hb3⟩
            have hb3' : Below BB w w3 := hbr.trans (hb3.mono hBBr)
            have hB3 : B ≤ w3.heap.size := Nat.le_trans hBBB (Nat.le_trans hBB2 hb3'.size)
            have hown3 := ownsRow_later hown hb3
            go_wp2_with fail
            refine (trimApply_ok A3 X m c3 xl xc w3.heap.size C xs HC.out Hx1.out hcap HE.out w3 (Reads.of_own hown3) ((x2.below (hb3'.mono hBBB)).more hB3) (Nat.le_refl _)).mono ?_
            rintro e w4 ⟨A4, m4, c4, rfl, hown4, hb4⟩
            have hb4' : Below BB w w4 := hb3'.trans (hb4.mono (Nat.le_trans hBB2 hb3'.size))
            have hown4' := own_mono hown4 (show BB ≤ w3.heap.size from Nat.le_trans hBB2 hb3'.size)
            obtain ⟨_, _, _, ok, g4⟩ := checkE_ok HE.out
            have hlen4 := applyC_length C (es := xs) (by rw [HC.out]; exact ok)
            have hm4 : m4 = (applyC C 0 xs).length := by
              have := hown4.1
              rw [flat_length cCell 2 cCell_len] at this
              omega
            rw [HC.out] at hlen4
            have hm4b : m4 ≤ 200 := by omega
            have Hm4 := Lib.hid hm4
            clear ok hlen4 hm4 hown hown3 hown4 hb3 hb4 hbr
            go_wp2
            go_roundw
            case rel =>
              refine ⟨k + 1, m4, c4, A4, applyC C 0 xs, by omega, by go_num, rfl, hm4b, Lib.hid Hm4.out.symm, Lib.hid fun z hz => ?_, Hs2, hown4', hb4'⟩
              rcases mem_applyC C xs 0 z hz with h | h
              · exact HCb.out z h
              · omega
            case measure => simp only [intOf]; omega
          · have hs := Hs.out
            rw [if_pos (by simpa using hE)] at hs
            have q5 : (checkE (m : Int) xs != 0) = true := by simpa using hE
            have HE := Lib.hid hE
            have Hs2 := Lib.hid hs
            generalize checkE (m : Int) xs = E at *
            clear hs hE Hs
            go_wp2_with fail
            refine HCK.out.mono ?_
            rintro e w3 ⟨rfl, hb3⟩
            have hb3' : Below BB w w3 := hbr.trans (hb3.mono hBBr)
            go_wp2
            go_ret2
            refine ⟨hb3', .inl ?_⟩
            rw [HI.out, ← Hs2.out, if_pos HE.out]
            exact ⟨HE.out, rfl⟩
        · have hs := HS.out
          have e : scrs (l.drop k) = [] := by rw [List.drop_of_length_le (by rw [Hl.out]; omega)]; rfl
          rw [e, cellsE] at hs
          clear e
          have hsc := script_ok n hn A3 m c3 BB C (by omega) HC.out HCb.out wr hown hBBr
          unfold ToldScript at hsc
          have Hsc := Lib.hid hsc
          have hI2 := HI.out
          have hL2 := HL.out
          rw [← hs, if_neg (by simp)] at hI2
          rw [← hs] at hL2
          have HI2 := Lib.hid hI2
          have HL2 := Lib.hid hL2
          clear hs hsc hI2 hL2 HS
          go_wp2_with fail
          refine Hsc.out.mono ?_
          rintro e w4 ⟨hb4, hcase⟩
          rw [← HL2.out, ← HI2.out] at hcase
          have hb5 : Below BB w w4 := hbr.trans hb4
          rcases hcase with ⟨h1, rfl⟩ | ⟨h1, A5, c5, rfl, hr5⟩
          · have H1 := Lib.hid h1
            clear h1
            go_wp2
            go_ret2
            exact ⟨hb5, .inl ⟨H1.out, rfl⟩⟩
          · have H1 := Lib.hid h1
            clear h1
            go_wp2
            go_ret2
            exact ⟨hb5, .inr ⟨H1.out, A5, c5, rfl, hr5⟩⟩
end Go.Proofs.YtmephgemokngnaaDoor
