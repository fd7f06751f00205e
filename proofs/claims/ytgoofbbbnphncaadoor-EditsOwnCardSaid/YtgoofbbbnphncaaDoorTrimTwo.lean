/- The walks of trim.Two, of 'trims' and of 'all'. -/
import Derived.Test.YtgoofbbbnphncaaDoorTrimMany
namespace Go.Proofs.YtgoofbbbnphncaaDoor
open Go.RowKit
set_option linter.unusedVariables false

theorem many_own (n : Int) (hn : -9223372036854775808 ≤ n ∧ n ≤ 9223372036854775807) (A : Option Addr) (len cap B : Nat) (l : List EdRow) (hl : l.length = len) (hlen : len ≤ 1000000000000000) (w : World) (rl : Reads w B A len 1 (l.flatMap cRow)) (hel : ∀ x ∈ l, RowOk w B x) (hB : B ≤ w.heap.size) :
    Calls Tryd.prog 67 #[.int .i64 n, .slice A len cap] w (ToldManyO n (scrs l) w) := by
  by_cases h : n < 0 ∨ 200 < n ∨ 30 < len
  · exact many_bad n hn A len cap (scrs l) (by rw [List.length_map, hl]) hlen h w
  · obtain ⟨k, rfl⟩ : ∃ k : Nat, n = k := ⟨n.toNat, by omega⟩
    exact many_ok k (by omega) A len cap B l hl (by omega) w rl hel hB

theorem many_any (n : Int) (hn : -9223372036854775808 ≤ n ∧ n ≤ 9223372036854775807) (A : Option Addr) (len cap B : Nat) (l : List EdRow) (hl : l.length = len) (hlen : len ≤ 1000000000000000) (w : World) (rl : Reads w B A len 1 (l.flatMap cRow)) (hel : ∀ x ∈ l, RowOk w B x) (hB : B ≤ w.heap.size) :
    Calls Tryd.prog 67 #[.int .i64 n, .slice A len cap] w (ToldMany n (scrs l) w) :=
  (many_own n hn A len cap B l hl hlen w rl hel hB).mono fun e w' h => h.weak

theorem two_own (n : Int) (hn : -9223372036854775808 ≤ n ∧ n ≤ 9223372036854775807) (A A' : Option Addr) (la lb ca cb B : Nat) (a b : List Ed) (w : World) (ha : RowOk w B (A, la, ca, a)) (hb : RowOk w B (A', lb, cb, b)) (hB : B ≤ w.heap.size) :
    Calls Tryd.prog 32 #[.int .i64 n, .slice A la ca, .slice A' lb cb] w (ToldManyO n [a, b] w) := by
  have hrow : ∀ x ∈ ([(A, la, ca, a), (A', lb, cb, b)] : List EdRow), RowOk (w.alloc (Obj.cells #[.slice A la ca, .slice A' lb cb] 23)) (w.alloc (Obj.cells #[.slice A la ca, .slice A' lb cb] 23)).heap.size x := by
    have hbb : Below w.heap.size w (w.alloc (Obj.cells #[.slice A la ca, .slice A' lb cb] 23)) := (Below.refl _ _).alloc (Nat.le_refl _) _
    intro x hx
    have hup : ∀ x : EdRow, RowOk w B x → RowOk (w.alloc (Obj.cells #[.slice A la ca, .slice A' lb cb] 23)) (w.alloc (Obj.cells #[.slice A la ca, .slice A' lb cb] 23)).heap.size x := fun x ⟨h1, h2, h3, h4⟩ => ⟨h1, (h2.below' hbb hB).more (Nat.le_trans hB hbb.size), h3, h4⟩
    simp only [List.mem_cons, List.not_mem_nil, or_false] at hx
    rcases hx with rfl | rfl
    · exact hup _ ha
    · exact hup _ hb
  have hm := many_own n hn (some ⟨w.heap.size, 0, none⟩) 2 2 _ [(A, la, ca, a), (A', lb, cb, b)] rfl (by decide) (w.alloc (Obj.cells #[.slice A la ca, .slice A' lb cb] 23)) (Reads.made w #[.slice A la ca, .slice A' lb cb] 23 2 1 rfl) hrow (Nat.le_refl _)
  have hm2 : Calls Tryd.prog 67 #[.int .i64 n, .slice (some ⟨w.heap.size, 0, none⟩) 2 2] (w.alloc (Obj.cells #[.slice A la ca, .slice A' lb cb] 23)) (ToldManyO n [a, b] w) := hm.mono fun e w' ⟨h1, h2⟩ => ⟨((Below.refl _ _).alloc (Nat.le_refl _) _).trans (h1.mono (by simp)), h2.imp id (fun ⟨h3, A, c, h4, h5⟩ => ⟨h3, A, c, h4, own_low h5 (by simp)⟩)⟩
  have HM := Lib.hid hm2
  unfold ToldManyO at HM
  unfold ToldManyO
  clear hm hm2 hrow ha hb
  generalize manyI n [a, b] = I at *
  generalize manyL n [a, b] = M at *
  go_enter Tryd.func32, Tryd.ntmps32
  go_wp2_with fail
  refine HM.out.mono ?_
  rintro e w' ⟨hb1, hcase⟩
  rcases hcase with ⟨h1, rfl⟩ | ⟨h1, A5, c5, rfl, hr5⟩
  · have H1 := Lib.hid h1
    clear h1
    go_wp2
    go_ret2
    exact ⟨hb1, .inl ⟨H1.out, rfl⟩⟩
  · have H1 := Lib.hid h1
    clear h1
    go_wp2
    go_ret2
    exact ⟨hb1, .inr ⟨H1.out, A5, c5, rfl, hr5⟩⟩
theorem two_any (n : Int) (hn : -9223372036854775808 ≤ n ∧ n ≤ 9223372036854775807) (A A' : Option Addr) (la lb ca cb B : Nat) (a b : List Ed) (w : World) (ha : RowOk w B (A, la, ca, a)) (hb : RowOk w B (A', lb, cb, b)) (hB : B ≤ w.heap.size) :
    Calls Tryd.prog 32 #[.int .i64 n, .slice A la ca, .slice A' lb cb] w (ToldMany n [a, b] w) :=
  (two_own n hn A A' la lb ca cb B a b w ha hb hB).mono fun e w' h => h.weak

theorem many_good {n : Int} {L : List (List Ed)} {w : World} {e : Ending} {w' : World} (h0 : manyI n L = 0) (h : ToldMany n L w e w') :
    Below w.heap.size w w' ∧ ∃ A c, e = .returned (.tuple #[.slice A (manyL n L).length c, .int .i64 0]) ∧ Reads w' w'.heap.size A (manyL n L).length 3 ((manyL n L).flatMap cEdit) := by
  obtain ⟨hb, h⟩ := h
  rcases h with ⟨h, _⟩ | ⟨_, h⟩
  · exact absurd h0 h
  · exact ⟨hb, h⟩
theorem many_wrong {n : Int} {L : List (List Ed)} {w : World} {e : Ending} {w' : World} (h0 : manyI n L ≠ 0) (h : ToldMany n L w e w') :
    Below w.heap.size w w' ∧ e = .returned (.tuple #[.slice none 0 0, .int .i64 (manyI n L)]) := by
  obtain ⟨hb, h⟩ := h
  rcases h with ⟨_, h⟩ | ⟨h, _⟩
  · exact ⟨hb, h⟩
  · exact absurd h h0

theorem trims_known : manyI 3 [[(1, 0, ⟨#[120, 121]⟩)], [(2, 2, ⟨#[]⟩)]] = 0 ∧ manyL 3 [[(1, 0, ⟨#[120, 121]⟩)], [(2, 2, ⟨#[]⟩)]] = [(1, 1, ⟨#[120]⟩)] := by decide +kernel

set_option maxRecDepth 100000 in
set_option maxHeartbeats 2000000 in
theorem trims_any (w : World) : Calls Tryd.prog 25 #[] w fun e w' => e = .returned (.bool true) ∧ Below w.heap.size w w' := by
  have oa : OkL [(1, 0, ⟨#[120, 121]⟩)] := fun x hx => by rw [List.mem_singleton.1 hx]; decide
  have ob : OkL [(2, 2, ⟨#[]⟩)] := fun x hx => by rw [List.mem_singleton.1 hx]; decide
  have c1 : ∀ (A A' : Option Addr) (c c' B : Nat) (w : World), Reads w B A 1 3 [.int .i64 1, .int .i64 0, .string ⟨#[120, 121]⟩] → Reads w B A' 1 3 [.int .i64 2, .int .i64 2, .string ⟨#[]⟩] → B ≤ w.heap.size → Calls Tryd.prog 32 #[.int .i64 3, .slice A 1 c, .slice A' 1 c'] w fun e w' =>
      Below w.heap.size w w' ∧ ∃ A c, e = .returned (.tuple #[.slice A 1 c, .int .i64 0]) ∧ Reads w' w'.heap.size A 1 3 (([(1, 1, ⟨#[120]⟩)] : List Ed).flatMap cEdit) := fun A A' c c' B w ra rb hB =>
    (two_any 3 (by decide) A A' 1 1 c c' B [(1, 0, ⟨#[120, 121]⟩)] [(2, 2, ⟨#[]⟩)] w ⟨rfl, ra, oa, show (1 : Nat) ≤ 4398046511104 by decide⟩ ⟨rfl, rb, ob, show (1 : Nat) ≤ 4398046511104 by decide⟩ hB).mono fun e w' h => by
      obtain ⟨hb, A, c, h1, h2⟩ := many_good trims_known.1 h
      rw [trims_known.2] at h1 h2
      exact ⟨hb, A, c, h1, h2⟩
  have C1 := Lib.hid c1
  clear c1 oa ob
  have hbd := buildEdit
  have r1 := Reads.made w #[.int .i64 1, .int .i64 0, .string ⟨#[120, 121]⟩] 42 1 3 rfl
  have r2 := Reads.made (w.alloc (Obj.cells #[.int .i64 1, .int .i64 0, .string ⟨#[120, 121]⟩] 42)) #[.int .i64 2, .int .i64 2, .string ⟨#[]⟩] 42 1 3 rfl
  have r1' := r1.after ((Below.refl _ _).alloc (Nat.le_refl _) (Obj.cells #[.int .i64 2, .int .i64 2, .string ⟨#[]⟩] 42))
  have hb0 : Below w.heap.size w ((w.alloc (Obj.cells #[.int .i64 1, .int .i64 0, .string ⟨#[120, 121]⟩] 42)).alloc (Obj.cells #[.int .i64 2, .int .i64 2, .string ⟨#[]⟩] 42)) := ((Below.refl _ _).alloc (Nat.le_refl _) _).alloc (by simp) _
  go_enter Tryd.func25, Tryd.ntmps25
  go_wp2_with fail
  rw [show (w.alloc (Obj.cells #[.int .i64 1, .int .i64 0, .string ⟨#[120, 121]⟩] 42)).heap.size = w.heap.size + 1 from by simp] at r2
  generalize (w.alloc (Obj.cells #[.int .i64 1, .int .i64 0, .string ⟨#[120, 121]⟩] 42)).alloc (Obj.cells #[.int .i64 2, .int .i64 2, .string ⟨#[]⟩] 42) = W at *
  refine (C1.out _ _ 1 1 _ W r1' r2 (Nat.le_refl _)).mono ?_
  rintro e w1 ⟨hb1, A1, k1, rfl, hr1⟩
  have hbw1 := chain hb1 hb0
  clear r1 r1' r2 hb0 hb1 C1
  go_wp2_with fail
  refine (equalEdit_any A1 (some ⟨w1.heap.size, 0, none⟩) 1 1 k1 1 w1.heap.size _ [(1, 1, ⟨#[120]⟩)] [(1, 1, ⟨#[120]⟩)] _ (by decide) (by decide) rfl rfl (hr1.below' ((Below.refl _ _).alloc (Nat.le_refl _) _) (Nat.le_refl _)) (Reads.made w1 #[.int .i64 1, .int .i64 1, .string ⟨#[120]⟩] _ 1 3 rfl)).mono ?_
  rintro e w5 ⟨rfl, hb5⟩
  have hb5' : Below w1.heap.size w1 w5 := ((Below.refl _ _).alloc (Nat.le_refl _) _).trans (hb5.mono (by simp))
  go_wp2
  go_ret
  exact ⟨by simp, chain hb5' hbw1⟩
end Go.Proofs.YtgoofbbbnphncaaDoor
