/- The walks of trim.Two, of 'trims' and of 'all'. -/
import Derived.Test.YtmephgemokngnaaDoorTrimMany
namespace Go.Proofs.YtmephgemokngnaaDoor
open Go.RowKit
set_option linter.unusedVariables false

theorem many_own (n : Int) (hn : -9223372036854775808 ≤ n ∧ n ≤ 9223372036854775807) (A : Option Addr) (len cap B : Nat) (l : List EdRow) (hl : l.length = len) (hlen : len ≤ 1000000000000000) (w : World) (rl : Reads w B A len 1 (l.flatMap cRow)) (hel : ∀ x ∈ l, RowOk w B x) (hB : B ≤ w.heap.size) :
    Calls Tryd.prog 22 #[.int .i64 n, .slice A len cap] w (ToldManyO n (scrs l) w) := by
  by_cases h : n < 0 ∨ 200 < n ∨ 30 < len
  · exact many_bad n hn A len cap (scrs l) (by rw [List.length_map, hl]) hlen h w
  · obtain ⟨k, rfl⟩ : ∃ k : Nat, n = k := ⟨n.toNat, by omega⟩
    exact many_ok k (by omega) A len cap B l hl (by omega) w rl hel hB

theorem many_any (n : Int) (hn : -9223372036854775808 ≤ n ∧ n ≤ 9223372036854775807) (A : Option Addr) (len cap B : Nat) (l : List EdRow) (hl : l.length = len) (hlen : len ≤ 1000000000000000) (w : World) (rl : Reads w B A len 1 (l.flatMap cRow)) (hel : ∀ x ∈ l, RowOk w B x) (hB : B ≤ w.heap.size) :
    Calls Tryd.prog 22 #[.int .i64 n, .slice A len cap] w (ToldMany n (scrs l) w) :=
  (many_own n hn A len cap B l hl hlen w rl hel hB).mono fun e w' h => h.weak

theorem two_own (n : Int) (hn : -9223372036854775808 ≤ n ∧ n ≤ 9223372036854775807) (A A' : Option Addr) (la lb ca cb B : Nat) (a b : List Ed) (w : World) (ha : RowOk w B (A, la, ca, a)) (hb : RowOk w B (A', lb, cb, b)) (hB : B ≤ w.heap.size) :
    Calls Tryd.prog 12 #[.int .i64 n, .slice A la ca, .slice A' lb cb] w (ToldManyO n [a, b] w) := by
  have hrow : ∀ x ∈ ([(A, la, ca, a), (A', lb, cb, b)] : List EdRow), RowOk (w.alloc (Obj.cells #[.slice A la ca, .slice A' lb cb] 22)) (w.alloc (Obj.cells #[.slice A la ca, .slice A' lb cb] 22)).heap.size x := by
    have hbb : Below w.heap.size w (w.alloc (Obj.cells #[.slice A la ca, .slice A' lb cb] 22)) := (Below.refl _ _).alloc (Nat.le_refl _) _
    intro x hx
    have hup : ∀ x : EdRow, RowOk w B x → RowOk (w.alloc (Obj.cells #[.slice A la ca, .slice A' lb cb] 22)) (w.alloc (Obj.cells #[.slice A la ca, .slice A' lb cb] 22)).heap.size x := fun x ⟨h1, h2, h3, h4⟩ => ⟨h1, (h2.below' hbb hB).more (Nat.le_trans hB hbb.size), h3, h4⟩
    simp only [List.mem_cons, List.not_mem_nil, or_false] at hx
    rcases hx with rfl | rfl
    · exact hup _ ha
    · exact hup _ hb
  have hm := many_own n hn (some ⟨w.heap.size, 0, none⟩) 2 2 _ [(A, la, ca, a), (A', lb, cb, b)] rfl (by decide) (w.alloc (Obj.cells #[.slice A la ca, .slice A' lb cb] 22)) (Reads.made w #[.slice A la ca, .slice A' lb cb] 22 2 1 rfl) hrow (Nat.le_refl _)
  have hm2 : Calls Tryd.prog 22 #[.int .i64 n, .slice (some ⟨w.heap.size, 0, none⟩) 2 2] (w.alloc (Obj.cells #[.slice A la ca, .slice A' lb cb] 22)) (ToldManyO n [a, b] w) := hm.mono fun e w' ⟨h1, h2⟩ => ⟨((Below.refl _ _).alloc (Nat.le_refl _) _).trans (h1.mono (by simp)), h2.imp id (fun ⟨h3, A, c, h4, h5⟩ => ⟨h3, A, c, h4, own_low h5 (by simp)⟩)⟩
  have HM := Lib.hid hm2
  unfold ToldManyO at HM
  unfold ToldManyO
  clear hm hm2 hrow ha hb
  generalize manyI n [a, b] = I at *
  generalize manyL n [a, b] = M at *
  go_enter Tryd.func12, Tryd.ntmps12
  go_wp2_with fail
  refine HM.out.mono ?_
  rintro e w' ⟨hb1, hcase⟩
  rcases hcase with ⟨h1, rfl⟩ | ⟨h1, A5, c5, rfl, hr5⟩
  · have H1 := Lib.hid h1
    clear h1
    go_wp2
    go_ret2
    exact ⟨hb1, .inl ⟨H1.out, rfl⟩⟩
  · have H1 := Lib.hid h1
    clear h1
    go_wp2
    go_ret2
    exact ⟨hb1, .inr ⟨H1.out, A5, c5, rfl, hr5⟩⟩
theorem two_any (n : Int) (hn : -9223372036854775808 ≤ n ∧ n ≤ 9223372036854775807) (A A' : Option Addr) (la lb ca cb B : Nat) (a b : List Ed) (w : World) (ha : RowOk w B (A, la, ca, a)) (hb : RowOk w B (A', lb, cb, b)) (hB : B ≤ w.heap.size) :
    Calls Tryd.prog 12 #[.int .i64 n, .slice A la ca, .slice A' lb cb] w (ToldMany n [a, b] w) :=
  (two_own n hn A A' la lb ca cb B a b w ha hb hB).mono fun e w' h => h.weak

theorem many_good {n : Int} {L : List (List Ed)} {w : World} {e : Ending} {w' : World} (h0 : manyI n L = 0) (h : ToldMany n L w e w') :
    Below w.heap.size w w' ∧ ∃ A c, e = .returned (.tuple #[.slice A (manyL n L).length c, .int .i64 0]) ∧ Reads w' w'.heap.size A (manyL n L).length 3 ((manyL n L).flatMap cEdit) := by
  obtain ⟨hb, h⟩ := h
  rcases h with ⟨h, _⟩ | ⟨_, h⟩
  · exact absurd h0 h
  · exact ⟨hb, h⟩
theorem many_wrong {n : Int} {L : List (List Ed)} {w : World} {e : Ending} {w' : World} (h0 : manyI n L ≠ 0) (h : ToldMany n L w e w') :
    Below w.heap.size w w' ∧ e = .returned (.tuple #[.slice none 0 0, .int .i64 (manyI n L)]) := by
  obtain ⟨hb, h⟩ := h
  rcases h with ⟨_, h⟩ | ⟨h, _⟩
  · exact ⟨hb, h⟩
  · exact absurd h h0

theorem trims_known : manyI 3 [[(1, 0, ⟨#[120, 121]⟩)], [(2, 2, ⟨#[]⟩)]] = 0 ∧ manyL 3 [[(1, 0, ⟨#[120, 121]⟩)], [(2, 2, ⟨#[]⟩)]] = [(1, 1, ⟨#[120]⟩)] := by decide +kernel

end Go.Proofs.YtmephgemokngnaaDoor
