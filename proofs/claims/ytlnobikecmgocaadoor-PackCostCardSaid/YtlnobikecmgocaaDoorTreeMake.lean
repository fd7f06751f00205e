/- The walk of tree.Make. -/
import Derived.Test.YtlnobikecmgocaaDoorTreeLaws
import Derived.Test.YtlnobikecmgocaaDoorMakeWalk
namespace Go.Proofs.YtlnobikecmgocaaDoor
open Go.RowKit
set_option linter.unusedVariables false

/-- Lengths that Lens tells can be made. -/
theorem lens_make {ws : List Int} {o : List Nat} (hc : checkT ws = 0) (h : LensOk (nats ws) o) : makeE (ikN o) = 0 := by
  have hl := (checkT_zero ws).1 hc
  have hlen : o.length = ws.length := by rw [h.len, nats_len]
  have hbd : ∀ k, k < o.length → 1 ≤ o.getD k 0 ∧ o.getD k 0 ≤ 12 := fun k hk => by
    have hb := h.bd k (by rw [← h.len]; exact hk)
    rw [nats_len] at hb
    omega
  have hs : sumE (ikN o) = 0 := (sumE_zero _).2 ⟨by rw [ikN_len, hlen]; exact hl.1, fun x hx => by
    obtain ⟨k, hk, rfl⟩ := List.getElem_of_mem hx
    rw [ikN_len] at hk
    have e : (ikN o)[k] = ((o.getD k 0 : Nat) : Int) := by
      rw [← ikN_getD, List.getD_eq_getElem?_getD, List.getElem?_eq_getElem (by rw [ikN_len]; exact hk)]; rfl
    rw [e]
    have := hbd k hk
    omega⟩
  have hK : Kr 12 ((nats ws).zip o) := h.kr.at_ fun x hx => by
    obtain ⟨i, hi, rfl⟩ := List.getElem_of_mem hx
    rw [List.length_zip, h.len, Nat.min_self, ← h.len] at hi
    rw [List.getElem_zip]
    have := (hbd i hi).2
    rw [List.getD_eq_getElem?_getD, List.getElem?_eq_getElem hi] at this
    exact this
  have hv : sumV (ikN o) ≤ 4096 := by
    have h2 := hK.2
    rw [krW_kr 12 _ _ h.len] at h2
    unfold sumV
    rw [if_pos hs, nats_ikN]
    have : (2 : Nat) ^ 12 = 4096 := by decide
    omega
  unfold makeE
  rw [if_neg (fun h => h hs), if_neg (by omega)]

/-- What tree.Make tells: a code whose lengths are those of Lens. -/
def ToldMake (ws : List Int) (n : Nat) (w : World) (e : Ending) (w' : World) : Prop :=
  Below w.heap.size w w' ∧ ((checkT ws ≠ 0 ∧ e = .returned (.tuple #[.slice none 0 0, .int .i64 (checkT ws)])) ∨
    (checkT ws = 0 ∧ ∃ g o M, e = .returned (.tuple #[.slice (some ⟨g, 0, none⟩) n n, .int .i64 0]) ∧ LensOk (nats ws) o ∧ Reads w' w'.heap.size (some ⟨g, 0, none⟩) n 1 ((M.map strW).flatMap cStr) ∧ M.length = n ∧ CodeOk M ∧ FrontP M ∧ M.map List.length = o))
set_option maxHeartbeats 1000000 in
theorem treeMake_any (A : Option Addr) (n c B : Nat) (ws : List Int) (w : World) (hn : n ≤ 1125899906842624) (hl : ws.length = n) (h : Reads w B A n 1 (ws.flatMap cInt)) (hB : B ≤ w.heap.size) :
    Calls Tryd.prog 9 #[.slice A n c] w (ToldMake ws n w) := by
  have HL := Lib.hid (treeLens_any A n c B ws w hn hl h hB)
  clear h
  unfold ToldMake
  go_enter Tryd.func9, Tryd.ntmps9
  go_wp2_with fail
  refine HL.out.mono ?_
  rintro e w2 ⟨hb2, hx⟩
  rcases hx with ⟨hno, rfl⟩ | ⟨hc, g, o, rfl, hok, hro⟩
  · have q1 : (checkT ws != 0) = true := by simpa using hno
    have Hno := Lib.hid hno
    clear hno HL
    go_wp2
    go_ret2
    exact ⟨hb2, .inl ⟨Hno.out, rfl⟩⟩
  · have hmk := lens_make hc hok
    have hol : (ikN o).length = n := by rw [ikN_len, hok.len, nats_len, hl]
    have HM := Lib.hid (codeMake_any (some ⟨g, 0, none⟩) n n w2.heap.size (ikN o) w2 hn hol hro (Nat.le_refl _))
    have Hmk := Lib.hid hmk
    have Hok := Lib.hid hok
    have Hc := Lib.hid hc
    clear hmk hok hro hol HL hc
    go_wp2_with fail
    refine HM.out.mono ?_
    rintro e w3 ⟨hb3, ⟨hno, _⟩ | ⟨_, g2, rfl, hg2, hr2, h1, h2, h3, h4⟩⟩
    · exact absurd Hmk.out hno
    have hb3 := chain hb3 hb2
    rw [nats_ikN] at hr2 h1 h2 h3 h4
    have HH := Lib.hid (And.intro hr2 (And.intro h1 (And.intro h2 (And.intro h3 h4))))
    clear hr2 h1 h2 h3 h4 hg2
    go_wp2
    go_ret2
    exact ⟨hb3, .inr ⟨Hc.out, g2, o, makeM o, rfl, Hok.out, HH.out.1, HH.out.2.1, HH.out.2.2.1, HH.out.2.2.2.1, HH.out.2.2.2.2⟩⟩
end Go.Proofs.YtlnobikecmgocaaDoor
