/- The walk of rope.Edit. -/
import Derived.Test.YtkeeggklgdinhaaRopeJoin
import Derived.Test.YtkeeggklgdinhaaEdit
namespace Go.Proofs.Ytkeeggklgdinhaa
open Go.RowKit
set_option linter.unusedVariables false

/-- What lies in the middle. -/
def midR (s : ByteArray) : List ByteArray := if s.size = 0 then [] else [s]
/-- What 'Edit' answers. -/
def reditE (l : List ByteArray) (x : Ed) : Int :=
  if cutE l x.1 ≠ 0 then cutE l x.1
  else if cutE (cutB x.1.toNat l) x.2.1 ≠ 0 then cutE (cutB x.1.toNat l) x.2.1
  else if checkR (midR x.2.2) ≠ 0 then checkR (midR x.2.2)
  else if joinE (cutA x.1.toNat l) (midR x.2.2) ≠ 0 then joinE (cutA x.1.toNat l) (midR x.2.2)
  else joinE (cutA x.1.toNat l ++ midR x.2.2) (cutB x.2.1.toNat (cutB x.1.toNat l))
def reditL (l : List ByteArray) (x : Ed) : List ByteArray := (cutA x.1.toNat l ++ midR x.2.2) ++ cutB x.2.1.toNat (cutB x.1.toNat l)
theorem mid_mem {s p : ByteArray} (h : p ∈ midR s) : p = s := by
  unfold midR at h
  by_cases hs : s.size = 0
  · rw [if_pos hs] at h; cases h
  · rw [if_neg hs] at h; exact List.mem_singleton.1 h
/-- A row of strings does not lie where a rope lies. -/
theorem reads_ne {w : World} {B n b o h m c : Nat} {X : Option Addr} {t : TypeId} {l : List ByteArray} (r : Reads w B (some ⟨b, o, none⟩) n 1 (l.flatMap cStr)) (hl : l.length = n) (hn : 0 < n) (hb : Blk w h t #[.slice X m c]) : b ≠ h := by
  rintro rfl
  obtain ⟨_, hc⟩ := reads_cells r hl hn
  have := hc 0 _ (List.getElem?_eq_getElem (by omega))
  rw [hb.cell] at this
  rcases Nat.eq_zero_or_pos o with h0 | h0
  · subst h0; simp at this
  · rw [Array.getElem?_eq_none (by simp; omega)] at this; cases this
theorem Reads.setNe {w : World} {B n h m c i : Nat} {A X : Option Addr} {t : TypeId} {l : List ByteArray} {u : Value} (r : Reads w B A n 1 (l.flatMap cStr)) (hl : l.length = n) (hb : Blk w h t #[.slice X m c]) : Reads (w.setCell ⟨h, i, none⟩ u) B A n 1 (l.flatMap cStr) := by
  rcases Nat.eq_zero_or_pos n with h0 | h0
  · exact ⟨r.1, fun h => absurd h (by omega)⟩
  · exact r.setFar fun b o hA => by subst hA; exact reads_ne r hl h0 hb

set_option maxRecDepth 100000 in
set_option maxHeartbeats 8000000 in
theorem redit_own (A : Option Addr) (n c B : Nat) (l : List ByteArray) (x : Ed) (hx1 : -9223372036854775808 ≤ x.1 ∧ x.1 ≤ 9223372036854775807) (hx2 : -9223372036854775808 ≤ x.2.1 ∧ x.2.1 ≤ 9223372036854775807) (hx3 : x.2.2.size ≤ 140737488355328)
    (hl : l.length = n) (hnc : n ≤ c) (hn : n ≤ 1000000000000000) (hz : ∀ p ∈ l, p.size ≤ 140737488355328) (w : World) (r : Reads w B A n 1 (l.flatMap cStr)) (hB : B ≤ w.heap.size) :
    Calls Try.prog 13 #[ropeV A n c, .agg #[.int .i64 x.1, .int .i64 x.2.1, .string x.2.2]] w fun e w' => ToldRopeO w e w' (if reditE l x = 0 then reditL l x else []) (reditE l x) := by
  obtain ⟨E, hE⟩ : ∃ E, E = reditE l x := ⟨_, rfl⟩
  obtain ⟨L, hL⟩ : ∃ L, L = if reditE l x = 0 then reditL l x else [] := ⟨_, rfl⟩
  rw [← hL, ← hE]
  rw [← hE] at hL
  have HE := Lib.hid hE
  have HL := Lib.hid hL
  clear hE hL
  obtain ⟨x1, xd, ins⟩ := x
  simp only at hx1 hx2 hx3 HE HL ⊢
  have hb0 : Below w.heap.size w (((w.alloc (Obj.cells #[.slice A n c] 24)).alloc (Obj.cells #[.int .i64 x1, .int .i64 xd, .string ins] 26)).alloc (Obj.cells #[.slice none 0 0] 24)) := (((Below.refl _ _).alloc (Nat.le_refl _) _).alloc (by simp) _).alloc (by simp; omega) _
  have g1 : Blk (((w.alloc (Obj.cells #[.slice A n c] 24)).alloc (Obj.cells #[.int .i64 x1, .int .i64 xd, .string ins] 26)).alloc (Obj.cells #[.slice none 0 0] 24)) (w.heap.size + 1) 26 #[.int .i64 x1, .int .i64 xd, .string ins] := by
    have := (Blk.new (w.alloc (Obj.cells #[.slice A n c] 24)) 26 #[.int .i64 x1, .int .i64 xd, .string ins]).alloc (Obj.cells #[.slice none 0 0] 24)
    rwa [show (w.alloc (Obj.cells #[.slice A n c] 24)).heap.size = w.heap.size + 1 from by simp] at this
  have g2 : Blk (((w.alloc (Obj.cells #[.slice A n c] 24)).alloc (Obj.cells #[.int .i64 x1, .int .i64 xd, .string ins] 26)).alloc (Obj.cells #[.slice none 0 0] 24)) (w.heap.size + 1 + 1) 24 #[.slice none 0 0] := by
    have := Blk.new ((w.alloc (Obj.cells #[.slice A n c] 24)).alloc (Obj.cells #[.int .i64 x1, .int .i64 xd, .string ins] 26)) 24 #[.slice none 0 0]
    rwa [show ((w.alloc (Obj.cells #[.slice A n c] 24)).alloc (Obj.cells #[.int .i64 x1, .int .i64 xd, .string ins] 26)).heap.size = w.heap.size + 1 + 1 from by simp] at this
  have z0 : (((w.alloc (Obj.cells #[.slice A n c] 24)).alloc (Obj.cells #[.int .i64 x1, .int .i64 xd, .string ins] 26)).alloc (Obj.cells #[.slice none 0 0] 24)).cell? ⟨w.heap.size, 0, none⟩ = some (.slice A n c) := (((Blk.new w _ _).alloc _).alloc _).cell 0
  have z1 : (((w.alloc (Obj.cells #[.slice A n c] 24)).alloc (Obj.cells #[.int .i64 x1, .int .i64 xd, .string ins] 26)).alloc (Obj.cells #[.slice none 0 0] 24)).cell? ⟨w.heap.size + 1, 0, none⟩ = some (.int .i64 x1) := g1.cell 0
  have hcut := cut_any A n c B l x1 hx1 hl hnc hn hz _ (r.below (hb0.mono hB)) (Nat.le_trans hB hb0.size)
  have Hcut := Lib.hid hcut
  clear hcut hz r
  go_enter Try.func13, Try.ntmps13
  go_wp2_with fail
  by_cases hc1 : cutE l x1 = 0
  case neg =>
    have hE2 : E = cutE l x1 := by rw [HE.out]; unfold reditE; rw [if_pos hc1]
    obtain rfl : L = [] := by rw [HL.out, hE2, if_neg hc1]
    have q1 : (cutE l x1 != 0) = true := by simpa using hc1
    rw [if_neg hc1] at Hcut
    rw [← hE2] at q1 Hcut
    clear HE HL
    clear hc1 hE2
    refine Hcut.out.mono ?_
    rintro e w2 ⟨Aa, na, ca, Ab, nb, cb, rfl, hla, hlb, _, _, ra, rb, hb2⟩
    have m2 := (g2.after hb2).alloc (Obj.cells #[.slice Aa na ca] 24) |>.alloc (Obj.cells #[.slice Ab nb cb] 24)
    have n2 := (g1.after hb2).alloc (Obj.cells #[.slice Aa na ca] 24) |>.alloc (Obj.cells #[.slice Ab nb cb] 24)
    have p2 : Blk ((w2.alloc (Obj.cells #[.slice Aa na ca] 24)).alloc (Obj.cells #[.slice Ab nb cb] 24)) w2.heap.size 24 #[.slice Aa na ca] := (Blk.new w2 _ _).alloc _
    have s2 : Blk ((w2.alloc (Obj.cells #[.slice Aa na ca] 24)).alloc (Obj.cells #[.slice Ab nb cb] 24)) (w2.heap.size + 1) 24 #[.slice Ab nb cb] := by
      have := Blk.new (w2.alloc (Obj.cells #[.slice Aa na ca] 24)) 24 #[.slice Ab nb cb]
      rwa [show (w2.alloc (Obj.cells #[.slice Aa na ca] 24)).heap.size = w2.heap.size + 1 from by simp] at this
    have hb3 : Below w2.heap.size w2 ((w2.alloc (Obj.cells #[.slice Aa na ca] 24)).alloc (Obj.cells #[.slice Ab nb cb] 24)) := ((Below.refl _ _).alloc (Nat.le_refl _) _).alloc (by simp) _
    have hbw3 := chain hb3 (chain hb2 hb0)
    have ra3 := ra.after hb3
    have rb3 := rb.after hb3
    have cE : ((w2.alloc (Obj.cells #[.slice Aa na ca] 24)).alloc (Obj.cells #[.slice Ab nb cb] 24)).cell? ⟨w.heap.size + 1 + 1, 0, none⟩ = some (.slice none 0 0) := m2.cell 0
    have fE : ((w2.alloc (Obj.cells #[.slice Aa na ca] 24)).alloc (Obj.cells #[.slice Ab nb cb] 24)).frozen? ⟨w.heap.size + 1 + 1, 0, none⟩ = false := m2.frozen 0
    clear Hcut g1 g2 z0 z1 hb2 hb0 ra rb hla hlb ra3 rb3
    go_wp2
    have x2 : (((w2.alloc (Obj.cells #[.slice Aa na ca] 24)).alloc (Obj.cells #[.slice Ab nb cb] 24)).setCell ⟨w.heap.size + 1 + 1, 0, none⟩ (.slice none 0 0)).cell? ⟨w.heap.size + 1 + 1, 0, none⟩ = some (.slice none 0 0) := (m2.set_ 0 (.slice none 0 0)).cell 0
    refine bodyPost_ret (by simp [results, Try.results13, go_sem, x2]; try rfl) rfl ?_
    exact ⟨none, 0, 0, rfl, OwnS.nil _ _, hbw3.setCell (p := ⟨w.heap.size + 1 + 1, 0, none⟩) (by show w.heap.size ≤ w.heap.size + 1 + 1; omega) _⟩
  have hq1 := cut_ok hc1
  rw [if_pos hc1, if_pos hc1, hc1] at Hcut
  refine Hcut.out.mono ?_
  rintro e w2 ⟨Aa, na, ca, Ab, nb, cb, rfl, hla, hlb, hna, hnb, ra, rb, hb2⟩
  have hm2 := (g2.after hb2).lt
  have m2 := (g2.after hb2).alloc (Obj.cells #[.slice Aa na ca] 24) |>.alloc (Obj.cells #[.slice Ab nb cb] 24)
  have n2 := (g1.after hb2).alloc (Obj.cells #[.slice Aa na ca] 24) |>.alloc (Obj.cells #[.slice Ab nb cb] 24)
  have p2 : Blk ((w2.alloc (Obj.cells #[.slice Aa na ca] 24)).alloc (Obj.cells #[.slice Ab nb cb] 24)) w2.heap.size 24 #[.slice Aa na ca] := (Blk.new w2 _ _).alloc _
  have s2 : Blk ((w2.alloc (Obj.cells #[.slice Aa na ca] 24)).alloc (Obj.cells #[.slice Ab nb cb] 24)) (w2.heap.size + 1) 24 #[.slice Ab nb cb] := by
    have := Blk.new (w2.alloc (Obj.cells #[.slice Aa na ca] 24)) 24 #[.slice Ab nb cb]
    rwa [show (w2.alloc (Obj.cells #[.slice Aa na ca] 24)).heap.size = w2.heap.size + 1 from by simp] at this
  have hb3 : Below w2.heap.size w2 ((w2.alloc (Obj.cells #[.slice Aa na ca] 24)).alloc (Obj.cells #[.slice Ab nb cb] 24)) := ((Below.refl _ _).alloc (Nat.le_refl _) _).alloc (by simp) _
  have hbw3 := chain hb3 (chain hb2 hb0)
  have ra3 := ra.after hb3
  have rb3 := rb.after hb3
  have y1 : ((w2.alloc (Obj.cells #[.slice Aa na ca] 24)).alloc (Obj.cells #[.slice Ab nb cb] 24)).cell? ⟨w2.heap.size + 1, 0, none⟩ = some (.slice Ab nb cb) := s2.cell 0
  have y2 : ((w2.alloc (Obj.cells #[.slice Aa na ca] 24)).alloc (Obj.cells #[.slice Ab nb cb] 24)).cell? ⟨w.heap.size + 1, 1, none⟩ = some (.int .i64 xd) := n2.cell 1
  have hokA := cutA_ok hq1 x1.toNat
  have hokB := cutB_ok hq1 x1.toNat
  have hcut2 := cut_any Ab nb cb ((w2.alloc (Obj.cells #[.slice Aa na ca] 24)).alloc (Obj.cells #[.slice Ab nb cb] 24)).heap.size (cutB x1.toNat l) xd hx2 hlb hnb (by have := (ok_small hokB).1; omega) (ok_small hokB).2 _ rb3 (Nat.le_refl _)
  have Hcut2 := Lib.hid hcut2
  have HokA := Lib.hid hokA
  have HokB := Lib.hid hokB
  have Hc1 := Lib.hid hc1
  have Hla := Lib.hid hla
  have hna60 : na ≤ 60 := by have := (big_txt hokA).1; omega
  clear Hcut g1 g2 z0 z1 hb2 hb0 ra rb hla hlb hcut2 hokA hokB hc1 hq1 hb3 rb3
  go_wp2_with fail
  by_cases hc2 : cutE (cutB x1.toNat l) xd = 0
  case neg =>
    have hE2 : E = cutE (cutB x1.toNat l) xd := by rw [HE.out]; unfold reditE; rw [if_neg (fun h => h Hc1.out), if_pos hc2]
    obtain rfl : L = [] := by rw [HL.out, hE2, if_neg hc2]
    have q1 : (cutE (cutB x1.toNat l) xd != 0) = true := by simpa using hc2
    rw [if_neg hc2] at Hcut2
    rw [← hE2] at q1 Hcut2
    clear HE HL HokA HokB Hc1 hc2 hE2
    refine Hcut2.out.mono ?_
    rintro e w4 ⟨Ac, nc, cc, Ad, nd, cd, rfl, hlc, hld, _, _, rc, rd, hb4⟩
    have m4 := (m2.after hb4).alloc (Obj.cells #[.slice Ac nc cc] 24) |>.alloc (Obj.cells #[.slice Ad nd cd] 24)
    have hb5 : Below w4.heap.size w4 ((w4.alloc (Obj.cells #[.slice Ac nc cc] 24)).alloc (Obj.cells #[.slice Ad nd cd] 24)) := ((Below.refl _ _).alloc (Nat.le_refl _) _).alloc (by simp) _
    have hbw5 := chain hb5 (chain hb4 hbw3)
    have cE : ((w4.alloc (Obj.cells #[.slice Ac nc cc] 24)).alloc (Obj.cells #[.slice Ad nd cd] 24)).cell? ⟨w.heap.size + 1 + 1, 0, none⟩ = some (.slice none 0 0) := m4.cell 0
    have fE : ((w4.alloc (Obj.cells #[.slice Ac nc cc] 24)).alloc (Obj.cells #[.slice Ad nd cd] 24)).frozen? ⟨w.heap.size + 1 + 1, 0, none⟩ = false := m4.frozen 0
    clear Hcut2 m2 n2 p2 s2 y1 y2 hb4 hbw3 hb5 rc rd hlc hld ra3
    go_wp2
    have x2 : (((w4.alloc (Obj.cells #[.slice Ac nc cc] 24)).alloc (Obj.cells #[.slice Ad nd cd] 24)).setCell ⟨w.heap.size + 1 + 1, 0, none⟩ (.slice none 0 0)).cell? ⟨w.heap.size + 1 + 1, 0, none⟩ = some (.slice none 0 0) := (m4.set_ 0 (.slice none 0 0)).cell 0
    refine bodyPost_ret (by simp [results, Try.results13, go_sem, x2]; try rfl) rfl ?_
    exact ⟨none, 0, 0, rfl, OwnS.nil _ _, hbw5.setCell (p := ⟨w.heap.size + 1 + 1, 0, none⟩) (by show w.heap.size ≤ w.heap.size + 1 + 1; omega) _⟩
  have hq2 := HokB.out
  rw [if_pos hc2, if_pos hc2, hc2] at Hcut2
  refine Hcut2.out.mono ?_
  rintro e w4 ⟨Ac, nc, cc, Ad, nd, cd, rfl, hlc, hld, hnc2, hnd, rc, rd, hb4⟩
  have hh1 : w.heap.size + 1 + 1 < w2.heap.size := hm2
  have hh2' : w2.heap.size < w4.heap.size := (p2.after hb4).lt
  have m4 : Blk ((w4.alloc (Obj.cells #[.slice Ac nc cc] 24)).alloc (Obj.cells #[.slice Ad nd cd] 24)) (w.heap.size + 1 + 1) 24 #[.slice none 0 0] := ((m2.after hb4).alloc _).alloc _
  have n4 := (((n2.after hb4).alloc (Obj.cells #[.slice Ac nc cc] 24)).alloc (Obj.cells #[.slice Ad nd cd] 24)).alloc (Obj.cells #[.slice none 0 0] 24)
  have p4 : Blk ((w4.alloc (Obj.cells #[.slice Ac nc cc] 24)).alloc (Obj.cells #[.slice Ad nd cd] 24)) w2.heap.size 24 #[.slice Aa na ca] := ((p2.after hb4).alloc _).alloc _
  have d4 : Blk ((w4.alloc (Obj.cells #[.slice Ac nc cc] 24)).alloc (Obj.cells #[.slice Ad nd cd] 24)) (w4.heap.size + 1) 24 #[.slice Ad nd cd] := by
    have := Blk.new (w4.alloc (Obj.cells #[.slice Ac nc cc] 24)) 24 #[.slice Ad nd cd]
    rwa [show (w4.alloc (Obj.cells #[.slice Ac nc cc] 24)).heap.size = w4.heap.size + 1 from by simp] at this
  have hsz5 : ((w4.alloc (Obj.cells #[.slice Ac nc cc] 24)).alloc (Obj.cells #[.slice Ad nd cd] 24)).heap.size = w4.heap.size + 1 + 1 := by simp
  have hb5 : Below w4.heap.size w4 ((w4.alloc (Obj.cells #[.slice Ac nc cc] 24)).alloc (Obj.cells #[.slice Ad nd cd] 24)) := ((Below.refl _ _).alloc (Nat.le_refl _) _).alloc (by simp) _
  have hbw6 := chain hb5 (chain hb4 hbw3)
  have ra6 := (ra3.after hb4).after hb5
  have rd6 := rd.after hb5
  have z6 : (((w4.alloc (Obj.cells #[.slice Ac nc cc] 24)).alloc (Obj.cells #[.slice Ad nd cd] 24)).alloc (Obj.cells #[.slice none 0 0] 24)).cell? ⟨w.heap.size + 1, 2, none⟩ = some (.string ins) := n4.cell 2
  have hokD := cutB_ok hq2 xd.toNat
  have HokD := Lib.hid hokD
  have Hc2 := Lib.hid hc2
  have Hld := Lib.hid hld
  clear Hcut2 m2 n2 p2 s2 y1 y2 hb4 hbw3 hb5 rc rd hlc hld hokD hq2 hc2 ra3
  by_cases hi : ins.size = 0
  · obtain rfl : ins = ByteArray.empty := ByteArray.ext (Array.eq_empty_of_size_eq_zero hi)
    go_wp2_with fail
    have m7 : Blk (((w4.alloc (Obj.cells #[.slice Ac nc cc] 24)).alloc (Obj.cells #[.slice Ad nd cd] 24)).alloc (Obj.cells #[.slice none 0 0] 24)) (w.heap.size + 1 + 1) 24 #[.slice none 0 0] := m4.alloc _
    have p7 : Blk (((w4.alloc (Obj.cells #[.slice Ac nc cc] 24)).alloc (Obj.cells #[.slice Ad nd cd] 24)).alloc (Obj.cells #[.slice none 0 0] 24)) w2.heap.size 24 #[.slice Aa na ca] := p4.alloc _
    have d7 : Blk (((w4.alloc (Obj.cells #[.slice Ac nc cc] 24)).alloc (Obj.cells #[.slice Ad nd cd] 24)).alloc (Obj.cells #[.slice none 0 0] 24)) (w4.heap.size + 1) 24 #[.slice Ad nd cd] := d4.alloc _
    have hb7 : Below ((w4.alloc (Obj.cells #[.slice Ac nc cc] 24)).alloc (Obj.cells #[.slice Ad nd cd] 24)).heap.size ((w4.alloc (Obj.cells #[.slice Ac nc cc] 24)).alloc (Obj.cells #[.slice Ad nd cd] 24)) (((w4.alloc (Obj.cells #[.slice Ac nc cc] 24)).alloc (Obj.cells #[.slice Ad nd cd] 24)).alloc (Obj.cells #[.slice none 0 0] 24)) := (Below.refl _ _).alloc (Nat.le_refl _) _
    have hbw7 := chain hb7 hbw6
    have ra7 := ra6.after hb7
    have rd7 := rd6.after hb7
    have k7 : Blk (((w4.alloc (Obj.cells #[.slice Ac nc cc] 24)).alloc (Obj.cells #[.slice Ad nd cd] 24)).alloc (Obj.cells #[.slice none 0 0] 24)) (w4.heap.size + 1 + 1) 24 #[.slice none 0 0] := by
      have := Blk.new ((w4.alloc (Obj.cells #[.slice Ac nc cc] 24)).alloc (Obj.cells #[.slice Ad nd cd] 24)) 24 #[.slice none 0 0]
      rwa [hsz5] at this
    have rm : Reads (((w4.alloc (Obj.cells #[.slice Ac nc cc] 24)).alloc (Obj.cells #[.slice Ad nd cd] 24)).alloc (Obj.cells #[.slice none 0 0] 24)) (((w4.alloc (Obj.cells #[.slice Ac nc cc] 24)).alloc (Obj.cells #[.slice Ad nd cd] 24)).alloc (Obj.cells #[.slice none 0 0] 24)).heap.size none 0 1 ((midR ByteArray.empty).flatMap cStr) := Reads.nil
    have hlm : (midR ByteArray.empty).length = 0 := rfl
    clear m4 n4 p4 d4 z6 hbw6 ra6 rd6 hb7 hsz5
    generalize ByteArray.empty = ins at *
    generalize (((w4.alloc (Obj.cells #[.slice Ac nc cc] 24)).alloc (Obj.cells #[.slice Ad nd cd] 24)).alloc (Obj.cells #[.slice none 0 0] 24)) = w7 at *
    generalize w2.heap.size = h1 at *
    generalize w4.heap.size = h2 at *
    obtain ⟨Am, hAm⟩ : ∃ A : Option Addr, A = none := ⟨_, rfl⟩
    obtain ⟨nm, hnm⟩ : ∃ n : Nat, n = 0 := ⟨_, rfl⟩
    obtain ⟨cm, hcm'⟩ : ∃ n : Nat, n = 0 := ⟨_, rfl⟩
    have hnm1 : nm ≤ 1 := by omega
    rw [show (Value.slice none 0 0) = Value.slice Am nm cm from by rw [hAm, hnm, hcm']] at k7
    rw [← hAm, ← hnm] at rm
    rw [← hnm] at hlm
    rw [show (Value.slice none 0 0) = Value.slice Am nm cm from by rw [hAm, hnm, hcm']]
    clear hAm hnm hcm'
    have hokM : ∀ p ∈ midR ins, p.size ≤ 140737488355328 := fun p hp => by
      rw [mid_mem hp]; exact hx3
    have hcm := rcheck_any Am nm cm w7.heap.size (midR ins) hlm (by omega) hokM w7 rm (Nat.le_refl _)
    have Hcm := Lib.hid hcm
    have HokM := Lib.hid hokM
    have Hlm := Lib.hid hlm
    clear hcm hokM hlm
    by_cases hc3 : checkR (midR ins) = 0
    case neg =>
      have hE2 : E = checkR (midR ins) := by rw [HE.out]; unfold reditE; rw [if_neg (fun h => h Hc1.out), if_neg (fun h => h Hc2.out), if_pos hc3]
      obtain rfl : L = [] := by rw [HL.out, hE2, if_neg hc3]
      have q1 : (checkR (midR ins) != 0) = true := by simpa using hc3
      rw [← hE2] at q1 Hcm
      clear HE HL hc3 hE2 HokA HokB HokD Hc1 Hc2 Hla Hld Hlm HokM
      refine Hcm.out.mono ?_
      rintro e w8 ⟨rfl, hb8⟩
      have m8 := m7.after hb8
      have hbw8 := chain hb8 hbw7
      have cE : w8.cell? ⟨w.heap.size + 1 + 1, 0, none⟩ = some (.slice none 0 0) := m8.cell 0
      have fE : w8.frozen? ⟨w.heap.size + 1 + 1, 0, none⟩ = false := m8.frozen 0
      clear Hcm m7 p7 d7 k7 ra7 rd7 rm hb8 hbw7
      go_wp2
      have x2 : (w8.setCell ⟨w.heap.size + 1 + 1, 0, none⟩ (.slice none 0 0)).cell? ⟨w.heap.size + 1 + 1, 0, none⟩ = some (.slice none 0 0) := (m8.set_ 0 (.slice none 0 0)).cell 0
      refine bodyPost_ret (by simp [results, Try.results13, go_sem, x2]; try rfl) rfl ?_
      exact ⟨none, 0, 0, rfl, OwnS.nil _ _, hbw8.setCell (p := ⟨w.heap.size + 1 + 1, 0, none⟩) (by show w.heap.size ≤ w.heap.size + 1 + 1; omega) _⟩
    rw [hc3] at Hcm
    refine Hcm.out.mono ?_
    rintro e w8 ⟨rfl, hb8⟩
    have m8 := m7.after hb8
    have p8 := p7.after hb8
    have d8 := d7.after hb8
    have k8 := k7.after hb8
    have ra8 := ra7.after hb8
    have rd8 := rd7.after hb8
    have rm8 := rm.after hb8
    have hbw8 := chain hb8 hbw7
    have y1 : w8.cell? ⟨h1, 0, none⟩ = some (.slice Aa na ca) := p8.cell 0
    have y2 : w8.cell? ⟨h2 + 1 + 1, 0, none⟩ = some (.slice Am nm cm) := k8.cell 0
    have hj := join_ropes Aa Am na ca nm cm w8.heap.size (cutA x1.toNat l) (midR ins) Hla.out Hlm.out (by omega) (by omega) (ok_small HokA.out).2 HokM.out w8 ra8 rm8 (Nat.le_refl _)
    have Hj := Lib.hid hj
    have Hc3 := Lib.hid hc3
    clear Hcm m7 p7 d7 k7 ra7 rd7 rm hb8 hbw7 hj hc3 ra8 rm8
    go_wp2_with fail
    by_cases hc4 : joinE (cutA x1.toNat l) (midR ins) = 0
    case neg =>
      have hE2 : E = joinE (cutA x1.toNat l) (midR ins) := by rw [HE.out]; unfold reditE; rw [if_neg (fun h => h Hc1.out), if_neg (fun h => h Hc2.out), if_neg (fun h => h Hc3.out), if_pos hc4]
      obtain rfl : L = [] := by rw [HL.out, hE2, if_neg hc4]
      have q1 : (joinE (cutA x1.toNat l) (midR ins) != 0) = true := by simpa using hc4
      rw [if_neg hc4, ← hE2] at Hj
      rw [← hE2] at q1
      clear HE HL hc4 hE2 HokA HokB HokD Hc1 Hc2 Hc3 Hla Hld Hlm HokM
      refine Hj.out.mono ?_
      rintro e w9 ⟨Aj, nj, cj, rfl, hlj, hnj, rj, hb9⟩
      have m9 := m8.after hb9
      have p9 := p8.after hb9
      have hbw9 := (chain hb9 hbw8).setCell (p := ⟨h1, 0, none⟩) (by show w.heap.size ≤ h1; omega) (.slice Aj nj cj)
      have v1 : w9.cell? ⟨h1, 0, none⟩ = some (.slice Aa na ca) := p9.cell 0
      have v2 : w9.frozen? ⟨h1, 0, none⟩ = false := p9.frozen 0
      have m10 := m9.far (p := ⟨h1, 0, none⟩) (by show w.heap.size + 1 + 1 ≠ h1; omega) (.slice Aj nj cj)
      have cE : (w9.setCell ⟨h1, 0, none⟩ (.slice Aj nj cj)).cell? ⟨w.heap.size + 1 + 1, 0, none⟩ = some (.slice none 0 0) := m10.cell 0
      have fE : w9.frozen? ⟨w.heap.size + 1 + 1, 0, none⟩ = false := m9.frozen 0
      have cE' : w9.cell? ⟨w.heap.size + 1 + 1, 0, none⟩ = some (.slice none 0 0) := m9.cell 0
      clear Hj m8 p8 d8 k8 rd8 y1 y2 hb9 hbw8 rj hlj
      go_wp2
      have x2 : ((w9.setCell ⟨h1, 0, none⟩ (.slice Aj nj cj)).setCell ⟨w.heap.size + 1 + 1, 0, none⟩ (.slice none 0 0)).cell? ⟨w.heap.size + 1 + 1, 0, none⟩ = some (.slice none 0 0) := (m10.set_ 0 (.slice none 0 0)).cell 0
      refine bodyPost_ret (by simp [results, Try.results13, go_sem, x2]; try rfl) rfl ?_
      exact ⟨none, 0, 0, rfl, OwnS.nil _ _, hbw9.setCell (p := ⟨w.heap.size + 1 + 1, 0, none⟩) (by show w.heap.size ≤ w.heap.size + 1 + 1; omega) _⟩
    rw [if_pos hc4, hc4] at Hj
    refine Hj.out.mono ?_
    rintro e w9 ⟨Aj, nj, cj, rfl, hlj, hnj, rj, hb9⟩
    have m9 := m8.after hb9
    have p9 := p8.after hb9
    have d9 := d8.after hb9
    have rd9 := rd8.after hb9
    have hbw10 := (chain hb9 hbw8).setCell (p := ⟨h1, 0, none⟩) (by show w.heap.size ≤ h1; omega) (.slice Aj nj cj)
    have v1 : w9.cell? ⟨h1, 0, none⟩ = some (.slice Aa na ca) := p9.cell 0
    have v2 : w9.frozen? ⟨h1, 0, none⟩ = false := p9.frozen 0
    have m10 := m9.far (p := ⟨h1, 0, none⟩) (by show w.heap.size + 1 + 1 ≠ h1; omega) (.slice Aj nj cj)
    have d10 := d9.far (p := ⟨h1, 0, none⟩) (by show h2 + 1 ≠ h1; omega) (.slice Aj nj cj)
    have p10 : Blk (w9.setCell ⟨h1, 0, none⟩ (.slice Aj nj cj)) h1 24 #[.slice Aj nj cj] := p9.set_ 0 _
    have rj10 := rj.setNe (i := 0) (u := .slice Aj nj cj) hlj p9
    have rd10 := rd9.setNe (i := 0) (u := .slice Aj nj cj) Hld.out p9
    have hsz10 : (w9.setCell ⟨h1, 0, none⟩ (.slice Aj nj cj)).heap.size = w9.heap.size := size_setCell ..
    clear Hj m8 p8 d8 k8 rd8 y1 y2 hb9 hbw8 p9 m9 d9 rj rd9
    have v3 : (w9.setCell ⟨h1, 0, none⟩ (.slice Aj nj cj)).cell? ⟨h1, 0, none⟩ = some (.slice Aj nj cj) := p10.cell 0
    have v4 : (w9.setCell ⟨h1, 0, none⟩ (.slice Aj nj cj)).cell? ⟨h2 + 1, 0, none⟩ = some (.slice Ad nd cd) := d10.cell 0
    go_wp2_with fail
    generalize w9.setCell ⟨h1, 0, none⟩ (.slice Aj nj cj) = w10 at *
    rw [← hsz10] at rj10 rd10
    have hokJ : ∀ p ∈ cutA x1.toNat l ++ midR ins, p.size ≤ 140737488355328 := fun p hp => by
      rcases List.mem_append.1 hp with h | h
      · exact (ok_small HokA.out).2 p h
      · exact HokM.out p h
    have hnj2 : nj ≤ 61 := by rw [← hlj, List.length_append, Hla.out, Hlm.out]; omega
    have hj2 := join_own Aj Ad nj cj nd cd w10.heap.size (cutA x1.toNat l ++ midR ins) (cutB xd.toNat (cutB x1.toNat l)) hlj Hld.out (by omega) (by rw [← Hld.out]; exact (ok_small HokD.out).1) hokJ (ok_small HokD.out).2 w10 rj10 rd10 (Nat.le_refl _)
    have hE2 : E = joinE (cutA x1.toNat l ++ midR ins) (cutB xd.toNat (cutB x1.toNat l)) := by rw [HE.out]; unfold reditE; rw [if_neg (fun h => h Hc1.out), if_neg (fun h => h Hc2.out), if_neg (fun h => h Hc3.out), if_neg (fun h => h hc4)]
    have hL2 : L = if joinE (cutA x1.toNat l ++ midR ins) (cutB xd.toNat (cutB x1.toNat l)) = 0 then (cutA x1.toNat l ++ midR ins) ++ cutB xd.toNat (cutB x1.toNat l) else [] := by rw [HL.out, hE2]; rfl
    rw [← hL2, ← hE2] at hj2
    have Hj2 := Lib.hid hj2
    clear hj2 hE2 hL2 HE HL hc4 hokJ hlj rj10 rd10
    refine Hj2.out.mono ?_
    rintro e w11 ⟨A12, n12, c12, rfl, o12, hb12⟩
    have m11 := m10.after hb12
    have hbw11 := chain hb12 hbw10
    have hs10 := hbw10.size
    have cE : w11.cell? ⟨w.heap.size + 1 + 1, 0, none⟩ = some (.slice none 0 0) := m11.cell 0
    have fE : w11.frozen? ⟨w.heap.size + 1 + 1, 0, none⟩ = false := m11.frozen 0
    clear Hj2 hb12 hbw10
    go_wp2
    have x2 : (w11.setCell ⟨w.heap.size + 1 + 1, 0, none⟩ (.slice A12 n12 c12)).cell? ⟨w.heap.size + 1 + 1, 0, none⟩ = some (.slice A12 n12 c12) := (m11.set_ 0 (.slice A12 n12 c12)).cell 0
    refine bodyPost_ret (by simp [results, Try.results13, go_sem, x2]; try rfl) rfl ?_
    exact ⟨A12, n12, c12, rfl, (o12.weak (fun k hk => by have h1 : ¬ k < _ := (o12.lt k hk).1; show ¬ k < w.heap.size; omega)).far (o12.ne_blk m11 (by decide)) 0 _, hbw11.setCell (p := ⟨w.heap.size + 1 + 1, 0, none⟩) (by show w.heap.size ≤ w.heap.size + 1 + 1; omega) _⟩
  · have q3 : ins.toList.isEmpty = false := isEmpty_no hi
    go_wp2_with fail
    have m7 : Blk ((((w4.alloc (Obj.cells #[.slice Ac nc cc] 24)).alloc (Obj.cells #[.slice Ad nd cd] 24)).alloc (Obj.cells #[.slice (some ⟨w4.heap.size + 1 + 1 + 1, 0, none⟩) 1 1] 24)).alloc (Obj.cells #[.string ins] 9)) (w.heap.size + 1 + 1) 24 #[.slice none 0 0] := (m4.alloc _).alloc _
    have p7 : Blk ((((w4.alloc (Obj.cells #[.slice Ac nc cc] 24)).alloc (Obj.cells #[.slice Ad nd cd] 24)).alloc (Obj.cells #[.slice (some ⟨w4.heap.size + 1 + 1 + 1, 0, none⟩) 1 1] 24)).alloc (Obj.cells #[.string ins] 9)) w2.heap.size 24 #[.slice Aa na ca] := (p4.alloc _).alloc _
    have d7 : Blk ((((w4.alloc (Obj.cells #[.slice Ac nc cc] 24)).alloc (Obj.cells #[.slice Ad nd cd] 24)).alloc (Obj.cells #[.slice (some ⟨w4.heap.size + 1 + 1 + 1, 0, none⟩) 1 1] 24)).alloc (Obj.cells #[.string ins] 9)) (w4.heap.size + 1) 24 #[.slice Ad nd cd] := (d4.alloc _).alloc _
    have hb7 : Below ((w4.alloc (Obj.cells #[.slice Ac nc cc] 24)).alloc (Obj.cells #[.slice Ad nd cd] 24)).heap.size ((w4.alloc (Obj.cells #[.slice Ac nc cc] 24)).alloc (Obj.cells #[.slice Ad nd cd] 24)) ((((w4.alloc (Obj.cells #[.slice Ac nc cc] 24)).alloc (Obj.cells #[.slice Ad nd cd] 24)).alloc (Obj.cells #[.slice (some ⟨w4.heap.size + 1 + 1 + 1, 0, none⟩) 1 1] 24)).alloc (Obj.cells #[.string ins] 9)) := ((Below.refl _ _).alloc (Nat.le_refl _) _).alloc (by simp) _
    have hbw7 := chain hb7 hbw6
    have ra7 := ra6.after hb7
    have rd7 := rd6.after hb7
    have k7 : Blk ((((w4.alloc (Obj.cells #[.slice Ac nc cc] 24)).alloc (Obj.cells #[.slice Ad nd cd] 24)).alloc (Obj.cells #[.slice (some ⟨w4.heap.size + 1 + 1 + 1, 0, none⟩) 1 1] 24)).alloc (Obj.cells #[.string ins] 9)) (w4.heap.size + 1 + 1) 24 #[.slice (some ⟨w4.heap.size + 1 + 1 + 1, 0, none⟩) 1 1] := by
      have := (Blk.new ((w4.alloc (Obj.cells #[.slice Ac nc cc] 24)).alloc (Obj.cells #[.slice Ad nd cd] 24)) 24 #[.slice (some ⟨w4.heap.size + 1 + 1 + 1, 0, none⟩) 1 1]).alloc (Obj.cells #[.string ins] 9)
      rwa [hsz5] at this
    have hmi : midR ins = [ins] := by unfold midR; rw [if_neg hi]
    have rm : Reads ((((w4.alloc (Obj.cells #[.slice Ac nc cc] 24)).alloc (Obj.cells #[.slice Ad nd cd] 24)).alloc (Obj.cells #[.slice (some ⟨w4.heap.size + 1 + 1 + 1, 0, none⟩) 1 1] 24)).alloc (Obj.cells #[.string ins] 9)) ((((w4.alloc (Obj.cells #[.slice Ac nc cc] 24)).alloc (Obj.cells #[.slice Ad nd cd] 24)).alloc (Obj.cells #[.slice (some ⟨w4.heap.size + 1 + 1 + 1, 0, none⟩) 1 1] 24)).alloc (Obj.cells #[.string ins] 9)).heap.size (some ⟨w4.heap.size + 1 + 1 + 1, 0, none⟩) 1 1 ((midR ins).flatMap cStr) := by
      have := Reads.of_fresh (((w4.alloc (Obj.cells #[.slice Ac nc cc] 24)).alloc (Obj.cells #[.slice Ad nd cd] 24)).alloc (Obj.cells #[.slice (some ⟨w4.heap.size + 1 + 1 + 1, 0, none⟩) 1 1] 24)) #[.string ins] 9 1 1 rfl
      rw [show (((w4.alloc (Obj.cells #[.slice Ac nc cc] 24)).alloc (Obj.cells #[.slice Ad nd cd] 24)).alloc (Obj.cells #[.slice (some ⟨w4.heap.size + 1 + 1 + 1, 0, none⟩) 1 1] 24)).heap.size = w4.heap.size + 1 + 1 + 1 from by simp] at this
      rw [hmi]
      exact this.more (by simp)
    have hlm : (midR ins).length = 1 := by rw [hmi]; rfl
    clear m4 n4 p4 d4 z6 hbw6 ra6 rd6 hb7 hsz5 hmi q3
    generalize ((((w4.alloc (Obj.cells #[.slice Ac nc cc] 24)).alloc (Obj.cells #[.slice Ad nd cd] 24)).alloc (Obj.cells #[.slice (some ⟨w4.heap.size + 1 + 1 + 1, 0, none⟩) 1 1] 24)).alloc (Obj.cells #[.string ins] 9)) = w7 at *
    generalize w2.heap.size = h1 at *
    generalize w4.heap.size = h2 at *
    generalize (some ⟨h2 + 1 + 1 + 1, 0, none⟩ : Option Addr) = Am at *
    obtain ⟨nm, hnm⟩ : ∃ n : Nat, n = 1 := ⟨_, rfl⟩
    obtain ⟨cm, hcm'⟩ : ∃ n : Nat, n = 1 := ⟨_, rfl⟩
    have hnm1 : nm ≤ 1 := by omega
    rw [show (Value.slice Am 1 1) = Value.slice Am nm cm from by rw [hnm, hcm']] at k7
    rw [← hnm] at hlm
    rw [show (Value.slice Am 1 1) = Value.slice Am nm cm from by rw [hnm, hcm']]
    replace rm : Reads w7 w7.heap.size Am nm 1 ((midR ins).flatMap cStr) := by rw [hnm]; exact rm
    clear hnm hcm'
    have hokM : ∀ p ∈ midR ins, p.size ≤ 140737488355328 := fun p hp => by
      rw [mid_mem hp]; exact hx3
    have hcm := rcheck_any Am nm cm w7.heap.size (midR ins) hlm (by omega) hokM w7 rm (Nat.le_refl _)
    have Hcm := Lib.hid hcm
    have HokM := Lib.hid hokM
    have Hlm := Lib.hid hlm
    clear hcm hokM hlm
    by_cases hc3 : checkR (midR ins) = 0
    case neg =>
      have hE2 : E = checkR (midR ins) := by rw [HE.out]; unfold reditE; rw [if_neg (fun h => h Hc1.out), if_neg (fun h => h Hc2.out), if_pos hc3]
      obtain rfl : L = [] := by rw [HL.out, hE2, if_neg hc3]
      have q1 : (checkR (midR ins) != 0) = true := by simpa using hc3
      rw [← hE2] at q1 Hcm
      clear HE HL hc3 hE2 HokA HokB HokD Hc1 Hc2 Hla Hld Hlm HokM
      refine Hcm.out.mono ?_
      rintro e w8 ⟨rfl, hb8⟩
      have m8 := m7.after hb8
      have hbw8 := chain hb8 hbw7
      have cE : w8.cell? ⟨w.heap.size + 1 + 1, 0, none⟩ = some (.slice none 0 0) := m8.cell 0
      have fE : w8.frozen? ⟨w.heap.size + 1 + 1, 0, none⟩ = false := m8.frozen 0
      clear Hcm m7 p7 d7 k7 ra7 rd7 rm hb8 hbw7
      go_wp2
      have x2 : (w8.setCell ⟨w.heap.size + 1 + 1, 0, none⟩ (.slice none 0 0)).cell? ⟨w.heap.size + 1 + 1, 0, none⟩ = some (.slice none 0 0) := (m8.set_ 0 (.slice none 0 0)).cell 0
      refine bodyPost_ret (by simp [results, Try.results13, go_sem, x2]; try rfl) rfl ?_
      exact ⟨none, 0, 0, rfl, OwnS.nil _ _, hbw8.setCell (p := ⟨w.heap.size + 1 + 1, 0, none⟩) (by show w.heap.size ≤ w.heap.size + 1 + 1; omega) _⟩
    rw [hc3] at Hcm
    refine Hcm.out.mono ?_
    rintro e w8 ⟨rfl, hb8⟩
    have m8 := m7.after hb8
    have p8 := p7.after hb8
    have d8 := d7.after hb8
    have k8 := k7.after hb8
    have ra8 := ra7.after hb8
    have rd8 := rd7.after hb8
    have rm8 := rm.after hb8
    have hbw8 := chain hb8 hbw7
    have y1 : w8.cell? ⟨h1, 0, none⟩ = some (.slice Aa na ca) := p8.cell 0
    have y2 : w8.cell? ⟨h2 + 1 + 1, 0, none⟩ = some (.slice Am nm cm) := k8.cell 0
    have hj := join_ropes Aa Am na ca nm cm w8.heap.size (cutA x1.toNat l) (midR ins) Hla.out Hlm.out (by omega) (by omega) (ok_small HokA.out).2 HokM.out w8 ra8 rm8 (Nat.le_refl _)
    have Hj := Lib.hid hj
    have Hc3 := Lib.hid hc3
    clear Hcm m7 p7 d7 k7 ra7 rd7 rm hb8 hbw7 hj hc3 ra8 rm8
    go_wp2_with fail
    by_cases hc4 : joinE (cutA x1.toNat l) (midR ins) = 0
    case neg =>
      have hE2 : E = joinE (cutA x1.toNat l) (midR ins) := by rw [HE.out]; unfold reditE; rw [if_neg (fun h => h Hc1.out), if_neg (fun h => h Hc2.out), if_neg (fun h => h Hc3.out), if_pos hc4]
      obtain rfl : L = [] := by rw [HL.out, hE2, if_neg hc4]
      have q1 : (joinE (cutA x1.toNat l) (midR ins) != 0) = true := by simpa using hc4
      rw [if_neg hc4, ← hE2] at Hj
      rw [← hE2] at q1
      clear HE HL hc4 hE2 HokA HokB HokD Hc1 Hc2 Hc3 Hla Hld Hlm HokM
      refine Hj.out.mono ?_
      rintro e w9 ⟨Aj, nj, cj, rfl, hlj, hnj, rj, hb9⟩
      have m9 := m8.after hb9
      have p9 := p8.after hb9
      have hbw9 := (chain hb9 hbw8).setCell (p := ⟨h1, 0, none⟩) (by show w.heap.size ≤ h1; omega) (.slice Aj nj cj)
      have v1 : w9.cell? ⟨h1, 0, none⟩ = some (.slice Aa na ca) := p9.cell 0
      have v2 : w9.frozen? ⟨h1, 0, none⟩ = false := p9.frozen 0
      have m10 := m9.far (p := ⟨h1, 0, none⟩) (by show w.heap.size + 1 + 1 ≠ h1; omega) (.slice Aj nj cj)
      have cE : (w9.setCell ⟨h1, 0, none⟩ (.slice Aj nj cj)).cell? ⟨w.heap.size + 1 + 1, 0, none⟩ = some (.slice none 0 0) := m10.cell 0
      have fE : w9.frozen? ⟨w.heap.size + 1 + 1, 0, none⟩ = false := m9.frozen 0
      have cE' : w9.cell? ⟨w.heap.size + 1 + 1, 0, none⟩ = some (.slice none 0 0) := m9.cell 0
      clear Hj m8 p8 d8 k8 rd8 y1 y2 hb9 hbw8 rj hlj
      go_wp2
      have x2 : ((w9.setCell ⟨h1, 0, none⟩ (.slice Aj nj cj)).setCell ⟨w.heap.size + 1 + 1, 0, none⟩ (.slice none 0 0)).cell? ⟨w.heap.size + 1 + 1, 0, none⟩ = some (.slice none 0 0) := (m10.set_ 0 (.slice none 0 0)).cell 0
      refine bodyPost_ret (by simp [results, Try.results13, go_sem, x2]; try rfl) rfl ?_
      exact ⟨none, 0, 0, rfl, OwnS.nil _ _, hbw9.setCell (p := ⟨w.heap.size + 1 + 1, 0, none⟩) (by show w.heap.size ≤ w.heap.size + 1 + 1; omega) _⟩
    rw [if_pos hc4, hc4] at Hj
    refine Hj.out.mono ?_
    rintro e w9 ⟨Aj, nj, cj, rfl, hlj, hnj, rj, hb9⟩
    have m9 := m8.after hb9
    have p9 := p8.after hb9
    have d9 := d8.after hb9
    have rd9 := rd8.after hb9
    have hbw10 := (chain hb9 hbw8).setCell (p := ⟨h1, 0, none⟩) (by show w.heap.size ≤ h1; omega) (.slice Aj nj cj)
    have v1 : w9.cell? ⟨h1, 0, none⟩ = some (.slice Aa na ca) := p9.cell 0
    have v2 : w9.frozen? ⟨h1, 0, none⟩ = false := p9.frozen 0
    have m10 := m9.far (p := ⟨h1, 0, none⟩) (by show w.heap.size + 1 + 1 ≠ h1; omega) (.slice Aj nj cj)
    have d10 := d9.far (p := ⟨h1, 0, none⟩) (by show h2 + 1 ≠ h1; omega) (.slice Aj nj cj)
    have p10 : Blk (w9.setCell ⟨h1, 0, none⟩ (.slice Aj nj cj)) h1 24 #[.slice Aj nj cj] := p9.set_ 0 _
    have rj10 := rj.setNe (i := 0) (u := .slice Aj nj cj) hlj p9
    have rd10 := rd9.setNe (i := 0) (u := .slice Aj nj cj) Hld.out p9
    have hsz10 : (w9.setCell ⟨h1, 0, none⟩ (.slice Aj nj cj)).heap.size = w9.heap.size := size_setCell ..
    clear Hj m8 p8 d8 k8 rd8 y1 y2 hb9 hbw8 p9 m9 d9 rj rd9
    have v3 : (w9.setCell ⟨h1, 0, none⟩ (.slice Aj nj cj)).cell? ⟨h1, 0, none⟩ = some (.slice Aj nj cj) := p10.cell 0
    have v4 : (w9.setCell ⟨h1, 0, none⟩ (.slice Aj nj cj)).cell? ⟨h2 + 1, 0, none⟩ = some (.slice Ad nd cd) := d10.cell 0
    go_wp2_with fail
    generalize w9.setCell ⟨h1, 0, none⟩ (.slice Aj nj cj) = w10 at *
    rw [← hsz10] at rj10 rd10
    have hokJ : ∀ p ∈ cutA x1.toNat l ++ midR ins, p.size ≤ 140737488355328 := fun p hp => by
      rcases List.mem_append.1 hp with h | h
      · exact (ok_small HokA.out).2 p h
      · exact HokM.out p h
    have hnj2 : nj ≤ 61 := by rw [← hlj, List.length_append, Hla.out, Hlm.out]; omega
    have hj2 := join_own Aj Ad nj cj nd cd w10.heap.size (cutA x1.toNat l ++ midR ins) (cutB xd.toNat (cutB x1.toNat l)) hlj Hld.out (by omega) (by rw [← Hld.out]; exact (ok_small HokD.out).1) hokJ (ok_small HokD.out).2 w10 rj10 rd10 (Nat.le_refl _)
    have hE2 : E = joinE (cutA x1.toNat l ++ midR ins) (cutB xd.toNat (cutB x1.toNat l)) := by rw [HE.out]; unfold reditE; rw [if_neg (fun h => h Hc1.out), if_neg (fun h => h Hc2.out), if_neg (fun h => h Hc3.out), if_neg (fun h => h hc4)]
    have hL2 : L = if joinE (cutA x1.toNat l ++ midR ins) (cutB xd.toNat (cutB x1.toNat l)) = 0 then (cutA x1.toNat l ++ midR ins) ++ cutB xd.toNat (cutB x1.toNat l) else [] := by rw [HL.out, hE2]; rfl
    rw [← hL2, ← hE2] at hj2
    have Hj2 := Lib.hid hj2
    clear hj2 hE2 hL2 HE HL hc4 hokJ hlj rj10 rd10
    refine Hj2.out.mono ?_
    rintro e w11 ⟨A12, n12, c12, rfl, o12, hb12⟩
    have m11 := m10.after hb12
    have hbw11 := chain hb12 hbw10
    have hs10 := hbw10.size
    have cE : w11.cell? ⟨w.heap.size + 1 + 1, 0, none⟩ = some (.slice none 0 0) := m11.cell 0
    have fE : w11.frozen? ⟨w.heap.size + 1 + 1, 0, none⟩ = false := m11.frozen 0
    clear Hj2 hb12 hbw10
    go_wp2
    have x2 : (w11.setCell ⟨w.heap.size + 1 + 1, 0, none⟩ (.slice A12 n12 c12)).cell? ⟨w.heap.size + 1 + 1, 0, none⟩ = some (.slice A12 n12 c12) := (m11.set_ 0 (.slice A12 n12 c12)).cell 0
    refine bodyPost_ret (by simp [results, Try.results13, go_sem, x2]; try rfl) rfl ?_
    exact ⟨A12, n12, c12, rfl, (o12.weak (fun k hk => by have h1 : ¬ k < _ := (o12.lt k hk).1; show ¬ k < w.heap.size; omega)).far (o12.ne_blk m11 (by decide)) 0 _, hbw11.setCell (p := ⟨w.heap.size + 1 + 1, 0, none⟩) (by show w.heap.size ≤ w.heap.size + 1 + 1; omega) _⟩
theorem redit_any (A : Option Addr) (n c B : Nat) (l : List ByteArray) (x : Ed) (hx1 : -9223372036854775808 ≤ x.1 ∧ x.1 ≤ 9223372036854775807) (hx2 : -9223372036854775808 ≤ x.2.1 ∧ x.2.1 ≤ 9223372036854775807) (hx3 : x.2.2.size ≤ 140737488355328)
    (hl : l.length = n) (hnc : n ≤ c) (hn : n ≤ 1000000000000000) (hz : ∀ p ∈ l, p.size ≤ 140737488355328) (w : World) (r : Reads w B A n 1 (l.flatMap cStr)) (hB : B ≤ w.heap.size) :
    Calls Try.prog 13 #[ropeV A n c, .agg #[.int .i64 x.1, .int .i64 x.2.1, .string x.2.2]] w fun e w' => ToldRope w e w' (if reditE l x = 0 then reditL l x else []) (reditE l x) :=
  (redit_own A n c B l x hx1 hx2 hx3 hl hnc hn hz w r hB).mono fun _ _ h => h.weak
end Go.Proofs.Ytkeeggklgdinhaa
