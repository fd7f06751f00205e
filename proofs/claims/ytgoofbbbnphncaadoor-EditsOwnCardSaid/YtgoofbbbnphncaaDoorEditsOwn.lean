/- EditsOwn's walk: scripts and results derived from them do not share memory with arguments. -/
import Derived.Test.YtgoofbbbnphncaaDoorOwnEds
import Derived.Test.YtgoofbbbnphncaaDoorScripts
import Derived.Test.YtgoofbbbnphncaaDoorMerges
namespace Go.Proofs.YtgoofbbbnphncaaDoor
open Go.RowKit
set_option linter.unusedVariables false

theorem containsBad (A : Option Addr) (n c B : Nat) (l : List Ed) (w : World) (hn : n ≤ 140737488355328) (hl : l.length = n) (h : Reads w B A n 3 (l.flatMap cEdit)) (hB : B ≤ w.heap.size) (hv : (((-7 : Int), (0 : Int), (⟨#[]⟩ : ByteArray)) : Ed) ∉ l) :
    Calls Tryd.prog 37 #[.slice A n c, .agg #[.int .i64 (-7), .int .i64 0, .string ⟨#[]⟩]] w fun e w' => e = .returned (.bool false) ∧ Below w.heap.size w w' := containsEdit_no (-7) 0 ⟨#[]⟩ A n c B l w hn hl h hB hv

set_option maxRecDepth 100000 in
set_option maxHeartbeats 4000000 in
theorem editsOwn_walk (s : ByteArray) (A : Option Addr) (la ca : Nat) (a : List Ed) (A' : Option Addr) (lb cb : Nat) (b : List Ed) {w : World} (hs : s.size ≤ 140737488351232) (ha : EditsIn w A la ca a) (hb : EditsIn w A' lb cb b) (ht : Tab w) :
    Calls Tryd.prog 7 #[.string s, .slice A la ca, .slice A' lb cb] w fun e w' => e = .returned (.bool true) ∧ Below w.heap.size w w' := by
  have ea := edsAt_of ha
  have eb := edsAt_of hb
  have hka : la ≤ 4398046511104 := ea.small
  have hkb : lb ≤ 4398046511104 := eb.small
  have hla := ea.len
  have hlb := eb.len
  have oa : OkEds a := ea.ok
  have ob : OkEds b := eb.ok
  obtain ⟨E, hU⟩ := undo_e s hs A la ca a hla hka oa
  have U := Lib.hid hU
  have hn : -9223372036854775808 ≤ (s.size : Int) ∧ (s.size : Int) ≤ 9223372036854775807 := by omega
  have B1 := Lib.hid (fun w ra rb => both_e (s.size : Int) hn A A' la lb ca cb a b hka hkb hla hlb oa ob w ra rb)
  have B2 := Lib.hid (fun w ra rb => behind_e (s.size : Int) hn A A' la lb ca cb a b hka hkb hla hlb oa ob w ra rb)
  have B3 := Lib.hid (fun w ra rb => two_e (s.size : Int) hn A A' la lb ca cb a b hka hkb hla hlb oa ob w ra rb)
  have C1 := Lib.hid (fun w h hB => cloneEdit_any A la ca w.heap.size a hla (by omega) w h hB)
  have C2 := Lib.hid (fun w h hB => cloneEdit_any A' lb cb w.heap.size b hlb (by omega) w h hB)
  have E1 := Lib.hid (fun w A1 c1 B B' h h' => equalEdit_any A A1 la la ca c1 B B' a a w (by omega) (by omega) hla hla h h')
  have E2 := Lib.hid (fun w A1 c1 B B' h h' => equalEdit_any A' A1 lb lb cb c1 B B' b b w (by omega) (by omega) hlb hlb h h')
  rw [decide_eq_true rfl] at E1 E2
  have Hoa := Lib.hid oa
  have hra := ea.at_
  have hrb := eb.at_
  have Ea := Lib.hid ea
  have hbd : ∀ w : World, (Instr.build 42 #[(0, .int .i64 (-7))]).run Tryd.prog w = .ok (.agg #[.int .i64 (-7), .int .i64 0, .string ⟨#[]⟩]) w := fun w => run_build w 42 _ _ (by kernel_rfl)
  clear hla hlb oa ob hU hn ha hb ea eb
  go_enter Tryd.func7, Tryd.ntmps7
  go_wp2_with fail
  refine (edits_any _).mono ?_
  rintro e w1 ⟨rfl, hb1⟩
  go_wp2_with fail
  refine (merges_any _).mono ?_
  rintro e w2 ⟨rfl, hb2⟩
  have hb2 := chain hb2 hb1
  go_wp2_with fail
  refine (trims_any _).mono ?_
  rintro e w3 ⟨rfl, hb3⟩
  have hb3 := chain hb3 hb2
  go_wp2_with fail
  refine (scripts_any _ (ht.after hb3)).mono ?_
  rintro e w4 ⟨rfl, hb4⟩
  have hb4 := chain hb4 hb3
  clear hb1 hb2 hb3
  go_wp2_with fail
  refine (C1.out w4 ((hra.below hb4).more hb4.size) (Nat.le_refl _)).mono ?_
  rintro e w5 ⟨A1, c1, rfl, ho1, hb5⟩
  have hx1 := Reads.of_own ho1
  have hb5 := chain hb5 hb4
  go_wp2_with fail
  refine (C2.out w5 ((hrb.below hb5).more hb5.size) (Nat.le_refl _)).mono ?_
  rintro e w6 ⟨A2, c2, rfl, ho2, hb6⟩
  have hx1 := hx1.after hb6
  have hx2 := Reads.of_own ho2
  have hb6 := chain hb6 hb5
  clear ho1 ho2 hb4 hb5
  go_wp2_with fail
  have hbk := Blk.new w6 42 #[.int .i64 (-7), .int .i64 0, .string ⟨#[]⟩]
  have hW := hb6.alloc hb6.size (Obj.cells #[.int .i64 (-7), .int .i64 0, .string ⟨#[]⟩] 42)
  have hn1 := hx1.after ((Below.refl _ _).alloc (Nat.le_refl _) (Obj.cells #[.int .i64 (-7), .int .i64 0, .string ⟨#[]⟩] 42))
  have hn2 := hx2.after ((Below.refl _ _).alloc (Nat.le_refl _) (Obj.cells #[.int .i64 (-7), .int .i64 0, .string ⟨#[]⟩] 42))
  generalize w6.alloc (Obj.cells #[.int .i64 (-7), .int .i64 0, .string ⟨#[]⟩] 42) = V at *
  generalize w6.heap.size = g9 at *
  have hlt9 := hbk.lt
  have ra := (hra.below hW).more hW.size
  have rb := (hrb.below hW).more hW.size
  have hT := ht.after hW
  have hv0 : Below V.heap.size V V := Below.refl _ _
  clear hb6 hra hrb hx1 hx2
  refine (U.out V ((ra.below hv0).more hv0.size)).mono ?_
  rintro e v10 ⟨P, pc, p, rfl, ho10, _, _, hb10⟩
  have hv10 := chain hb10 hv0
  have bk10 := hbk.below hv10 hlt9
  have z0 : v10.cell? ⟨g9, 0, none⟩ = some (.int .i64 (-7)) := bk10.cell 0
  have z1 : v10.cell? ⟨g9, 1, none⟩ = some (.int .i64 0) := bk10.cell 1
  have z2 : v10.cell? ⟨g9, 2, none⟩ = some (.string ⟨#[]⟩) := bk10.cell 2
  go_wp2_with fail
  refine (spoil_e _ _ _ _ _ v10 ho10).mono ?_
  rintro e u10 ⟨rfl, hg10⟩
  have hu10 := chain (hb10.grown hg10 hb10.size (fun k hk => (ho10.lt k hk).1)) hv0
  clear hg10 ho10 hb10 hv10 bk10 z0 z1 z2
  go_wp2_with fail
  refine (B1.out u10 ((ra.below hu10).more hu10.size) ((rb.below hu10).more hu10.size)).mono ?_
  rintro e v11 ⟨P11, pn11, pc11, F11, xs11, rfl, ho11, hb11⟩
  have hv11 := chain hb11 hu10
  have bk11 := hbk.below hv11 hlt9
  have z0 : v11.cell? ⟨g9, 0, none⟩ = some (.int .i64 (-7)) := bk11.cell 0
  have z1 : v11.cell? ⟨g9, 1, none⟩ = some (.int .i64 0) := bk11.cell 1
  have z2 : v11.cell? ⟨g9, 2, none⟩ = some (.string ⟨#[]⟩) := bk11.cell 2
  go_wp2_with fail
  refine (spoil_e _ _ _ _ _ v11 ho11).mono ?_
  rintro e u11 ⟨rfl, hg11⟩
  have hu11 := chain (hb11.grown hg11 hb11.size (fun k hk => (ho11.lt k hk).1)) hu10
  clear hg11 ho11 hb11 hv11 bk11 z0 z1 z2
  go_wp2_with fail
  refine (B2.out u11 ((ra.below hu11).more hu11.size) ((rb.below hu11).more hu11.size)).mono ?_
  rintro e v12 ⟨P12, pn12, pc12, F12, xs12, rfl, ho12, hb12⟩
  have hv12 := chain hb12 hu11
  have bk12 := hbk.below hv12 hlt9
  have z0 : v12.cell? ⟨g9, 0, none⟩ = some (.int .i64 (-7)) := bk12.cell 0
  have z1 : v12.cell? ⟨g9, 1, none⟩ = some (.int .i64 0) := bk12.cell 1
  have z2 : v12.cell? ⟨g9, 2, none⟩ = some (.string ⟨#[]⟩) := bk12.cell 2
  go_wp2_with fail
  refine (spoil_e _ _ _ _ _ v12 ho12).mono ?_
  rintro e u12 ⟨rfl, hg12⟩
  have hu12 := chain (hb12.grown hg12 hb12.size (fun k hk => (ho12.lt k hk).1)) hu11
  clear hg12 ho12 hb12 hv12 bk12 z0 z1 z2
  go_wp2_with fail
  refine (B3.out u12 ((ra.below hu12).more hu12.size) ((rb.below hu12).more hu12.size)).mono ?_
  rintro e v13 ⟨P13, pn13, pc13, F13, xs13, rfl, ho13, hb13⟩
  have hv13 := chain hb13 hu12
  have bk13 := hbk.below hv13 hlt9
  have z0 : v13.cell? ⟨g9, 0, none⟩ = some (.int .i64 (-7)) := bk13.cell 0
  have z1 : v13.cell? ⟨g9, 1, none⟩ = some (.int .i64 0) := bk13.cell 1
  have z2 : v13.cell? ⟨g9, 2, none⟩ = some (.string ⟨#[]⟩) := bk13.cell 2
  go_wp2_with fail
  refine (spoil_e _ _ _ _ _ v13 ho13).mono ?_
  rintro e u13 ⟨rfl, hg13⟩
  have hu13 := chain (hb13.grown hg13 hb13.size (fun k hk => (ho13.lt k hk).1)) hu12
  clear hg13 ho13 hb13 hv13 bk13 z0 z1 z2
  go_wp2_with fail
  refine (write_e A la ca a u13 (hT.after hu13) ⟨Ea.out.len, Ea.out.small, Ea.out.ok, ((ra.below hu13).more hu13.size)⟩).mono ?_
  rintro e v14 ⟨t, F14, rfl, hts, hb14⟩
  have hv14 := chain hb14 hu13
  have bk14 := hbk.below hv14 hlt9
  have z0 : v14.cell? ⟨g9, 0, none⟩ = some (.int .i64 (-7)) := bk14.cell 0
  have z1 : v14.cell? ⟨g9, 1, none⟩ = some (.int .i64 0) := bk14.cell 1
  have z2 : v14.cell? ⟨g9, 2, none⟩ = some (.string ⟨#[]⟩) := bk14.cell 2
  clear z0 z1 z2 bk14 hb14
  go_wp2_with fail
  refine (read_e t hts v14).mono ?_
  rintro e v15 ⟨P15, pn15, pc15, F15, xs15, rfl, ho15, hb15⟩
  have hv15 := chain hb15 hv14
  have bk15 := hbk.below hv15 hlt9
  have z0 : v15.cell? ⟨g9, 0, none⟩ = some (.int .i64 (-7)) := bk15.cell 0
  have z1 : v15.cell? ⟨g9, 1, none⟩ = some (.int .i64 0) := bk15.cell 1
  have z2 : v15.cell? ⟨g9, 2, none⟩ = some (.string ⟨#[]⟩) := bk15.cell 2
  go_wp2_with fail
  refine (spoil_e _ _ _ _ _ v15 ho15).mono ?_
  rintro e u15 ⟨rfl, hg15⟩
  have hu15 := chain (hb15.grown hg15 hb15.size (fun k hk => (ho15.lt k hk).1)) hv14
  clear hg15 ho15 hb15 hv15 bk15 z0 z1 z2
  go_wp2_with fail
  refine (of_e s t hs hts u15).mono ?_
  rintro e v16 ⟨P16, pn16, pc16, F16, xs16, rfl, ho16, hb16⟩
  have hv16 := chain hb16 hu15
  have bk16 := hbk.below hv16 hlt9
  have z0 : v16.cell? ⟨g9, 0, none⟩ = some (.int .i64 (-7)) := bk16.cell 0
  have z1 : v16.cell? ⟨g9, 1, none⟩ = some (.int .i64 0) := bk16.cell 1
  have z2 : v16.cell? ⟨g9, 2, none⟩ = some (.string ⟨#[]⟩) := bk16.cell 2
  go_wp2_with fail
  refine (spoil_e _ _ _ _ _ v16 ho16).mono ?_
  rintro e u16 ⟨rfl, hg16⟩
  have hu16 := chain (hb16.grown hg16 hb16.size (fun k hk => (ho16.lt k hk).1)) hu15
  clear hg16 ho16 hb16 hv16 bk16 z0 z1 z2
  go_wp2_with fail
  refine (U.out u16 ((ra.below hu16).more hu16.size)).mono ?_
  rintro e y1 ⟨Q, qc, q, rfl, hoq, hnq, hql, hby⟩
  have hy1 := chain hby hu16
  have hqr := Reads.of_own hoq
  have q0 : (E == E) = true := by simp
  go_wp2_with fail
  refine (E1.out y1 A1 c1 V.heap.size V.heap.size (ra.below hy1) (hn1.below hy1)).mono ?_
  rintro e y2 ⟨rfl, hb2⟩
  have hqr := hqr.after hb2
  have hy2 := chain hb2 hy1
  clear hb2 hby hoq
  go_wp2_with fail
  refine (E2.out y2 A2 c2 V.heap.size V.heap.size (rb.below hy2) (hn2.below hy2)).mono ?_
  rintro e y3 ⟨rfl, hb3⟩
  have hqr := hqr.after hb3
  have hy3 := chain hb3 hy2
  have bk := hbk.below hy3 hlt9
  have z0 : y3.cell? ⟨g9, 0, none⟩ = some (.int .i64 (-7)) := bk.cell 0
  have z1 : y3.cell? ⟨g9, 1, none⟩ = some (.int .i64 0) := bk.cell 1
  have z2 : y3.cell? ⟨g9, 2, none⟩ = some (.string ⟨#[]⟩) := bk.cell 2
  go_wp2_with fail
  refine (containsBad Q q.length qc _ q y3 (by omega) rfl hqr (Nat.le_refl _) hnq).mono ?_
  rintro e y4 ⟨rfl, hb4⟩
  have hfin := chain (chain hb4 hy3) hW
  go_wp2
  go_ret
  exact ⟨by simp, hfin⟩
end Go.Proofs.YtgoofbbbnphncaaDoor
