/- The walk of script.Write. -/
import Derived.Test.YtigbnldmjafgmaaDoorScriptWalk
import Derived.Test.YtigbnldmjafgmaaDoorTab
import Derived.Deep.RegionHeld3
namespace Go.Proofs.YtigbnldmjafgmaaDoor
open Go.RowKit
set_option linter.unusedVariables false

/-- What Write tells. -/
def ToldWrite (l : List Ed) (w : World) (e : Ending) (w' : World) : Prop :=
  Below w.heap.size w w' ∧ ((l.length ≤ 20 ∧ OkLs l ∧ ∃ b : ByteArray, b.data.toList = writeL l ∧ e = .returned (.tuple #[.string b, .int .i64 0])) ∨
    (¬ (l.length ≤ 20 ∧ OkLs l) ∧ ∃ E : Int, E ≠ 0 ∧ e = .returned (.tuple #[.string ⟨#[]⟩, .int .i64 E])))
/-- An edit that lies there by itself. -/
abbrev XAt (g : Nat) (a d : Int) (ins : ByteArray) (W : World) (w' : World) : Prop :=
  w'.cell? ⟨g, 0, none⟩ = some (.int .i64 a) ∧ w'.cell? ⟨g, 1, none⟩ = some (.int .i64 d) ∧ w'.cell? ⟨g, 2, none⟩ = some (.string ins) ∧ Tab w' ∧ g < w'.heap.size ∧ Below W.heap.size W w'
theorem XAt.on {g : Nat} {a d : Int} {ins : ByteArray} {W w1 w2 : World} (h : XAt g a d ins W w1) (hb : Below w1.heap.size w1 w2) : XAt g a d ins W w2 := by
  obtain ⟨h1, h2, h3, h4, h5, h6⟩ := h
  exact ⟨(hb.cell h5).trans h1, (hb.cell h5).trans h2, (hb.cell h5).trans h3, h4.after hb, Nat.lt_of_lt_of_le h5 hb.size, chain hb h6⟩

theorem itoa_k {n : Int} {D : ByteArray} {w : World} {K : Ending → World → Prop} (hI : Hid (∀ w, Tab w → Calls Tryd.prog 97 #[.int .i64 n] w fun e w' => e = .returned (.string D) ∧ Below w.heap.size w w')) {g : Nat} {a d : Int} {ins : ByteArray} {W : World} (ht : XAt g a d ins W w)
    (hk : ∀ w', Below w.heap.size w w' → K (.returned (.string D)) w') : Calls Tryd.prog 97 #[.int .i64 n] w K :=
  (hI.out w ht.2.2.2.1).mono fun e w' ⟨he, hb⟩ => by rw [he]; exact hk w' hb

set_option maxRecDepth 100000 in
set_option maxHeartbeats 4000000 in
theorem write_any (A : Option Addr) (len c B0 : Nat) (l : List Ed) (hlen : len ≤ 4398046511104) (hl : l.length = len) (ho : ∀ x ∈ l, (-9223372036854775808 ≤ x.1 ∧ x.1 ≤ 9223372036854775807) ∧ (-9223372036854775808 ≤ x.2.1 ∧ x.2.1 ≤ 9223372036854775807) ∧ (x.2.2).size ≤ 140737488351232)
    (w : World) (ht : Tab w) (h : Reads w B0 A len 3 (l.flatMap cEdit)) (hB0 : B0 ≤ w.heap.size) :
    Calls Tryd.prog 78 #[.slice A len c] w (ToldWrite l w) := by
  have C1 := Lib.hid (scheck_any A len c B0 l hlen hl ho w h hB0)
  have Hl := Lib.hid hl
  clear hl
  go_enter Tryd.func78, Tryd.ntmps78
  go_wp2_with fail
  refine C1.out.mono ?_
  rintro e w1 ⟨E, rfl, hE, hb1⟩
  by_cases h0 : E = 0
  case neg =>
    have q1 : (E != 0) = true := by simpa using h0
    have Hno := Lib.hid (fun g => h0 (hE.2 g))
    clear hE
    go_wp2
    go_ret2
    exact ⟨hb1, .inr ⟨Hno.out, E, h0, rfl⟩⟩
  subst h0
  have hok := hE.1 rfl
  obtain ⟨hl20, hokl⟩ := hok
  have Hok := Lib.hid hokl
  rw [Hl.out] at hl20
  clear hE hokl
  go_wp2
  go_loopw [5, 7, 15] (fun ov _ i wr => ∃ (k : Nat) (o : ByteArray), k ≤ len ∧ i = .int .i64 k ∧ ov = .string o ∧ Hid (o.data.toList = writeL (l.take k)) ∧ Below w.heap.size w wr) (fun _ _ i _ => len - (intOf i).toNat)
  case atStart => exact ⟨0, ⟨#[]⟩, Nat.zero_le _, rfl, rfl, Lib.hid rfl, hb1⟩
  case round =>
    clear hb1
    obtain ⟨k, out, hk, rfl, rfl, Hout, hbr⟩ := hrel
    by_cases hlt : k < len
    · have htr := ht.after hbr
      have h := h.below' hbr hB0
      obtain ⟨b, o, rfl, hbB, hc⟩ := h.2 (by omega)
      have c0 := hc (k * 3 + 0) (by rw [flat_length cEdit 3 cEdit_len, Hl.out]; omega)
      have c1 := hc (k * 3 + 1) (by rw [flat_length cEdit 3 cEdit_len, Hl.out]; omega)
      have c2 := hc (k * 3 + 2) (by rw [flat_length cEdit 3 cEdit_len, Hl.out]; omega)
      have dE : Ed := (0, 0, ByteArray.empty)
      rw [flat_getD cEdit 3 cEdit_len dE l k _ (by rw [Hl.out]; omega) (by omega)] at c0 c1 c2
      simp only [cEdit, List.getD_cons_zero, List.getD_cons_succ, Nat.add_zero, ← Nat.add_assoc] at c0 c1 c2
      have hmem : l.getD k dE ∈ l := by rw [getD_some _ _ _ (by rw [Hl.out]; omega)]; exact List.getElem_mem _
      have htk := take_succ_getD l k dE (by rw [Hl.out]; omega)
      have hox := Hok.out _ hmem
      have hol : out.size ≤ 1000 * k := by
        have e : out.size = out.data.toList.length := rfl
        have := write_len (l := l.take k) fun x hx => Hok.out x (List.mem_of_mem_take hx)
        rw [e, Hout.out]
        rw [List.length_take, Hl.out] at this; omega
      generalize l.getD k dE = x at *
      obtain ⟨at_, del, ins⟩ := x
      obtain ⟨⟨o1, o2⟩, ⟨o3, o4⟩, o5⟩ := hox
      simp only at c0 c1 c2 o1 o2 o3 o4 o5
      obtain ⟨a, rfl⟩ := Int.eq_ofNat_of_zero_le o1
      obtain ⟨d, rfl⟩ := Int.eq_ofNat_of_zero_le o3
      have hit : itemL ((a : Int), (d : Int), ins) = Lib.decDigits a ++ 32 :: (Lib.decDigits d ++ 32 :: (Lib.decDigits ins.size ++ 58 :: (ins.data.toList ++ [59]))) := rfl
      have Hit := Lib.hid hit
      have Htk := Lib.hid htk
      have l1 := dec_len (n := a) (by omega)
      have l2 := dec_len (n := d) (by omega)
      have l3 := dec_len (n := ins.size) (by omega)
      have i1 := fun w h => itoa_tab a (by omega) w h
      have i2 := fun w h => itoa_tab d (by omega) w h
      have i3 := fun w h => itoa_tab ins.size (by omega) w h
      obtain ⟨D1, hD1⟩ : ∃ D1 : ByteArray, D1 = ⟨(Lib.decDigits a).toArray⟩ := ⟨_, rfl⟩
      obtain ⟨D2, hD2⟩ : ∃ D2 : ByteArray, D2 = ⟨(Lib.decDigits d).toArray⟩ := ⟨_, rfl⟩
      obtain ⟨D3, hD3⟩ : ∃ D3 : ByteArray, D3 = ⟨(Lib.decDigits ins.size).toArray⟩ := ⟨_, rfl⟩
      rw [← hD1] at i1
      rw [← hD2] at i2
      rw [← hD3] at i3
      have s1 : D1.size ≤ 3 := by rw [hD1]; exact l1
      have s2 : D2.size ≤ 3 := by rw [hD2]; exact l2
      have s3 : D3.size ≤ 3 := by rw [hD3]; exact l3
      have HD1 := Lib.hid hD1
      have HD2 := Lib.hid hD2
      have HD3 := Lib.hid hD3
      have I1 := Lib.hid i1
      have I2 := Lib.hid i2
      have I3 := Lib.hid i3
      have z32 : (ByteArray.mk #[32]).size = 1 := rfl
      have z58 : (ByteArray.mk #[58]).size = 1 := rfl
      have z59 : (ByteArray.mk #[59]).size = 1 := rfl
      have a1 : ∀ w, (Op.stringOp .add D1 ⟨#[32]⟩).run Tryd.prog w = .ok (.string (D1 ++ ⟨#[32]⟩)) w := fun w => run_string_add_sum w _ _ (by omega)
      have a2 : ∀ w, (Op.stringOp .add (D1 ++ ⟨#[32]⟩) D2).run Tryd.prog w = .ok (.string (D1 ++ ⟨#[32]⟩ ++ D2)) w := fun w => run_string_add_sum w _ _ (by simp only [ByteArray.size_append]; omega)
      have a3 : ∀ w, (Op.stringOp .add (D1 ++ ⟨#[32]⟩ ++ D2) ⟨#[32]⟩).run Tryd.prog w = .ok (.string (D1 ++ ⟨#[32]⟩ ++ D2 ++ ⟨#[32]⟩)) w := fun w => run_string_add_sum w _ _ (by simp only [ByteArray.size_append]; omega)
      have a4 : ∀ w, (Op.stringOp .add (D1 ++ ⟨#[32]⟩ ++ D2 ++ ⟨#[32]⟩) D3).run Tryd.prog w = .ok (.string (D1 ++ ⟨#[32]⟩ ++ D2 ++ ⟨#[32]⟩ ++ D3)) w := fun w => run_string_add_sum w _ _ (by simp only [ByteArray.size_append]; omega)
      have a5 : ∀ w, (Op.stringOp .add (D1 ++ ⟨#[32]⟩ ++ D2 ++ ⟨#[32]⟩ ++ D3) ⟨#[58]⟩).run Tryd.prog w = .ok (.string (D1 ++ ⟨#[32]⟩ ++ D2 ++ ⟨#[32]⟩ ++ D3 ++ ⟨#[58]⟩)) w := fun w => run_string_add_sum w _ _ (by simp only [ByteArray.size_append]; omega)
      have a6 : ∀ w, (Op.stringOp .add (D1 ++ ⟨#[32]⟩ ++ D2 ++ ⟨#[32]⟩ ++ D3 ++ ⟨#[58]⟩) ins).run Tryd.prog w = .ok (.string (D1 ++ ⟨#[32]⟩ ++ D2 ++ ⟨#[32]⟩ ++ D3 ++ ⟨#[58]⟩ ++ ins)) w := fun w => run_string_add_sum w _ _ (by simp only [ByteArray.size_append]; omega)
      have a7 : ∀ w, (Op.stringOp .add (D1 ++ ⟨#[32]⟩ ++ D2 ++ ⟨#[32]⟩ ++ D3 ++ ⟨#[58]⟩ ++ ins) ⟨#[59]⟩).run Tryd.prog w = .ok (.string (D1 ++ ⟨#[32]⟩ ++ D2 ++ ⟨#[32]⟩ ++ D3 ++ ⟨#[58]⟩ ++ ins ++ ⟨#[59]⟩)) w := fun w => run_string_add_sum w _ _ (by simp only [ByteArray.size_append]; omega)
      have a8 : ∀ w, (Op.stringOp .add out (D1 ++ ⟨#[32]⟩ ++ D2 ++ ⟨#[32]⟩ ++ D3 ++ ⟨#[58]⟩ ++ ins ++ ⟨#[59]⟩)).run Tryd.prog w = .ok (.string (out ++ (D1 ++ ⟨#[32]⟩ ++ D2 ++ ⟨#[32]⟩ ++ D3 ++ ⟨#[58]⟩ ++ ins ++ ⟨#[59]⟩))) w := fun w => run_string_add_sum w _ _ (by simp only [ByteArray.size_append]; omega)
      have hall : (out ++ (D1 ++ ⟨#[32]⟩ ++ D2 ++ ⟨#[32]⟩ ++ D3 ++ ⟨#[58]⟩ ++ ins ++ ⟨#[59]⟩)).data.toList = writeL (l.take (k + 1)) := by
        rw [htk, writeL_app, writeL, writeL, hit, ← Hout.out, hD1, hD2, hD3]
        simp [ByteArray.data_append]
      have Hall := Lib.hid hall
      have hwr := hbr.size
      clear htk hit hD1 hD2 hD3 i1 i2 i3 l1 l2 l3 s1 s2 s3 z32 z58 z59 hc hall o1 o3 hmem
      go_wp2
      have K0 : XAt wr.heap.size (a : Int) (d : Int) ins w (wr.alloc (Obj.cells #[.int .i64 (a : Int), .int .i64 (d : Int), .string ins] 89)).drew := by
        refine ⟨?_, ?_, ?_, htr.after (((Below.refl _ _).alloc (Nat.le_refl _) _).drew), by show _ < (World.alloc _ _).heap.size; simp, (hbr.alloc hwr _).drew⟩ <;> (show (World.alloc _ _).cell? _ = _; rw [World.cell?_alloc_mark]; rfl)
      go_region_held3 (fun w' => XAt wr.heap.size (a : Int) (d : Int) ins w w')
        (first | exact K0 | assumption | exact XAt.on (by assumption) (by assumption))
        ((first
          | (go_at_call 97; refine itoa_k I1 (by assumption) ?_; intro w6 hb6)
          | (go_at_call 97; refine itoa_k I2 (by assumption) ?_; intro w6 hb6)
          | (go_at_call 97; refine itoa_k I3 (by assumption) ?_; intro w6 hb6)))
      rename_i hH
      have hbf := hH.2.2.2.2.2
      clear hH a1 a2 a3 a4 a5 a6 a7 a8 K0
      go_wp2
      go_roundw
      case rel => exact ⟨k + 1, _, by omega, by go_num, rfl, Hall, hbf⟩
      case measure => simp [intOf]; omega
    · obtain rfl : k = len := by omega
      have hfin : out.data.toList = writeL l := by rw [Hout.out, ← Hl.out, List.take_length]
      have Hfin := Lib.hid hfin
      clear hfin
      go_wp2
      go_ret2
      exact ⟨hbr, .inl ⟨by rw [Hl.out]; exact hl20, Hok.out, out, Hfin.out, rfl⟩⟩
end Go.Proofs.YtigbnldmjafgmaaDoor
