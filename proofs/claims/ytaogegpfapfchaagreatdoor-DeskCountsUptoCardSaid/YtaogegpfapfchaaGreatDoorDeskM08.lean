import Derived.Test.YtaogegpfapfchaaGreatDoorDeskM07
import Derived.Test.YtaogegpfapfchaaGreatDoorDeskM01
import Derived.Deep.RegionHeld3
import Derived.Deep.DeepMust
/- Several texts in one: XWriteWalk XReadWalk XSlice XScripts. -/
/- The walk of script.Write. -/
namespace Go.Proofs.YtaogegpfapfchaaGreatDoor
open Go.RowKit
set_option linter.unusedVariables false

/-- What Write tells. -/
def ToldWrite (l : List Ed) (w : World) (e : Ending) (w' : World) : Prop :=
  Below w.heap.size w w' ∧ ((l.length ≤ 20 ∧ OkLs l ∧ ∃ b : ByteArray, b.data.toList = writeL l ∧ e = .returned (.tuple #[.string b, .int .i64 0])) ∨
    (¬ (l.length ≤ 20 ∧ OkLs l) ∧ ∃ E : Int, E ≠ 0 ∧ e = .returned (.tuple #[.string ⟨#[]⟩, .int .i64 E])))
/-- An edit that lies there by itself. -/
abbrev XAt (g : Nat) (a d : Int) (ins : ByteArray) (W : World) (w' : World) : Prop :=
  w'.cell? ⟨g, 0, none⟩ = some (.int .i64 a) ∧ w'.cell? ⟨g, 1, none⟩ = some (.int .i64 d) ∧ w'.cell? ⟨g, 2, none⟩ = some (.string ins) ∧ Tab w' ∧ g < w'.heap.size ∧ Below W.heap.size W w'
theorem XAt.on {g : Nat} {a d : Int} {ins : ByteArray} {W w1 w2 : World} (h : XAt g a d ins W w1) (hb : Below w1.heap.size w1 w2) : XAt g a d ins W w2 := by
  obtain ⟨h1, h2, h3, h4, h5, h6⟩ := h
  exact ⟨(hb.cell h5).trans h1, (hb.cell h5).trans h2, (hb.cell h5).trans h3, h4.after hb, Nat.lt_of_lt_of_le h5 hb.size, chain hb h6⟩

theorem itoa_k {n : Int} {D : ByteArray} {w : World} {K : Ending → World → Prop} (hI : Hid (∀ w, Tab w → Calls Tryz.prog 17 #[.int .i64 n] w fun e w' => e = .returned (.string D) ∧ Below w.heap.size w w')) {g : Nat} {a d : Int} {ins : ByteArray} {W : World} (ht : XAt g a d ins W w)
    (hk : ∀ w', Below w.heap.size w w' → K (.returned (.string D)) w') : Calls Tryz.prog 17 #[.int .i64 n] w K :=
  (hI.out w ht.2.2.2.1).mono fun e w' ⟨he, hb⟩ => by rw [he]; exact hk w' hb

set_option maxRecDepth 100000 in
set_option maxHeartbeats 4000000 in
theorem write_any (A : Option Addr) (len c B0 : Nat) (l : List Ed) (hlen : len ≤ 4398046511104) (hl : l.length = len) (ho : ∀ x ∈ l, (-9223372036854775808 ≤ x.1 ∧ x.1 ≤ 9223372036854775807) ∧ (-9223372036854775808 ≤ x.2.1 ∧ x.2.1 ≤ 9223372036854775807) ∧ (x.2.2).size ≤ 140737488351232)
    (w : World) (ht : Tab w) (h : Reads w B0 A len 3 (l.flatMap cEdit)) (hB0 : B0 ≤ w.heap.size) :
    Calls Tryz.prog 119 #[.slice A len c] w (ToldWrite l w) := by
  have C1 := Lib.hid (scheck_any A len c B0 l hlen hl ho w h hB0)
  have Hl := Lib.hid hl
  clear hl
  go_enter Tryz.func119, Tryz.ntmps119
  go_wp2_with fail
  refine C1.out.mono ?_
  rintro e w1 ⟨E, rfl, hE, hb1⟩
  by_cases h0 : E = 0
  case neg =>
    have q1 : (E != 0) = true := by simpa using h0
    have Hno := Lib.hid (fun g => h0 (hE.2 g))
    clear hE
    go_wp2
    go_ret2
    exact ⟨hb1, .inr ⟨Hno.out, E, h0, rfl⟩⟩
  subst h0
  have hok := hE.1 rfl
  obtain ⟨hl20, hokl⟩ := hok
  have Hok := Lib.hid hokl
  rw [Hl.out] at hl20
  clear hE hokl
  go_wp2
  go_loopw [5, 7, 15] (fun ov _ i wr => ∃ (k : Nat) (o : ByteArray), k ≤ len ∧ i = .int .i64 k ∧ ov = .string o ∧ Hid (o.data.toList = writeL (l.take k)) ∧ Below w.heap.size w wr) (fun _ _ i _ => len - (intOf i).toNat)
  case atStart => exact ⟨0, ⟨#[]⟩, Nat.zero_le _, rfl, rfl, Lib.hid rfl, hb1⟩
  case round =>
    clear hb1
    obtain ⟨k, out, hk, rfl, rfl, Hout, hbr⟩ := hrel
    by_cases hlt : k < len
    · have htr := ht.after hbr
      have h := h.below' hbr hB0
      obtain ⟨b, o, rfl, hbB, hc⟩ := h.2 (by omega)
      have c0 := hc (k * 3 + 0) (by rw [flat_length cEdit 3 cEdit_len, Hl.out]; omega)
      have c1 := hc (k * 3 + 1) (by rw [flat_length cEdit 3 cEdit_len, Hl.out]; omega)
      have c2 := hc (k * 3 + 2) (by rw [flat_length cEdit 3 cEdit_len, Hl.out]; omega)
      have dE : Ed := (0, 0, ByteArray.empty)
      rw [flat_getD cEdit 3 cEdit_len dE l k _ (by rw [Hl.out]; omega) (by omega)] at c0 c1 c2
      simp only [cEdit, List.getD_cons_zero, List.getD_cons_succ, Nat.add_zero, ← Nat.add_assoc] at c0 c1 c2
      have hmem : l.getD k dE ∈ l := by rw [getD_some _ _ _ (by rw [Hl.out]; omega)]; exact List.getElem_mem _
      have htk := take_succ_getD l k dE (by rw [Hl.out]; omega)
      have hox := Hok.out _ hmem
      have hol : out.size ≤ 1000 * k := by
        have e : out.size = out.data.toList.length := rfl
        have := write_len (l := l.take k) fun x hx => Hok.out x (List.mem_of_mem_take hx)
        rw [e, Hout.out]
        rw [List.length_take, Hl.out] at this; omega
      generalize l.getD k dE = x at *
      obtain ⟨at_, del, ins⟩ := x
      obtain ⟨⟨o1, o2⟩, ⟨o3, o4⟩, o5⟩ := hox
      simp only at c0 c1 c2 o1 o2 o3 o4 o5
      obtain ⟨a, rfl⟩ := Int.eq_ofNat_of_zero_le o1
      obtain ⟨d, rfl⟩ := Int.eq_ofNat_of_zero_le o3
      have hit : itemL ((a : Int), (d : Int), ins) = Lib.decDigits a ++ 32 :: (Lib.decDigits d ++ 32 :: (Lib.decDigits ins.size ++ 58 :: (ins.data.toList ++ [59]))) := rfl
      have Hit := Lib.hid hit
      have Htk := Lib.hid htk
      have l1 := dec_len (n := a) (by omega)
      have l2 := dec_len (n := d) (by omega)
      have l3 := dec_len (n := ins.size) (by omega)
      have i1 := fun w h => itoa_tab a (by omega) w h
      have i2 := fun w h => itoa_tab d (by omega) w h
      have i3 := fun w h => itoa_tab ins.size (by omega) w h
      obtain ⟨D1, hD1⟩ : ∃ D1 : ByteArray, D1 = ⟨(Lib.decDigits a).toArray⟩ := ⟨_, rfl⟩
      obtain ⟨D2, hD2⟩ : ∃ D2 : ByteArray, D2 = ⟨(Lib.decDigits d).toArray⟩ := ⟨_, rfl⟩
      obtain ⟨D3, hD3⟩ : ∃ D3 : ByteArray, D3 = ⟨(Lib.decDigits ins.size).toArray⟩ := ⟨_, rfl⟩
      rw [← hD1] at i1
      rw [← hD2] at i2
      rw [← hD3] at i3
      have s1 : D1.size ≤ 3 := by rw [hD1]; exact l1
      have s2 : D2.size ≤ 3 := by rw [hD2]; exact l2
      have s3 : D3.size ≤ 3 := by rw [hD3]; exact l3
      have HD1 := Lib.hid hD1
      have HD2 := Lib.hid hD2
      have HD3 := Lib.hid hD3
      have I1 := Lib.hid i1
      have I2 := Lib.hid i2
      have I3 := Lib.hid i3
      have z32 : (ByteArray.mk #[32]).size = 1 := rfl
      have z58 : (ByteArray.mk #[58]).size = 1 := rfl
      have z59 : (ByteArray.mk #[59]).size = 1 := rfl
      have a1 : ∀ w, (Op.stringOp .add D1 ⟨#[32]⟩).run Tryz.prog w = .ok (.string (D1 ++ ⟨#[32]⟩)) w := fun w => run_string_add_sum w _ _ (by omega)
      have a2 : ∀ w, (Op.stringOp .add (D1 ++ ⟨#[32]⟩) D2).run Tryz.prog w = .ok (.string (D1 ++ ⟨#[32]⟩ ++ D2)) w := fun w => run_string_add_sum w _ _ (by simp only [ByteArray.size_append]; omega)
      have a3 : ∀ w, (Op.stringOp .add (D1 ++ ⟨#[32]⟩ ++ D2) ⟨#[32]⟩).run Tryz.prog w = .ok (.string (D1 ++ ⟨#[32]⟩ ++ D2 ++ ⟨#[32]⟩)) w := fun w => run_string_add_sum w _ _ (by simp only [ByteArray.size_append]; omega)
      have a4 : ∀ w, (Op.stringOp .add (D1 ++ ⟨#[32]⟩ ++ D2 ++ ⟨#[32]⟩) D3).run Tryz.prog w = .ok (.string (D1 ++ ⟨#[32]⟩ ++ D2 ++ ⟨#[32]⟩ ++ D3)) w := fun w => run_string_add_sum w _ _ (by simp only [ByteArray.size_append]; omega)
      have a5 : ∀ w, (Op.stringOp .add (D1 ++ ⟨#[32]⟩ ++ D2 ++ ⟨#[32]⟩ ++ D3) ⟨#[58]⟩).run Tryz.prog w = .ok (.string (D1 ++ ⟨#[32]⟩ ++ D2 ++ ⟨#[32]⟩ ++ D3 ++ ⟨#[58]⟩)) w := fun w => run_string_add_sum w _ _ (by simp only [ByteArray.size_append]; omega)
      have a6 : ∀ w, (Op.stringOp .add (D1 ++ ⟨#[32]⟩ ++ D2 ++ ⟨#[32]⟩ ++ D3 ++ ⟨#[58]⟩) ins).run Tryz.prog w = .ok (.string (D1 ++ ⟨#[32]⟩ ++ D2 ++ ⟨#[32]⟩ ++ D3 ++ ⟨#[58]⟩ ++ ins)) w := fun w => run_string_add_sum w _ _ (by simp only [ByteArray.size_append]; omega)
      have a7 : ∀ w, (Op.stringOp .add (D1 ++ ⟨#[32]⟩ ++ D2 ++ ⟨#[32]⟩ ++ D3 ++ ⟨#[58]⟩ ++ ins) ⟨#[59]⟩).run Tryz.prog w = .ok (.string (D1 ++ ⟨#[32]⟩ ++ D2 ++ ⟨#[32]⟩ ++ D3 ++ ⟨#[58]⟩ ++ ins ++ ⟨#[59]⟩)) w := fun w => run_string_add_sum w _ _ (by simp only [ByteArray.size_append]; omega)
      have a8 : ∀ w, (Op.stringOp .add out (D1 ++ ⟨#[32]⟩ ++ D2 ++ ⟨#[32]⟩ ++ D3 ++ ⟨#[58]⟩ ++ ins ++ ⟨#[59]⟩)).run Tryz.prog w = .ok (.string (out ++ (D1 ++ ⟨#[32]⟩ ++ D2 ++ ⟨#[32]⟩ ++ D3 ++ ⟨#[58]⟩ ++ ins ++ ⟨#[59]⟩))) w := fun w => run_string_add_sum w _ _ (by simp only [ByteArray.size_append]; omega)
      have hall : (out ++ (D1 ++ ⟨#[32]⟩ ++ D2 ++ ⟨#[32]⟩ ++ D3 ++ ⟨#[58]⟩ ++ ins ++ ⟨#[59]⟩)).data.toList = writeL (l.take (k + 1)) := by
        rw [htk, writeL_app, writeL, writeL, hit, ← Hout.out, hD1, hD2, hD3]
        simp [ByteArray.data_append]
      have Hall := Lib.hid hall
      have hwr := hbr.size
      clear htk hit hD1 hD2 hD3 i1 i2 i3 l1 l2 l3 s1 s2 s3 z32 z58 z59 hc hall o1 o3 hmem
      go_wp2
      have K0 : XAt wr.heap.size (a : Int) (d : Int) ins w (wr.alloc (Obj.cells #[.int .i64 (a : Int), .int .i64 (d : Int), .string ins] 73)).drew := by
        refine ⟨?_, ?_, ?_, htr.after (((Below.refl _ _).alloc (Nat.le_refl _) _).drew), by show _ < (World.alloc _ _).heap.size; simp, (hbr.alloc hwr _).drew⟩ <;> (show (World.alloc _ _).cell? _ = _; rw [World.cell?_alloc_mark]; rfl)
      go_region_held3 (fun w' => XAt wr.heap.size (a : Int) (d : Int) ins w w')
        (first | exact K0 | assumption | exact XAt.on (by assumption) (by assumption))
        ((first
          | (go_at_call 17; refine itoa_k I1 (by assumption) ?_; intro w6 hb6)
          | (go_at_call 17; refine itoa_k I2 (by assumption) ?_; intro w6 hb6)
          | (go_at_call 17; refine itoa_k I3 (by assumption) ?_; intro w6 hb6)))
      rename_i hH
      have hbf := hH.2.2.2.2.2
      clear hH a1 a2 a3 a4 a5 a6 a7 a8 K0
      go_wp2
      go_roundw
      case rel => exact ⟨k + 1, _, by omega, by go_num, rfl, Hall, hbf⟩
      case measure => simp [intOf]; omega
    · obtain rfl : k = len := by omega
      have hfin : out.data.toList = writeL l := by rw [Hout.out, ← Hl.out, List.take_length]
      have Hfin := Lib.hid hfin
      clear hfin
      go_wp2
      go_ret2
      exact ⟨hbr, .inl ⟨by rw [Hl.out]; exact hl20, Hok.out, out, Hfin.out, rfl⟩⟩
end Go.Proofs.YtaogegpfapfchaaGreatDoor

/- The walk of script.Read. -/
namespace Go.Proofs.YtaogegpfapfchaaGreatDoor
open Go.RowKit
set_option linter.unusedVariables false

theorem infoEditR : (Tryz.prog.info? 73).map (fun i => (i.zero, i.size, i.bytes)) = some (some (.agg #[.int .i64 0, .int .i64 0, .string ⟨#[]⟩]), 3, 32) := by kernel_rfl
theorem flat_snocE (l : List Ed) (x : Ed) : (l ++ [x]).flatMap cEdit = l.flatMap cEdit ++ cEdit x := by simp
/-- What Read tells. -/
def ToldRead (s : List UInt8) (w : World) (e : Ending) (w' : World) : Prop :=
  Below w.heap.size w w' ∧ ((∃ (A : Option Addr) (c : Nat) (l : List Ed), ReadOk s l ∧ e = .returned (.tuple #[.slice A l.length c, .int .i64 0]) ∧ w'.ownsRow w.heap.size 73 3 (.slice A l.length c) l.length (l.flatMap cEdit)) ∨
    ((∀ l, ¬ ReadOk s l) ∧ e = .returned (.tuple #[.slice none 0 0, .int .i64 12])))

set_option maxRecDepth 100000 in
set_option maxHeartbeats 4000000 in
theorem read_any (s0 : ByteArray) (hs0 : s0.size ≤ 140737488351232) (w : World) :
    Calls Tryz.prog 124 #[.string s0] w (ToldRead s0.data.toList w) := by
  have hbd := buildEdit
  have Hbd := Lib.hid hbd
  clear hbd
  go_enter Tryz.func124, Tryz.ntmps124
  go_wp2
  go_loopw [0, 4, 5, 6, 7, 8, 9] (fun sv ov _ _ _ _ _ wr => ∃ (s : ByteArray) (o : List Ed) (n : Nat) (A : Option Addr) (c : Nat), sv = .string s ∧ ov = .slice A n c ∧ Hid (o.length = n) ∧ n ≤ 20 ∧ s.size ≤ s0.size ∧ Hid (s0.data.toList = writeL o ++ s.data.toList ∧ OkLs o) ∧
      wr.ownsRow w.heap.size 73 3 (.slice A n c) n (o.flatMap cEdit) ∧ Below w.heap.size w wr) (fun sv _ _ _ _ _ _ _ => (match sv with | .string s => s.size | _ => 0))
  case atStart => exact ⟨s0, [], 0, none, 0, rfl, rfl, Lib.hid rfl, by omega, Nat.le_refl _, Lib.hid ⟨rfl, fun x hx => by cases hx⟩, World.ownsRow_nil _ _ _ _, Below.refl _ _⟩
  case round =>
    obtain ⟨s, o, n, A, c, rfl, rfl, Hn, hn, hss, Ho, hown, hbr⟩ := hrel
    have hsl : s.data.toList.length = s.size := rfl
    by_cases hz : s.size = 0
    · have hnil : s.data.toList = [] := List.eq_nil_of_length_eq_zero hz
      have q0 : s.toList.isEmpty = true := by rw [ByteArray.toList_eq, hnil]; rfl
      have q0' : (!s.toList.isEmpty) = false := by rw [q0]; rfl
      have hrd : ReadOk s0.data.toList o := ⟨by rw [Ho.out.1, hnil, List.append_nil], by rw [Hn.out]; exact hn, Ho.out.2⟩
      have Hrd := Lib.hid hrd
      clear hrd hnil hsl
      go_wp2
      go_ret2
      refine ⟨hbr, .inl ⟨A, c, o, Hrd.out, by rw [Hn.out]; rfl, by rw [Hn.out]; exact hown⟩⟩
    have hne : s.data.toList ≠ [] := fun g => hz (by rw [← hsl, g]; rfl)
    have q0 : s.toList.isEmpty = false := by rw [ByteArray.toList_eq, List.isEmpty_eq_false_iff]; exact hne
    have q0' : (!s.toList.isEmpty) = true := by rw [q0]; rfl
    have hbad : (o.length = 20 ∨ NoHead s.data.toList) → ∀ w2, Below w.heap.size w w2 → ToldRead s0.data.toList w (.returned (.tuple #[.slice none 0 0, .int .i64 12])) w2 := fun h w2 hb => ⟨hb, .inr ⟨read_bad Ho.out.1 Ho.out.2 hne h, rfl⟩⟩
    have Hbad := Lib.hid hbad
    have hmeas : ∀ (x : Ed) (t : List UInt8), Heads s.data.toList x t → t.length < s.size := fun x t h => by
      have h1 := congrArg List.length h.1
      have h2 := List.length_pos_iff.2 (item_ne x)
      rw [List.length_append, hsl] at h1; omega
    have Hmeas := Lib.hid hmeas
    clear hne hbad hmeas hsl
    by_cases h20 : n = 20
    · have q1 : ((n : Int) == 20) = true := by rw [h20]; rfl
      have Hb := Lib.hid (Hbad.out (.inl (by rw [Hn.out, h20])))
      clear h20
      go_wp2
      go_ret2
      exact Hb.out _ hbr
    have q1 : ((n : Int) == 20) = false := by rw [beq_eq_false_iff_ne]; omega
    have N1 := Lib.hid (number_any s (by omega) 32 n32 200 (by decide))
    go_wp2_with fail
    refine (N1.out _).mono ?_
    rintro e w1 ⟨⟨k1, rfl⟩, h⟩
    have hbr := below_drewN hbr k1
    have hown := ownsRow_drewN hown k1
    generalize wr.drewN k1 = w1 at *
    rcases h with ⟨a, r1, rfl, h1⟩ | ⟨z, r1, rfl, h1⟩
    case inr =>
      have Hb := Lib.hid (Hbad.out (.inr (nohead1 h1)))
      clear h1
      go_wp2
      go_ret2
      exact Hb.out _ hbr
    have hr1 : r1.size ≤ s.size := by
      have := congrArg List.length h1.1
      rw [List.length_append, List.length_cons, show s.data.toList.length = s.size from rfl, show r1.data.toList.length = r1.size from rfl] at this; omega
    have ha := h1.2
    have H1 := Lib.hid h1
    clear h1 N1
    have N2 := Lib.hid (number_any r1 (by omega) 32 n32 200 (by decide))
    go_wp2_with fail
    refine (N2.out _).mono ?_
    rintro e w2 ⟨⟨k2, rfl⟩, h⟩
    have hbr := below_drewN hbr k2
    have hown := ownsRow_drewN hown k2
    generalize w1.drewN k2 = w2 at *
    rcases h with ⟨d, r2, rfl, h2⟩ | ⟨z, r2, rfl, h2⟩
    case inr =>
      have Hb := Lib.hid (Hbad.out (.inr (nohead2 H1.out h2)))
      clear h2
      go_wp2
      go_ret2
      exact Hb.out _ hbr
    have hr2 : r2.size ≤ r1.size := by
      have := congrArg List.length h2.1
      rw [List.length_append, List.length_cons, show r1.data.toList.length = r1.size from rfl, show r2.data.toList.length = r2.size from rfl] at this; omega
    have hd := h2.2
    have H2 := Lib.hid h2
    clear h2 N2
    have N3 := Lib.hid (number_any r2 (by omega) 58 n58 40 (by decide))
    go_wp2_with fail
    refine (N3.out _).mono ?_
    rintro e w3 ⟨⟨k3, rfl⟩, h⟩
    have hbr := below_drewN hbr k3
    have hown := ownsRow_drewN hown k3
    generalize w2.drewN k3 = w3 at *
    rcases h with ⟨m, r3, rfl, h3⟩ | ⟨z, r3, rfl, h3⟩
    case inr =>
      have Hb := Lib.hid (Hbad.out (.inr (nohead3 H1.out H2.out h3)))
      clear h3
      go_wp2
      go_ret2
      exact Hb.out _ hbr
    have hr3 : r3.size ≤ r2.size := by
      have := congrArg List.length h3.1
      rw [List.length_append, List.length_cons, show r2.data.toList.length = r2.size from rfl, show r3.data.toList.length = r3.size from rfl] at this; omega
    have hm := h3.2
    have H3 := Lib.hid h3
    clear h3 N3
    by_cases hlm : r3.size ≤ m
    · have q2 : decide ((r3.size : Int) ≤ (m : Int)) = true := decide_eq_true (by omega)
      have q2' : decide (r3.size ≤ m) = true := decide_eq_true hlm
      have Hb := Lib.hid (Hbad.out (.inr (nohead4 H1.out H2.out H3.out (fun g => by have := g.1; rw [show r3.data.toList.length = r3.size from rfl] at this; omega))))
      go_wp2
      go_ret2
      exact Hb.out _ hbr
    have q2 : decide ((r3.size : Int) ≤ (m : Int)) = false := decide_eq_false (by omega)
    have q2' : decide (r3.size ≤ m) = false := decide_eq_false hlm
    have hmr : m < r3.size := by omega
    have hmr' : (m : Int) < (r3.size : Int) := by omega
    have hgm := getD_bytes r3 m hmr
    by_cases h59 : r3[m] = 59
    case neg =>
      have q3 : ((r3[m].toNat : Int) != 59) = true := by rw [bne_iff_ne]; intro g; exact h59 (UInt8.toNat_inj.1 (by show r3[m].toNat = 59; omega))
      have Hb := Lib.hid (Hbad.out (.inr (nohead4 H1.out H2.out H3.out (fun g => h59 (by rw [← hgm]; exact g.2)))))
      clear hgm h59
      go_wp2
      go_ret2
      exact Hb.out _ hbr
    have q3 : ((r3[m].toNat : Int) != 59) = false := by rw [h59]; rfl
    have hins : (r3.extract 0 m).data.toList = r3.data.toList.take m := by rw [Lib.extract_data, List.drop_zero, Nat.sub_zero]
    obtain ⟨m', hm'⟩ : ∃ m', m + 1 = m' := ⟨_, rfl⟩
    have hrest : (r3.extract m' r3.size).data.toList = r3.data.toList.drop (m + 1) := by
      rw [Lib.extract_data, hm', List.take_of_length_le]; rw [List.length_drop]; exact Nat.le_refl _
    have hh := heads_of H1.out H2.out H3.out (show m < r3.data.toList.length from hmr) (by rw [hgm]; exact h59) (r3.extract 0 m) hins
    rw [← hrest] at hh
    have hmm := Hmeas.out _ _ hh
    rw [show (r3.extract m' r3.size).data.toList.length = (r3.extract m' r3.size).size from rfl] at hmm
    have Hh := Lib.hid hh
    have Hmm := Lib.hid hmm
    have him : (m : Int) + 1 = (m' : Int) := by omega
    have hmr2 : (m' : Int) ≤ (r3.size : Int) := by omega
    have hB3 := hbr.size
    have hbd := Hbd.out
    clear hgm h59 hins hrest hh hmm hm' H1 H2 H3 Hbad Hmeas
    go_wp2_with (first | (at_builtin; go_must (refine wpList_append_new _ 68 (.tmp 51) (.tmp 58) rfl rfl w.heap.size 73 infoEditR Tryz.underlying68 rfl (by decide) A n c _ rfl hown #[.int .i64 (a : Int), .int .i64 (d : Int), .string (r3.extract 0 m)] 1 rfl rfl (by simp [Value.oneCell']) (by unfold maxLen; omega) (by omega) hB3 ?_); intro A3 c3 w4 hown4 hb4 hg4))
    clear hbd
    go_wp2
    go_roundw
    case rel =>
      refine ⟨r3.extract m' r3.size, o ++ [((a : Int), (d : Int), r3.extract 0 m)], n + 1, A3, c3, rfl, rfl, Lib.hid (by rw [List.length_append, Hn.out]; rfl), by omega, by have := Hmm.out; omega, Lib.hid ⟨?_, fun x hx => ?_⟩, ?_, hbr.trans hb4⟩
      · rw [writeL_app, List.append_assoc, Ho.out.1, Hh.out.1]; simp [writeL]
      · rcases List.mem_append.1 hx with hx | hx
        · exact Ho.out.2 x hx
        · rw [List.mem_singleton.1 hx]; exact Hh.out.2
      · rw [flat_snocE]; exact hown4
    case measure => exact Hmm.out
end Go.Proofs.YtaogegpfapfchaaGreatDoor

/- Parts of slices that read as lists. -/
namespace Go.Proofs.YtaogegpfapfchaaGreatDoor
open Go.RowKit
set_option linter.unusedVariables false

section
variable {α : Type} {f : α → List Value} {size : Nat} {w : World} {B n : Nat} {A : Option Addr} {l : List α}
theorem flat_append_getD (f : α → List Value) (l m : List α) (j : Nat) (h : j < (l.flatMap f).length) : ((l ++ m).flatMap f).getD j undef = (l.flatMap f).getD j undef := by
  rw [List.flatMap_append, getD_app_left _ _ _ _ h]
theorem Reads.front (hf : ∀ x, (f x).length = size) (h : Reads w B A n size (l.flatMap f)) (hl : l.length = n) {k : Nat} (hk : k ≤ n) : Reads w B A k size ((l.take k).flatMap f) := by
  have hlk : ((l.take k).flatMap f).length = k * size := by rw [flat_length f size hf, List.length_take, Nat.min_eq_left (by omega)]
  refine ⟨hlk, fun hk0 => ?_⟩
  obtain ⟨b, o, e, hb, hc⟩ := h.2 (by omega)
  refine ⟨b, o, e, hb, fun j hj => ?_⟩
  have hle : k * size ≤ n * size := Nat.mul_le_mul_right _ hk
  have := hc j (by rw [h.1]; omega)
  rw [this]
  have e2 := flat_append_getD f (l.take k) (l.drop k) j hj
  rw [List.take_append_drop] at e2
  rw [e2]
theorem Reads.back {b o : Nat} (hf : ∀ x, (f x).length = size) (h : Reads w B (some ⟨b, o, none⟩) n size (l.flatMap f)) (hl : l.length = n) {k : Nat} (hk : k ≤ n) : Reads w B (some ⟨b, o + k * size, none⟩) (n - k) size ((l.drop k).flatMap f) := by
  have hlk : ((l.drop k).flatMap f).length = (n - k) * size := by rw [flat_length f size hf, List.length_drop, hl]
  have hlt : ((l.take k).flatMap f).length = k * size := by rw [flat_length f size hf, List.length_take, Nat.min_eq_left (by omega)]
  refine ⟨hlk, fun hk0 => ?_⟩
  obtain ⟨b', o', e, hb, hc⟩ := h.2 (by omega)
  injection e with e
  injection e with e1 e2 _
  subst e1 e2
  refine ⟨b, o + k * size, rfl, hb, fun j hj => ?_⟩
  have hsum : k * size + (n - k) * size = n * size := by rw [← Nat.add_mul]; congr 1; omega
  have := hc (k * size + j) (by rw [h.1]; omega)
  rw [Nat.add_assoc, this]
  have e2 : l.flatMap f = (l.take k).flatMap f ++ (l.drop k).flatMap f := by rw [← List.flatMap_append, List.take_append_drop]
  rw [e2, getD_app_right _ _ _ _ (by omega), hlt, Nat.add_sub_cancel_left]
end
theorem Reads.made (w : World) (cs : Array Value) (T : TypeId) (n size : Nat) (h : cs.size = n * size) : Reads (w.alloc (.cells cs T)) (w.alloc (.cells cs T)).heap.size (some ⟨w.heap.size, 0, none⟩) n size cs.toList :=
  (Reads.of_fresh w cs T n size h).more (by simp)

section
variable {α : Type} {f : α → List Value} {size : Nat} {w : World} {B n cap : Nat} {A : Option Addr} {l : List α} {P : Program}
/-- 'l[k:]', however the slice is laid. -/
theorem slice_back (t : TypeId) (ht : P.underlying t = some (.slice (P.elem t))) (hsz : ∀ w, (sizeOf (P.elem t)).run P w = .ok size w) (hf : ∀ x, (f x).length = size) (h : Reads w B A n size (l.flatMap f)) (hl : l.length = n) {k : Nat} (hk : k ≤ n) (hc : n ≤ cap) :
    ∃ A' c', n - k ≤ c' ∧ (∀ w', (Instr.slice t (.slice A n cap) (some (.int .i64 (k : Int))) none none).run P w' = .ok (.slice A' (n - k) c') w') ∧ Reads w B A' (n - k) size ((l.drop k).flatMap f) := by
  refine ⟨if cap = k then A else A.map (·.add (k * size)), cap - k, by omega, fun w' => ?_, ?_⟩
  · rw [run_slice_l w' t A n cap ht .i64 (k : Int) (by omega) (by omega), hsz, Int.toNat_natCast]; rfl
  · rcases Nat.eq_or_lt_of_le hk with hkn | hkn
    · subst hkn
      rw [Nat.sub_self, List.drop_of_length_le (by omega)]
      exact Reads.empty
    · obtain ⟨b, o, e, _⟩ := h.2 (by omega)
      subst e
      rw [if_neg (by omega)]
      show Reads w B (some (Addr.add ⟨b, o, none⟩ (k * size))) (n - k) size _
      rw [add_at]
      exact h.back hf hl hk
/-- 'l[:k]'. -/
theorem slice_front (t : TypeId) (ht : P.underlying t = some (.slice (P.elem t))) (hsz : ∀ w, (sizeOf (P.elem t)).run P w = .ok size w) (hf : ∀ x, (f x).length = size) (h : Reads w B A n size (l.flatMap f)) (hl : l.length = n) {k : Nat} (hk : k ≤ n) (hc : n ≤ cap) :
    ∃ A', (∀ w', (Instr.slice t (.slice A n cap) none (some (.int .i64 (k : Int))) none).run P w' = .ok (.slice A' k cap) w') ∧ Reads w B A' k size ((l.take k).flatMap f) := by
  refine ⟨if cap = 0 then A else A.map (·.add 0), fun w' => ?_, ?_⟩
  · rw [run_slice_h w' t A n cap ht .i64 (k : Int) (by omega) (by omega), hsz, Int.toNat_natCast]
    show Result.ok (sliced A 0 k cap size) w' = _
    rw [sliced, Nat.zero_mul]; rfl
  · rcases Nat.eq_zero_or_pos k with hk0 | hk0
    · subst hk0
      rw [List.take_zero]
      exact Reads.empty
    · obtain ⟨b, o, e, _⟩ := h.2 (by omega)
      subst e
      rw [if_neg (by omega)]
      show Reads w B (some (Addr.add ⟨b, o, none⟩ 0)) k size _
      rw [add_at]
      exact h.front hf hl hk
end

end Go.Proofs.YtaogegpfapfchaaGreatDoor

/- The walk of the laws' helper scripts. -/
namespace Go.Proofs.YtaogegpfapfchaaGreatDoor
open Go.RowKit
set_option linter.unusedVariables false

theorem scripts_known : writeL [(3, 2, ⟨#[97, 59]⟩), (9, 1, ⟨#[]⟩)] = [51, 32, 50, 32, 50, 58, 97, 59, 59, 57, 32, 49, 32, 48, 58, 59] := by decide +kernel
end Go.Proofs.YtaogegpfapfchaaGreatDoor

