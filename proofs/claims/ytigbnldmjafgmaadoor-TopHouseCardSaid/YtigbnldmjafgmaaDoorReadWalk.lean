/- The walk of script.Read. -/
import Derived.Test.YtigbnldmjafgmaaDoorScriptWalk
import Derived.Deep.DeepMust
namespace Go.Proofs.YtigbnldmjafgmaaDoor
open Go.RowKit
set_option linter.unusedVariables false

theorem infoEditR : (Tryd.prog.info? 89).map (fun i => (i.zero, i.size, i.bytes)) = some (some (.agg #[.int .i64 0, .int .i64 0, .string ⟨#[]⟩]), 3, 32) := by kernel_rfl
theorem flat_snocE (l : List Ed) (x : Ed) : (l ++ [x]).flatMap cEdit = l.flatMap cEdit ++ cEdit x := by simp
/-- What Read tells. -/
def ToldRead (s : List UInt8) (w : World) (e : Ending) (w' : World) : Prop :=
  Below w.heap.size w w' ∧ ((∃ (A : Option Addr) (c : Nat) (l : List Ed), ReadOk s l ∧ e = .returned (.tuple #[.slice A l.length c, .int .i64 0]) ∧ w'.ownsRow w.heap.size 89 3 (.slice A l.length c) l.length (l.flatMap cEdit)) ∨
    ((∀ l, ¬ ReadOk s l) ∧ e = .returned (.tuple #[.slice none 0 0, .int .i64 12])))

set_option maxRecDepth 100000 in
set_option maxHeartbeats 4000000 in
theorem read_any (s0 : ByteArray) (hs0 : s0.size ≤ 140737488351232) (w : World) :
    Calls Tryd.prog 82 #[.string s0] w (ToldRead s0.data.toList w) := by
  have hbd := buildEdit
  have Hbd := Lib.hid hbd
  clear hbd
  go_enter Tryd.func82, Tryd.ntmps82
  go_wp2
  go_loopw [0, 4, 5, 6, 7, 8, 9] (fun sv ov _ _ _ _ _ wr => ∃ (s : ByteArray) (o : List Ed) (n : Nat) (A : Option Addr) (c : Nat), sv = .string s ∧ ov = .slice A n c ∧ Hid (o.length = n) ∧ n ≤ 20 ∧ s.size ≤ s0.size ∧ Hid (s0.data.toList = writeL o ++ s.data.toList ∧ OkLs o) ∧
      wr.ownsRow w.heap.size 89 3 (.slice A n c) n (o.flatMap cEdit) ∧ Below w.heap.size w wr) (fun sv _ _ _ _ _ _ _ => (match sv with | .string s => s.size | _ => 0))
  case atStart => exact ⟨s0, [], 0, none, 0, rfl, rfl, Lib.hid rfl, by omega, Nat.le_refl _, Lib.hid ⟨rfl, fun x hx => by cases hx⟩, World.ownsRow_nil _ _ _ _, Below.refl _ _⟩
  case round =>
    obtain ⟨s, o, n, A, c, rfl, rfl, Hn, hn, hss, Ho, hown, hbr⟩ := hrel
    have hsl : s.data.toList.length = s.size := rfl
    by_cases hz : s.size = 0
    · have hnil : s.data.toList = [] := List.eq_nil_of_length_eq_zero hz
      have q0 : s.toList.isEmpty = true := by rw [ByteArray.toList_eq, hnil]; rfl
      have q0' : (!s.toList.isEmpty) = false := by rw [q0]; rfl
      have hrd : ReadOk s0.data.toList o := ⟨by rw [Ho.out.1, hnil, List.append_nil], by rw [Hn.out]; exact hn, Ho.out.2⟩
      have Hrd := Lib.hid hrd
      clear hrd hnil hsl
      go_wp2
      go_ret2
      refine ⟨hbr, .inl ⟨A, c, o, Hrd.out, by rw [Hn.out]; rfl, by rw [Hn.out]; exact hown⟩⟩
    have hne : s.data.toList ≠ [] := fun g => hz (by rw [← hsl, g]; rfl)
    have q0 : s.toList.isEmpty = false := by rw [ByteArray.toList_eq, List.isEmpty_eq_false_iff]; exact hne
    have q0' : (!s.toList.isEmpty) = true := by rw [q0]; rfl
    have hbad : (o.length = 20 ∨ NoHead s.data.toList) → ∀ w2, Below w.heap.size w w2 → ToldRead s0.data.toList w (.returned (.tuple #[.slice none 0 0, .int .i64 12])) w2 := fun h w2 hb => ⟨hb, .inr ⟨read_bad Ho.out.1 Ho.out.2 hne h, rfl⟩⟩
    have Hbad := Lib.hid hbad
    have hmeas : ∀ (x : Ed) (t : List UInt8), Heads s.data.toList x t → t.length < s.size := fun x t h => by
      have h1 := congrArg List.length h.1
      have h2 := List.length_pos_iff.2 (item_ne x)
      rw [List.length_append, hsl] at h1; omega
    have Hmeas := Lib.hid hmeas
    clear hne hbad hmeas hsl
    by_cases h20 : n = 20
    · have q1 : ((n : Int) == 20) = true := by rw [h20]; rfl
      have Hb := Lib.hid (Hbad.out (.inl (by rw [Hn.out, h20])))
      clear h20
      go_wp2
      go_ret2
      exact Hb.out _ hbr
    have q1 : ((n : Int) == 20) = false := by rw [beq_eq_false_iff_ne]; omega
    have N1 := Lib.hid (number_any s (by omega) 32 n32 200 (by decide))
    go_wp2_with fail
    refine (N1.out _).mono ?_
    rintro e w1 ⟨⟨k1, rfl⟩, h⟩
    have hbr := below_drewN hbr k1
    have hown := ownsRow_drewN hown k1
    generalize wr.drewN k1 = w1 at *
    rcases h with ⟨a, r1, rfl, h1⟩ | ⟨z, r1, rfl, h1⟩
    case inr =>
      have Hb := Lib.hid (Hbad.out (.inr (nohead1 h1)))
      clear h1
      go_wp2
      go_ret2
      exact Hb.out _ hbr
    have hr1 : r1.size ≤ s.size := by
      have := congrArg List.length h1.1
      rw [List.length_append, List.length_cons, show s.data.toList.length = s.size from rfl, show r1.data.toList.length = r1.size from rfl] at this; omega
    have ha := h1.2
    have H1 := Lib.hid h1
    clear h1 N1
    have N2 := Lib.hid (number_any r1 (by omega) 32 n32 200 (by decide))
    go_wp2_with fail
    refine (N2.out _).mono ?_
    rintro e w2 ⟨⟨k2, rfl⟩, h⟩
    have hbr := below_drewN hbr k2
    have hown := ownsRow_drewN hown k2
    generalize w1.drewN k2 = w2 at *
    rcases h with ⟨d, r2, rfl, h2⟩ | ⟨z, r2, rfl, h2⟩
    case inr =>
      have Hb := Lib.hid (Hbad.out (.inr (nohead2 H1.out h2)))
      clear h2
      go_wp2
      go_ret2
      exact Hb.out _ hbr
    have hr2 : r2.size ≤ r1.size := by
      have := congrArg List.length h2.1
      rw [List.length_append, List.length_cons, show r1.data.toList.length = r1.size from rfl, show r2.data.toList.length = r2.size from rfl] at this; omega
    have hd := h2.2
    have H2 := Lib.hid h2
    clear h2 N2
    have N3 := Lib.hid (number_any r2 (by omega) 58 n58 40 (by decide))
    go_wp2_with fail
    refine (N3.out _).mono ?_
    rintro e w3 ⟨⟨k3, rfl⟩, h⟩
    have hbr := below_drewN hbr k3
    have hown := ownsRow_drewN hown k3
    generalize w2.drewN k3 = w3 at *
    rcases h with ⟨m, r3, rfl, h3⟩ | ⟨z, r3, rfl, h3⟩
    case inr =>
      have Hb := Lib.hid (Hbad.out (.inr (nohead3 H1.out H2.out h3)))
      clear h3
      go_wp2
      go_ret2
      exact Hb.out _ hbr
    have hr3 : r3.size ≤ r2.size := by
      have := congrArg List.length h3.1
      rw [List.length_append, List.length_cons, show r2.data.toList.length = r2.size from rfl, show r3.data.toList.length = r3.size from rfl] at this; omega
    have hm := h3.2
    have H3 := Lib.hid h3
    clear h3 N3
    by_cases hlm : r3.size ≤ m
    · have q2 : decide ((r3.size : Int) ≤ (m : Int)) = true := decide_eq_true (by omega)
      have q2' : decide (r3.size ≤ m) = true := decide_eq_true hlm
      have Hb := Lib.hid (Hbad.out (.inr (nohead4 H1.out H2.out H3.out (fun g => by have := g.1; rw [show r3.data.toList.length = r3.size from rfl] at this; omega))))
      go_wp2
      go_ret2
      exact Hb.out _ hbr
    have q2 : decide ((r3.size : Int) ≤ (m : Int)) = false := decide_eq_false (by omega)
    have q2' : decide (r3.size ≤ m) = false := decide_eq_false hlm
    have hmr : m < r3.size := by omega
    have hmr' : (m : Int) < (r3.size : Int) := by omega
    have hgm := getD_bytes r3 m hmr
    by_cases h59 : r3[m] = 59
    case neg =>
      have q3 : ((r3[m].toNat : Int) != 59) = true := by rw [bne_iff_ne]; intro g; exact h59 (UInt8.toNat_inj.1 (by show r3[m].toNat = 59; omega))
      have Hb := Lib.hid (Hbad.out (.inr (nohead4 H1.out H2.out H3.out (fun g => h59 (by rw [← hgm]; exact g.2)))))
      clear hgm h59
      go_wp2
      go_ret2
      exact Hb.out _ hbr
    have q3 : ((r3[m].toNat : Int) != 59) = false := by rw [h59]; rfl
    have hins : (r3.extract 0 m).data.toList = r3.data.toList.take m := by rw [Lib.extract_data, List.drop_zero, Nat.sub_zero]
    obtain ⟨m', hm'⟩ : ∃ m', m + 1 = m' := ⟨_, rfl⟩
    have hrest : (r3.extract m' r3.size).data.toList = r3.data.toList.drop (m + 1) := by
      rw [Lib.extract_data, hm', List.take_of_length_le]; rw [List.length_drop]; exact Nat.le_refl _
    have hh := heads_of H1.out H2.out H3.out (show m < r3.data.toList.length from hmr) (by rw [hgm]; exact h59) (r3.extract 0 m) hins
    rw [← hrest] at hh
    have hmm := Hmeas.out _ _ hh
    rw [show (r3.extract m' r3.size).data.toList.length = (r3.extract m' r3.size).size from rfl] at hmm
    have Hh := Lib.hid hh
    have Hmm := Lib.hid hmm
    have him : (m : Int) + 1 = (m' : Int) := by omega
    have hmr2 : (m' : Int) ≤ (r3.size : Int) := by omega
    have hB3 := hbr.size
    have hbd := Hbd.out
    clear hgm h59 hins hrest hh hmm hm' H1 H2 H3 Hbad Hmeas
    go_wp2_with (first | (at_builtin; go_must (refine wpList_append_new _ 23 (.tmp 51) (.tmp 58) rfl rfl w.heap.size 89 infoEditR Tryd.underlying23 rfl (by decide) A n c _ rfl hown #[.int .i64 (a : Int), .int .i64 (d : Int), .string (r3.extract 0 m)] 1 rfl rfl (by simp [Value.oneCell']) (by unfold maxLen; omega) (by omega) hB3 ?_); intro A3 c3 w4 hown4 hb4 hg4))
    clear hbd
    go_wp2
    go_roundw
    case rel =>
      refine ⟨r3.extract m' r3.size, o ++ [((a : Int), (d : Int), r3.extract 0 m)], n + 1, A3, c3, rfl, rfl, Lib.hid (by rw [List.length_append, Hn.out]; rfl), by omega, by have := Hmm.out; omega, Lib.hid ⟨?_, fun x hx => ?_⟩, ?_, hbr.trans hb4⟩
      · rw [writeL_app, List.append_assoc, Ho.out.1, Hh.out.1]; simp [writeL]
      · rcases List.mem_append.1 hx with hx | hx
        · exact Ho.out.2 x hx
        · rw [List.mem_singleton.1 hx]; exact Hh.out.2
      · rw [flat_snocE]; exact hown4
    case measure => exact Hmm.out
end Go.Proofs.YtigbnldmjafgmaaDoor
