/- EditBetweens' walk: the returned edit transforms one string into the other, and no single edit is smaller. -/
import Derived.Test.YtppbjomobbaeaaaOfWalk
import Derived.Test.YtppbjomobbaeaaaEditLaws
import Derived.Test.YtppbjomobbaeaaaEqual
namespace Go.Proofs.Ytppbjomobbaeaaa
open Go.RowKit
set_option linter.unusedVariables false

theorem of_known {f g : Nat} (h : OfAt [104, 101, 108, 108, 111] [104, 101, 108, 112] f g) : f = 3 ∧ g = 0 := by
  have h1 := h.fits
  have h2 := h.front
  have h3 := h.stop
  have h4 := h.back
  simp only [List.length_cons, List.length_nil] at h1 h3 h4
  have hf : f = 3 := by
    rcases f with _ | _ | _ | _ | f
    · exact absurd rfl (h3 (by omega))
    · exact absurd rfl (h3 (by omega))
    · exact absurd rfl (h3 (by omega))
    · rfl
    · have := h2 3 (by omega)
      exact absurd this (by decide)
  subst hf
  refine ⟨rfl, ?_⟩
  rcases g with _ | g
  · rfl
  · have := h4 0 (by omega)
    exact absurd this (by decide)
theorem of_hello (w w' : World) (e : Ending) (h : ToldOf (ByteArray.mk #[104, 101, 108, 108, 111]).data.toList (ByteArray.mk #[104, 101, 108, 112]).data.toList w e w') :
    ∃ A c, e = .returned (.tuple #[.slice A 1 c, .int .i64 0]) ∧ Reads w' w'.heap.size A 1 3 ([((3 : Int), (2 : Int), ByteArray.mk #[112])].flatMap cEdit) ∧ Below w.heap.size w w' := by
  obtain ⟨hb, ⟨E, _, _, h1 | h1 | ⟨f, g, h1, h2⟩⟩ | ⟨h1, _, _⟩ | ⟨_, _, f, g, A, c, h1, _, he, hr⟩⟩ := h
  · exact absurd h1 (by decide)
  · exact absurd h1 (by decide)
  · obtain ⟨rfl, rfl⟩ := of_known h1
    exact absurd h2 (by decide)
  · exact absurd h1 (by decide)
  · obtain ⟨rfl, rfl⟩ := of_known h1
    exact ⟨A, c, he, hr, hb⟩

theorem apply_any (s : ByteArray) (hs : s.size ≤ 140737488351232) (A : Option Addr) (c : Nat) (x : Ed) (hx : (-9223372036854775808 ≤ x.1 ∧ x.1 ≤ 9223372036854775807) ∧ (-9223372036854775808 ≤ x.2.1 ∧ x.2.1 ≤ 9223372036854775807) ∧ (x.2.2).size ≤ 140737488351232) :
    ∃ (E : Int) (v : ByteArray), ((E != 0) = true ∨ (E = 0 ∧ OkE s.size true 0 [x] ∧ v.data.toList = app s.data.toList 0 [x])) ∧ ∀ w, Reads w w.heap.size A 1 3 ([x].flatMap cEdit) →
      Calls Try.prog 42 #[.string s, .slice A 1 c] w fun e w' => e = .returned (.tuple #[.string v, .int .i64 E]) ∧ Below w.heap.size w w' := by
  by_cases hE : checkE s.size [x] = 0
  · obtain ⟨_, _, _, h3, _⟩ := checkE_ok hE
    exact ⟨0, ⟨(app s.data.toList 0 [x]).toArray⟩, .inr ⟨rfl, h3, rfl⟩, fun w h => apply_ok s A 1 c w.heap.size [x] rfl hE w h (Nat.le_refl _)⟩
  · exact ⟨checkE s.size [x], ⟨#[]⟩, .inl (by rw [bne_iff_ne]; exact hE), fun w h => apply_no s (by omega) A 1 c w.heap.size [x] (by decide) rfl (fun y hy => by rw [List.mem_singleton] at hy; subst hy; exact hx) _ rfl hE w h (Nat.le_refl _)⟩

set_option maxRecDepth 100000 in
set_option maxHeartbeats 4000000 in
theorem editBetweens_core (s t : ByteArray) (a d : Int) (ins : ByteArray) (hs0 : s.size ≤ 140737488351232) (ht0 : t.size ≤ 140737488351232) (hx : (-9223372036854775808 ≤ a ∧ a ≤ 9223372036854775807) ∧ (-9223372036854775808 ≤ d ∧ d ≤ 9223372036854775807) ∧ ins.size ≤ 140737488351232) (w : World) :
    Calls Try.prog 14 #[.string s, .string t, .agg #[.int .i64 a, .int .i64 d, .string ins]] w fun e w' => e = .returned (.bool true) ∧ Below w.heap.size w w' := by
  have c1 : ∀ w, Calls Try.prog 45 #[.string ⟨#[104, 101, 108, 108, 111]⟩, .string ⟨#[104, 101, 108, 112]⟩] w fun e w' => ∃ A c, e = .returned (.tuple #[.slice A 1 c, .int .i64 0]) ∧ Reads w' w'.heap.size A 1 3 ([((3 : Int), (2 : Int), ByteArray.mk #[112])].flatMap cEdit) ∧ Below w.heap.size w w' := fun w =>
    (of_any ⟨#[104, 101, 108, 108, 111]⟩ ⟨#[104, 101, 108, 112]⟩ (by decide) (by decide) w).mono fun e w' h => of_hello w w' e h
  have C1 := Lib.hid c1
  have C2 := Lib.hid (of_any s t hs0 ht0)
  have HX := Lib.hid hx
  clear c1 hx
  have hbd := buildEdit
  go_enter Try.func14, Try.ntmps14
  go_wp2_with fail
  have hX := Blk.new w 63 #[.int .i64 a, .int .i64 d, .string ins]
  have hbw := (Below.refl w.heap.size w).alloc (Nat.le_refl _) (Obj.cells #[.int .i64 a, .int .i64 d, .string ins] 63)
  generalize w.alloc (Obj.cells #[.int .i64 a, .int .i64 d, .string ins] 63) = W0 at *
  refine (C1.out _).mono ?_
  rintro e w1 ⟨A1, c1, rfl, hr1, hb1⟩
  replace hX := hX.after hb1
  replace hbw := chain hb1 hbw
  clear hb1
  go_wp2_with fail
  refine (equalEdit_any A1 _ 1 1 c1 1 _ _ [((3 : Int), (2 : Int), ByteArray.mk #[112])] [((3 : Int), (2 : Int), ByteArray.mk #[112])] _ (by decide) (by decide) rfl rfl (hr1.alloc (Nat.le_refl _) _) (Reads.of_fresh w1 #[.int .i64 3, .int .i64 2, .string ⟨#[112]⟩] _ 1 3 rfl)).mono ?_
  rintro e w2 ⟨rfl, hb2⟩
  replace hX := (hX.alloc (Obj.cells #[.int .i64 3, .int .i64 2, .string ⟨#[112]⟩] 63)).after hb2
  replace hbw := chain hb2 (hbw.alloc hbw.size (Obj.cells #[.int .i64 3, .int .i64 2, .string ⟨#[112]⟩] 63))
  clear hb2 hr1
  go_wp2_with fail
  refine (edits_any _).mono ?_
  rintro e w3 ⟨rfl, hb3⟩
  replace hX := hX.after hb3
  replace hbw := chain hb3 hbw
  clear hb3
  go_wp2_with fail
  refine (C2.out _).mono ?_
  rintro e w4 ⟨hb4, hc⟩
  replace hX := hX.after hb4
  replace hbw := chain hb4 hbw
  clear hb4 C1 C2
  rcases hc with ⟨E, hE, rfl, _⟩ | ⟨hst, hs2, rfl⟩ | ⟨hne, hs2, f, g, A2, c2, hat, hck, rfl, hr⟩
  · go_wp2
    go_ret
    exact ⟨rfl, hbw⟩
  · -- the same text
    have e : t = s := ba_ext hst.symm
    subst e
    clear hst
    have hs2 : t.size ≤ 200 := hs2
    have hck : checkE t.size ([] : List Ed) = 0 := by unfold checkE; rw [if_neg (by omega), if_neg (by simp), chk, if_neg (by omega)]
    have a1 := fun w => apply_ok t none 0 0 w.heap.size [] rfl hck w Reads.nil (Nat.le_refl _)
    rw [show app t.data.toList 0 [] = t.data.toList from rfl, show (ByteArray.mk t.data.toList.toArray) = t from ba_of t] at a1
    have A1' := Lib.hid a1
    have q1 : (t.toList == t.toList) = true := by simp
    clear a1 hck
    go_wp2_with fail
    refine (A1'.out _).mono ?_
    rintro e w5 ⟨rfl, hb5⟩
    replace hX := hX.after hb5
    replace hbw := chain hb5 hbw
    have x0 := hX.cell 0
    have x1 := hX.cell 1
    have x2 := hX.cell 2
    clear hb5
    obtain ⟨E, v, hcase, hap⟩ := apply_any t hs0 (some ⟨w5.heap.size, 0, none⟩) 1 (a, d, ins) HX.out
    have AP := Lib.hid hap
    have hrd := Reads.made w5 #[.int .i64 a, .int .i64 d, .string ins] 63 1 3 rfl
    clear hap
    go_wp2_with fail
    refine (AP.out _ hrd).mono ?_
    rintro e w6 ⟨rfl, hb6⟩
    replace hbw := chain hb6 (hbw.alloc hbw.size (Obj.cells #[.int .i64 a, .int .i64 d, .string ins] 63))
    clear hb6 x0 x1 x2 hX hrd
    rcases hcase with hE | ⟨rfl, _, _⟩
    · go_wp2
      go_quiet (fail)
      go_wp2
      go_ret
      exact ⟨rfl, below_drewN hbw _⟩
    · cases hv : (v.toList == t.toList) <;> (
        go_wp2
        go_quiet (fail)
        go_wp2
        go_ret
        exact ⟨rfl, below_drewN hbw _⟩)
  · have hsl : s.data.toList.length = s.size := rfl
    have a1 := fun w h => apply_ok s A2 1 c2 w4.heap.size [ofE s.data.toList t.data.toList f g] rfl hck w h
    rw [of_app hat, show (ByteArray.mk t.data.toList.toArray) = t from ba_of t] at a1
    have hleast := fun h1 h2 => of_least hat (x := (a, d, ins)) h1 h2
    have q1 : (t.toList == t.toList) = true := by simp
    have q2 : (s.toList == t.toList) = false := by
      rw [beq_eq_false_iff_ne]; intro h; rw [ByteArray.toList_eq, ByteArray.toList_eq] at h; exact hne h
    have hD : (ofE s.data.toList t.data.toList f g).2.1 = ((s.data.toList.length - g - f : Nat) : Int) := rfl
    have hI : (ofE s.data.toList t.data.toList f g).2.2.size = t.data.toList.length - g - f := by
      show ((t.data.toList.drop f).take (t.data.toList.length - g - f)).length = _
      rw [List.length_take, List.length_drop]; omega
    have hleast2 : OkE s.size true 0 [(a, d, ins)] → app s.data.toList 0 [(a, d, ins)] = t.data.toList → (ofE s.data.toList t.data.toList f g).2.1 ≤ d ∧ (ofE s.data.toList t.data.toList f g).2.2.size ≤ ins.size := fun h1 h2 => by
      rw [hD, hI]; exact hleast h1 h2
    generalize ofE s.data.toList t.data.toList f g = Y at *
    obtain ⟨ya, yd, yi⟩ := Y
    have A1' := Lib.hid a1
    have Hleast := Lib.hid hleast2
    clear a1 hleast hleast2 hD hI hck hat hne hsl
    go_wp2_with fail
    refine (A1'.out _ hr (Nat.le_refl _)).mono ?_
    rintro e w5 ⟨rfl, hb5⟩
    replace hX := hX.after hb5
    replace hbw := chain hb5 hbw
    have hr5 := hr.after hb5
    have x0 := hX.cell 0
    have x1 := hX.cell 1
    have x2 := hX.cell 2
    clear hb5 hr
    obtain ⟨E, v, hcase, hap⟩ := apply_any s hs0 (some ⟨w5.heap.size, 0, none⟩) 1 (a, d, ins) HX.out
    have AP := Lib.hid hap
    have hrd := Reads.made w5 #[.int .i64 a, .int .i64 d, .string ins] 63 1 3 rfl
    clear hap
    go_wp2_with fail
    refine (AP.out _ hrd).mono ?_
    rintro e w6 ⟨rfl, hb6⟩
    have hr6 := (hr5.alloc (Nat.le_refl _) (Obj.cells #[.int .i64 a, .int .i64 d, .string ins] 63)).below (hb6.mono (by simp))
    replace hX := (hX.alloc (Obj.cells #[.int .i64 a, .int .i64 d, .string ins] 63)).after hb6
    replace hbw := chain hb6 (hbw.alloc hbw.size (Obj.cells #[.int .i64 a, .int .i64 d, .string ins] 63))
    clear hb6 x0 x1 x2 hrd hr5
    have x1 : w6.cell? ⟨w.heap.size, 1, none⟩ = some (.int .i64 d) := hX.cell 1
    have x2 : w6.cell? ⟨w.heap.size, 2, none⟩ = some (.string ins) := hX.cell 2
    obtain ⟨b, o, rfl, hbB, hc⟩ := hr6.2 (by decide)
    have y1 : w6.cell? ⟨b, o + 1, none⟩ = some (.int .i64 yd) := hc 1 (show 1 < 3 by decide)
    have y2 : w6.cell? ⟨b, o + 2, none⟩ = some (.string yi) := hc 2 (show 2 < 3 by decide)
    have hcase3 : (E != 0) = true ∨ (E = 0 ∧ (v.toList == t.toList) = false) ∨ (E = 0 ∧ (v.toList == t.toList) = true ∧ yd ≤ d ∧ yi.size ≤ ins.size) := by
      rcases hcase with h | ⟨h, h1, h2⟩
      · exact .inl h
      · cases hv : (v.toList == t.toList)
        · exact .inr (.inl ⟨h, rfl⟩)
        · rw [beq_iff_eq, ByteArray.toList_eq, ByteArray.toList_eq] at hv
          have := Hleast.out h1 (by rw [← h2]; exact hv)
          exact .inr (.inr ⟨h, rfl, this.1, this.2⟩)
    clear hc hcase Hleast hX
    rcases hcase3 with hE | ⟨rfl, hv⟩ | ⟨rfl, hv, h1, h2⟩
    · go_wp2
      go_quiet (fail)
      go_wp2
      go_ret
      exact ⟨rfl, below_drewN hbw _⟩
    · go_wp2
      go_quiet (fail)
      go_wp2
      go_ret
      exact ⟨rfl, below_drewN hbw _⟩
    · have u1 : decide (yd ≤ d) = true := decide_eq_true h1
      have u2 : decide ((yi.size : Int) ≤ (ins.size : Int)) = true := decide_eq_true (by omega)
      have u2n : decide (yi.size ≤ ins.size) = true := decide_eq_true h2
      go_wp2
      go_quiet (fail)
      go_wp2
      go_ret
      exact ⟨rfl, below_drewN hbw _⟩

theorem editBetweens_walk (s t : ByteArray) (x : Ed) (hs0 : s.size ≤ 140737488351232) (ht0 : t.size ≤ 140737488351232) (w : World) (hx : OkEdit x) :
    Calls Try.prog 14 #[.string s, .string t, .agg (cEdit x).toArray] w fun e w' => e = .returned (.bool true) ∧ Below w.heap.size w w' :=
  editBetweens_core s t x.1 x.2.1 x.2.2 hs0 ht0 hx w

end Go.Proofs.Ytppbjomobbaeaaa
