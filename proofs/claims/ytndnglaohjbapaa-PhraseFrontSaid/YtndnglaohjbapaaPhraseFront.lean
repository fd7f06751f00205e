/- PhraseFront's walk: later input does not change earlier phrases. -/
import Derived.Test.YtndnglaohjbapaaPhraseLaws
import Derived.Test.YtndnglaohjbapaaGood
import Derived.Test.YtndnglaohjbapaaSlice
namespace Go.Proofs.Ytndnglaohjbapaa
open Go.RowKit
set_option linter.unusedVariables false

theorem cut100_size (s : ByteArray) (n : Nat) : (s.extract 0 n).size ≤ n := by simp; omega

set_option maxHeartbeats 400000 in
theorem phraseFront_core (a b a0 b0 : ByteArray) (ha : a.size ≤ 100) (hb : b.size ≤ 100)
    (ca : ∀ w, Calls Try.prog 31 #[.string a0, .int .i64 100] w fun e w' => e = .returned (.string a) ∧ w = w')
    (cb : ∀ w, Calls Try.prog 31 #[.string b0, .int .i64 100] w fun e w' => e = .returned (.string b) ∧ w = w') (w : World) :
    Calls Try.prog 14 #[.string a0, .string b0] w fun e w' => e = .returned (.bool true) ∧ Below w.heap.size w w' := by
  have hl1 := (putP_inv a.data.toList).many
  have hl1' := (putP_inv a.data.toList).at_le
  have hsa : a.data.toList.length = a.size := rfl
  obtain ⟨M, hr, hMl, hMt⟩ : ∃ M, (putP (a.data.toList ++ b.data.toList)).1 = M ∧ (putP a.data.toList).1.length ≤ M.length ∧ M.take (putP a.data.toList).1.length = (putP a.data.toList).1 := by
    obtain ⟨r, hr⟩ := phrases_front a.data.toList b.data.toList
    exact ⟨_, hr, by rw [List.length_append]; omega, by rw [List.take_append_of_le_length (Nat.le_refl _), List.take_length]⟩
  have h2 : ∀ w, Calls Try.prog 39 #[.string (a ++ b)] w fun e w' => ∃ A c, e = .returned (.tuple #[.slice A M.length c, .string (ba ((a ++ b).data.toList.drop (putP (a.data.toList ++ b.data.toList)).2.2)), .int .i64 0]) ∧
      Reads w' w'.heap.size A M.length 2 (M.flatMap cPhrase) ∧ Below w.heap.size w w' ∧ M.length ≤ 200 ∧ M.length ≤ c := fun w => by
    have h := phrasePut_ok (a ++ b) (by simp [ByteArray.size_append]; omega) w
    have hm := (putP_inv (a ++ b).data.toList).many
    have hm' := (putP_inv (a ++ b).data.toList).at_le
    have e1 : (a ++ b).data.toList = a.data.toList ++ b.data.toList := by simp [ByteArray.data_append]
    have hsb : b.data.toList.length = b.size := rfl
    rw [e1] at h hm hm'
    rw [hr] at h hm
    rw [List.length_append, hsa, hsb] at hm'
    exact h.mono fun e w' ⟨A, c, he, hr', hb', hc'⟩ => ⟨A, c, by rw [e1]; exact he, hr', hb', by omega, hc'⟩
  have h1 := phrasePut_ok a (by omega)
  have H1 := Lib.hid h1
  have H2 := Lib.hid h2
  have CA := Lib.hid ca
  have CB := Lib.hid cb
  have hlp : (putP a.data.toList).1.length ≤ 100 := by omega
  have HMt := Lib.hid hMt
  clear h1 h2 ca cb hr hl1 hl1' hsa hMt
  generalize (putP a.data.toList).1 = L at *
  generalize ba (a.data.toList.drop (putP a.data.toList).2.2) = r1 at *
  generalize ba ((a ++ b).data.toList.drop (putP (a.data.toList ++ b.data.toList)).2.2) = r2 at *
  have q1 : a.size + b.size ≤ 9223372036854775807 := by omega
  go_enter Try.func14, Try.ntmps14
  go_wp2_with fail
  refine (phrases_any _).mono ?_
  rintro e w1 ⟨rfl, hb1⟩
  go_wp2_with fail
  refine (CA.out _).mono ?_
  rintro e w2 ⟨rfl, rfl⟩
  go_wp2_with fail
  refine (CB.out _).mono ?_
  rintro e w2 ⟨rfl, rfl⟩
  go_wp2_with fail
  refine (H1.out _).mono ?_
  rintro e w2 ⟨A1, c1, rfl, hr1, hb2, _⟩
  go_wp2_with fail
  refine (H2.out _).mono ?_
  rintro e w3 ⟨A2, c2, rfl, hr2, hb3, hlm, hlc⟩
  have hbw := chain hb3 (chain hb2 hb1)
  have hr1' := hr1.after hb3
  clear hb1 hb2 hb3 hr1
  go_wp2_with fail
  refine (good_fresh [0, 0] 2 2 rfl (by decide) _ _).mono ?_
  rintro e w4 ⟨rfl, hb4⟩
  have hbw4 := chain hb4 hbw
  have hr1 := hr1'.after hb4
  have hr2' := hr2.after hb4
  have q0 : ([0, 0] : List Int).all (· == 0) = true := by decide
  obtain ⟨A3, hs3, hfr⟩ := slice_front 65 (by kernel_rfl) sizePhrase cPhrase_len hr2' rfl hMl hlc
  rw [HMt.out] at hfr
  have q2 : decide (L.length ≤ M.length) = true := decide_eq_true hMl
  clear hr2 hr2' hMl
  generalize M.length = n2 at *
  have q2' : decide ((L.length : Int) ≤ (n2 : Int)) = true := decide_eq_true (by have := of_decide_eq_true q2; omega)
  go_wp2_with fail
  refine (equalPhrase_any A1 A3 L.length L.length _ _ _ _ L L _ (by omega) (by omega) rfl rfl hr1 hfr).mono ?_
  rintro e w5 ⟨rfl, hb5⟩
  have hbw5 := chain hb5 hbw4
  have q5 : decide (L = L) = true := by simp
  go_wp2
  go_ret
  exact ⟨by simp, hbw5⟩

theorem phraseFront_walk (a b : ByteArray) (ha : a.size ≤ 140737488351232) (hb : b.size ≤ 140737488351232) (w : World) :
    Calls Try.prog 14 #[.string a, .string b] w fun e w' => e = .returned (.bool true) ∧ Below w.heap.size w w' :=
  phraseFront_core _ _ a b (cut100_size a 100) (cut100_size b 100) (cut_any a 100 (by decide) ha) (cut_any b 100 (by decide) hb) w

end Go.Proofs.Ytndnglaohjbapaa
