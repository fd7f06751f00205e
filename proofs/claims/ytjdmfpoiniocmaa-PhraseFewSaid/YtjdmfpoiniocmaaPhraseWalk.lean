/- The walk of phrase.Put: it makes the phrases of a text. -/
import Derived.Test.YtjdmfpoiniocmaaPhrase
import Derived.Test.YtjdmfpoiniocmaaCheck
import Derived.Test.YtjdmfpoiniocmaaStruct
import Derived.Test.YtjdmfpoiniocmaaBack
import Derived.Deep.QuietTactic
import Derived.BigQuiet
import Derived.Deep.DeepMust
namespace Go.Proofs.Ytjdmfpoiniocmaa
open Go.RowKit
set_option linter.unusedVariables false

/-- A list of bytes as a string. -/
def ba (l : List UInt8) : ByteArray := ⟨l.toArray⟩
theorem ba_list (l : List UInt8) : (ba l).data.toList = l := rfl
theorem ba_size (l : List UInt8) : (ba l).size = l.length := rfl
theorem ba_inj {a b : List UInt8} (h : ba a = ba b) : a = b := by rw [← ba_list a, h, ba_list]
theorem ba_extract (s : ByteArray) (i j : Nat) : s.extract i j = ba ((s.data.toList.drop i).take (j - i)) := ba_ext (by rw [Lib.extract_data]; rfl)
theorem ba_rest (s : ByteArray) (i : Nat) : s.extract i s.size = ba (s.data.toList.drop i) := by
  rw [ba_extract, List.take_of_length_le]
  rw [List.length_drop]; exact Nat.le_refl _
theorem getD_map {α β : Type} (f : α → β) (l : List α) (j : Nat) (d : α) : (l.map f).getD j (f d) = f (l.getD j d) := by
  simp [List.getD_eq_getElem?_getD]
theorem own_own_ne {w : World} {B B' size size' n n' : Nat} {e e' : TypeId} {v v' : Value} {xs xs' : List Value} (h : w.ownsRow B e size v n xs) (h' : w.ownsRow B' e' size' v' n' xs') (hne : e ≠ e') : v.ownBlock = none ∨ v.ownBlock ≠ v'.ownBlock := by
  rcases h.2 with ⟨rfl, _⟩ | ⟨g, cap, cur, rfl, _, hh, _⟩
  · exact .inl rfl
  · right
    rcases h'.2 with ⟨rfl, _⟩ | ⟨g', cap', cur', rfl, _, hh', _⟩
    · simp [Value.ownBlock]
    · intro he
      have : g = g' := by simpa [Value.ownBlock] using he
      subst this
      rw [hh] at hh'
      injection hh' with hh'
      injection hh' with _ ht
      exact hne ht

theorem own_cap {w : World} {B size n c : Nat} {e : TypeId} {A : Option Addr} {xs : List Value} (h : w.ownsRow B e size (.slice A n c) n xs) : n ≤ c := by
  rcases h.2 with ⟨h1, h0⟩ | ⟨g, cap, cur, h1, _, _, h2, _⟩
  · omega
  · injection h1 with _ _ h3
    omega
theorem infoPhrase : (Try.prog.info? 88).map (fun i => (i.zero, i.size, i.bytes)) = some (some (.agg #[.int .i64 0, .int .u8 0]), 2, 16) := by kernel_rfl
theorem infoStr : (Try.prog.info? 9).map (fun i => (i.zero, i.size, i.bytes)) = some (some (.string ⟨#[]⟩), 1, 16) := by kernel_rfl

/-- The cell of a text. -/
def cS (t : List UInt8) : Value := .string (ba t)
theorem cS_at (T : List (List UInt8)) (j : Nat) (h : j < T.length) : (T.map cS)[j]? = some (.string (ba (T.getD j []))) := by
  rw [List.getElem?_map, getElem?_of_getD T [] j h]; rfl
theorem prefix_test (s : ByteArray) (t : List UInt8) (a : Nat) (ha : a ≤ s.size) : t.isPrefixOf (s.data.toList.drop a) = true ↔ a + t.length ≤ s.size ∧ s.extract a (a + t.length) = ba t := by
  have hs : s.data.toList.length = s.size := rfl
  rw [List.isPrefixOf_iff_prefix, ba_extract, show a + t.length - a = t.length from by omega]
  constructor
  · intro h
    have h1 := h.length_le
    rw [List.length_drop, hs] at h1
    exact ⟨by omega, by rw [← List.prefix_iff_eq_take.1 h]⟩
  · rintro ⟨h1, h2⟩
    rw [← ba_inj h2]
    exact List.take_prefix _ _

set_option maxRecDepth 100000 in
set_option maxHeartbeats 4000000 in
theorem phrasePut_ok (s : ByteArray) (hs : s.size ≤ 200) (w : World) :
    Calls Try.prog 28 #[.string s] w fun e w' => ∃ A c, e = .returned (.tuple #[.slice A (putP s.data.toList).1.length c, .string (ba (s.data.toList.drop (putP s.data.toList).2.2)), .int .i64 0]) ∧
      Reads w' w'.heap.size A (putP s.data.toList).1.length 2 ((putP s.data.toList).1.flatMap cPhrase) ∧ Below w.heap.size w w' ∧ (putP s.data.toList).1.length ≤ c := by
  have hbd := buildPhrase
  go_enter Try.func28, Try.ntmps28
  go_wp2_with fail
  refine (wordCheck_ok s hs _).mono ?_
  rintro e w1 ⟨rfl, rfl⟩
  go_wp2
  have hT0 := World.ownsRow_lit (base := w.heap.size) (e := 9) (size := 1) w #[.string ⟨#[]⟩] 1 (Nat.le_refl _) (by unfold maxLen; omega) rfl
  have hb0 := (Below.refl w.heap.size w).alloc (Nat.le_refl _) (.cells #[.string ⟨#[]⟩] 9)
  generalize hB : w.heap.size = B at *
  have hBw : B ≤ w.heap.size := by omega
  generalize w.alloc (.cells #[.string ⟨#[]⟩] 9) = W0 at *
  have HB := Lib.hid hB
  clear hB
  go_loopw [6, 7, 8] (fun ov tv av wr => ∃ (k : Nat) (A : Option Addr) (c : Nat) (A' : Option Addr) (c' : Nat), ov = .slice A (phS s.data.toList k).1.length c ∧ tv = .slice A' (phS s.data.toList k).2.1.length c' ∧ av = .int .i64 ((phS s.data.toList k).2.2 : Nat) ∧
      Hid (∀ j, j < k → goesP s.data.toList (phS s.data.toList j)) ∧
      wr.ownsRow B 88 2 (.slice A (phS s.data.toList k).1.length c) (phS s.data.toList k).1.length ((phS s.data.toList k).1.flatMap cPhrase) ∧
      wr.ownsRow B 9 1 (.slice A' (phS s.data.toList k).2.1.length c') (phS s.data.toList k).2.1.length ((phS s.data.toList k).2.1.map cS) ∧ Below B w wr)
    (fun _ _ av _ => s.size - (intOf av).toNat)
  case atStart => exact ⟨0, none, 0, _, 1, rfl, rfl, rfl, Lib.hid (by simp), World.ownsRow_nil _ _ _ _, hT0, hb0⟩
  case round =>
    clear hT0 hb0
    obtain ⟨k, A, c, A', c', rfl, rfl, rfl, Hg, hO, hT, hbr⟩ := hrel
    have hinv := inv_phS s.data.toList k
    have hsl : s.data.toList.length = s.size := rfl
    have hl := hinv.len
    have hal := hinv.at_le
    have hmany := hinv.many
    have hz := hinv.zero
    rw [hsl] at hal
    have hnext : goesP s.data.toList (phS s.data.toList k) → phS s.data.toList (k + 1) = nextP s.data.toList (phS s.data.toList k) := fun h => by rw [phS, stepP, if_pos h]
    have hstop : ¬ goesP s.data.toList (phS s.data.toList k) → phS s.data.toList k = putP s.data.toList := phS_end _ k Hg.out
    have hbl := best_lt hinv
    have hll := lenOf_le hinv
    have htl := text_le hinv
    rw [hsl] at htl
    unfold lenOf at hll
    unfold bestOf at hbl hll
    rw [hsl] at hll
    have hx : phS s.data.toList k = ((phS s.data.toList k).1, (phS s.data.toList k).2.1, (phS s.data.toList k).2.2) := rfl
    have Hinv := Lib.hid hinv
    have Hnext := Lib.hid hnext
    have Hstop := Lib.hid hstop
    clear hinv hnext hstop
    generalize (phS s.data.toList k).1 = O at hx hl hmany hO hbl hll ⊢
    generalize (phS s.data.toList k).2.1 = T at hx hl hz hT hbl hll htl ⊢
    generalize (phS s.data.toList k).2.2 = a at hx hal hmany hbl hll ⊢
    have Hx := Lib.hid hx
    have Htl := Lib.hid htl
    clear hx htl
    obtain ⟨g, rfl⟩ : ∃ g, A' = some ⟨g, 0, none⟩ := by
      obtain ⟨A2, c2, hA, hA2⟩ := own_shape hT
      obtain ⟨g, hg, _⟩ := hA2 (by omega)
      injection hA with e1 _ _
      exact ⟨g, by rw [e1, hg]⟩
    have Hl := Lib.hid hl
    have hTl : T.length ≤ 201 := by omega
    have hT1 : 1 ≤ T.length := by omega
    have hOl : O.length ≤ 200 := by omega
    have Hsl := Lib.hid hsl
    have Hz := Lib.hid hz
    clear hl hsl hz
    by_cases hlt : a < s.size
    · go_wp2
      go_loop [9, 25] (fun bv i => ∃ j : Nat, j ≤ T.length ∧ i = .int .i64 j ∧ bv = .int .i64 (bestN T (s.data.toList.drop a) j : Nat)) (fun _ i => T.length - (intOf i).toNat)
      case atStart => exact ⟨0, Nat.zero_le _, rfl, rfl⟩
      case round =>
        obtain ⟨j, hj, rfl, rfl⟩ := hrel
        by_cases hjl : j < T.length
        · have hbj := bestN_lt T (s.data.toList.drop a) (by omega) j hj
          have c1 := (hT.cellAt j (by omega)).trans (cS_at T j hjl)
          have c2 := (hT.cellAt _ (by omega)).trans (cS_at T _ hbj)
          have hpt := prefix_test s (T.getD j []) a hal
          have ht1 := Htl.out j
          have ht2 := Htl.out (bestN T (s.data.toList.drop a) j)
          have hnx : bestN T (s.data.toList.drop a) (j + 1) = if hitP T (s.data.toList.drop a) (bestN T (s.data.toList.drop a) j) j then j else bestN T (s.data.toList.drop a) j := rfl
          unfold hitP at hnx
          rw [← ba_size, ← ba_size] at hnx
          rw [← ba_size] at hpt ht1 ht2
          generalize hb1 : bestN T (s.data.toList.drop a) (j + 1) = b' at *
          have Hb1 := Lib.hid hb1
          clear hb1
          generalize bestN T (s.data.toList.drop a) j = b at *
          generalize (T.getD j []).isPrefixOf (s.data.toList.drop a) = ip at *
          generalize ba (T.getD j []) = tj at *
          generalize ba (T.getD b []) = tb at *
          have Hnx := Lib.hid hnx
          have Hpt := Lib.hid hpt
          clear hnx hpt
          by_cases p1 : tb.size < tj.size
          · have q1 : decide (tb.size < tj.size) = true := decide_eq_true p1
            have q1' : decide ((tb.size : Int) < (tj.size : Int)) = true := decide_eq_true (by omega)
            by_cases p2 : a + tj.size ≤ s.size
            · have q2 : decide (a + tj.size ≤ s.size) = true := decide_eq_true p2
              have q2' : decide ((a : Int) + (tj.size : Int) ≤ (s.size : Int)) = true := decide_eq_true (by omega)
              by_cases p3 : s.extract a (a + tj.size) = tj
              · have q3 : ((s.extract a (a + tj.size)).toList == tj.toList) = true := by rw [p3]; simp
                have Hip : Hid (ip = true) := Hpt.out.2 ⟨p2, p3⟩
                have Hp3 := Lib.hid p3
                clear p3
                go_wp2
                go_round
                case rel => exact ⟨j + 1, by omega, by go_num, by rw [Hb1.out, Hnx.out, Hip.out, q1]; rfl⟩
                case measure => simp [intOf]; omega
              · have q3 : ((s.extract a (a + tj.size)).toList == tj.toList) = false := by
                  rw [beq_eq_false_iff_ne]; intro h; rw [ByteArray.toList_eq, ByteArray.toList_eq] at h; exact p3 (ba_ext h)
                have Hip : Hid (ip = false) := by
                  have := mt Hpt.out.1 (fun h => p3 h.2)
                  exact Bool.eq_false_iff.2 this
                clear p3
                go_wp2
                go_round
                case rel => exact ⟨j + 1, by omega, by go_num, by rw [Hb1.out, Hnx.out, Hip.out, q1]; rfl⟩
                case measure => simp [intOf]; omega
            · have q2 : decide (a + tj.size ≤ s.size) = false := decide_eq_false p2
              have q2' : decide ((a : Int) + (tj.size : Int) ≤ (s.size : Int)) = false := decide_eq_false (by omega)
              have Hip : Hid (ip = false) := by
                have := mt Hpt.out.1 (fun h => p2 h.1)
                exact Bool.eq_false_iff.2 this
              go_wp2
              go_round
              case rel => exact ⟨j + 1, by omega, by go_num, by rw [Hb1.out, Hnx.out, Hip.out, q1]; rfl⟩
              case measure => simp [intOf]; omega
          · have q1 : decide (tb.size < tj.size) = false := decide_eq_false p1
            have q1' : decide ((tb.size : Int) < (tj.size : Int)) = false := decide_eq_false (by omega)
            go_wp2
            go_round
            case rel => exact ⟨j + 1, by omega, by go_num, by rw [Hb1.out, Hnx.out, q1]; rfl⟩
            case measure => simp [intOf]; omega
        · obtain rfl : j = T.length := by omega
          have c1 := (hT.cellAt _ (by omega)).trans (cS_at T _ hbl)
          have hgo : goesP s.data.toList (phS s.data.toList k) ↔ a + (T.getD (bestN T (s.data.toList.drop a) T.length) []).length < s.size := by rw [Hx.out]; exact Iff.rfl
          have hnp : nextP s.data.toList (phS s.data.toList k) = (O ++ [(((bestN T (s.data.toList.drop a) T.length : Nat) : Int), s.data.toList.getD (a + (T.getD (bestN T (s.data.toList.drop a) T.length) []).length) 0)],
            T ++ [(s.data.toList.drop a).take ((T.getD (bestN T (s.data.toList.drop a) T.length) []).length + 1)], a + (T.getD (bestN T (s.data.toList.drop a) T.length) []).length + 1) := by rw [Hx.out]; rfl
          rw [← ba_size] at hgo hnp hll
          have hex : ∀ m, s.extract a (a + m + 1) = ba ((s.data.toList.drop a).take (m + 1)) := fun m => by rw [ba_extract, show a + m + 1 - a = m + 1 from by omega]
          generalize bestN T (s.data.toList.drop a) T.length = b at *
          generalize ba (T.getD b []) = tb at *
          have Hgo := Lib.hid hgo
          have Hnp := Lib.hid hnp
          have Hex := Lib.hid hex
          clear hgo hnp hex
          by_cases hend : a + tb.size = s.size
          · have Hend := Lib.hid hend
            have Hput : Hid (phS s.data.toList k = putP s.data.toList) := Hstop.out fun h => by have := Hgo.out.1 h; have := Hend.out; omega
            have q1 : (a + tb.size == s.size) = true := by rw [hend]; simp
            have q1' : ((a : Int) + (tb.size : Int) == (s.size : Int)) = true := by rw [beq_iff_eq]; omega
            clear hend
            go_wp2
            go_quiet (fail)
            go_wp2
            go_ret3
            have hp : putP s.data.toList = (O, T, a) := Hput.out.symm.trans Hx.out
            rw [hp]
            refine ⟨A, c, ?_, (Reads.of_own hO).drewN _, by rw [HB.out]; exact below_drewN hbr _, own_cap hO⟩
            rw [← ba_rest]; rfl
          · have q1 : (a + tb.size == s.size) = false := by rw [beq_eq_false_iff_ne]; exact hend
            have q1' : ((a : Int) + (tb.size : Int) == (s.size : Int)) = false := by rw [beq_eq_false_iff_ne]; omega
            have hlt2 : a + tb.size < s.size := by omega
            have hgb := getD_bytes s (a + tb.size) hlt2
            have Hgb := Lib.hid hgb
            clear hgb hend
            go_wp2_with (first
              | (at_builtin; refine wpList_append_new _ 52 (.tmp 71) (.tmp 79) rfl rfl B 88 infoPhrase Try.underlying52 rfl (by decide) _ _ _ _ rfl hO #[.int .i64 (b : Int), .int .u8 (s[a + tb.size].toNat : Int)] 1 rfl rfl (by simp [Value.oneCell']) (by unfold maxLen; omega) (by omega) (by have := hbr.size; omega) ?_; intro A1 c1 w1 hO1 hb1 hg1)
              | (at_builtin; refine wpList_append_new _ 23 (.tmp 81) (.tmp 89) rfl rfl B 9 infoStr Try.underlying23 rfl (by decide) _ _ _ _ rfl (hT.kept hg1 (own_own_ne hT hO (by decide))) #[.string (s.extract a (a + tb.size + 1))] 1 rfl rfl (by simp [Value.oneCell']) (by unfold maxLen; omega) (by omega) (by have := hbr.size; have := hb1.size; omega) ?_; intro A2 c2 w2 hT2 hb2 hg2))
            go_roundw
            case rel =>
              have hp : phS s.data.toList (k + 1) = (O ++ [((b : Int), s.data.toList.getD (a + tb.size) 0)], T ++ [(s.data.toList.drop a).take (tb.size + 1)], a + tb.size + 1) := by
                rw [Hnext.out (Hgo.out.2 hlt2), Hnp.out]
              refine ⟨k + 1, A1, c1, A2, c2, ?_, ?_, ?_, ?_, ?_, ?_, ?_⟩
              · rw [hp]; simp
              · rw [hp]; simp
              · rw [hp]; go_num
              · refine Lib.hid fun j hj => ?_
                by_cases e : j = k
                · rw [e]; exact Hgo.out.2 hlt2
                · exact Hg.out j (by omega)
              · rw [hp, flat_snoc, List.length_append, List.length_singleton]
                have := hO1.kept hg2 (own_own_ne hO1 (hT.kept hg1 (own_own_ne hT hO (by decide))) (by decide))
                simp only [cPhrase]
                rw [Hgb.out]
                exact this
              · rw [hp, List.map_append, List.length_append, List.length_singleton]
                have := hT2
                rw [Hex.out] at this
                exact this
              · exact (hbr.trans hb1).trans hb2
            case measure => simp [intOf]; omega
    · obtain rfl : a = s.size := by omega
      have Hput : Hid (phS s.data.toList k = putP s.data.toList) := Hstop.out fun h => by
        rw [Hx.out] at h
        have h : s.size + _ < s.data.toList.length := h
        have := Hsl.out
        omega
      go_wp2
      go_quiet (fail)
      go_wp2
      go_ret3
      have hp : putP s.data.toList = (O, T, s.size) := Hput.out.symm.trans Hx.out
      rw [hp]
      refine ⟨A, c, ?_, (Reads.of_own hO).drewN _, by rw [HB.out]; exact below_drewN hbr _, own_cap hO⟩
      have e0 : ba (s.data.toList.drop s.size) = ByteArray.empty := by rw [List.drop_of_length_le (by rw [Hsl.out]; exact Nat.le_refl _)]; rfl
      show _ = Ending.returned (.tuple #[_, .string (ba (s.data.toList.drop s.size)), _])
      rw [e0]; rfl

set_option maxHeartbeats 400000 in
theorem phrasePut_no (s : ByteArray) (hs : 200 < s.size) (w : World) :
    Calls Try.prog 28 #[.string s] w fun e w' => e = .returned (.tuple #[.slice none 0 0, .string ⟨#[]⟩, .int .i64 2]) ∧ w = w' := by
  go_enter Try.func28, Try.ntmps28
  go_wp2_with fail
  refine (wordCheck_no s hs _).mono ?_
  rintro e w1 ⟨rfl, rfl⟩
  go_wp2
  go_ret3
  exact ⟨rfl, rfl⟩

end Go.Proofs.Ytjdmfpoiniocmaa
