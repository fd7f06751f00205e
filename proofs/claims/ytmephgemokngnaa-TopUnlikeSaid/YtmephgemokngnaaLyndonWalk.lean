/- The walk of lyndon.Split. -/
import Derived.Test.YtmephgemokngnaaDuval
import Derived.Test.YtmephgemokngnaaCheck
import Derived.Test.YtmephgemokngnaaStruct
import Derived.Test.YtmephgemokngnaaBack
import Derived.Deep.QuietTactic
import Derived.BigQuiet
import Derived.Deep.DeepMust
namespace Go.Proofs.Ytmephgemokngnaa
open Go.RowKit
set_option linter.unusedVariables false

/-- A list of bytes as a string. -/
def tx (l : List UInt8) : ByteArray := ⟨l.toArray⟩
theorem tx_list (l : List UInt8) : (tx l).data.toList = l := rfl
theorem tx_size (l : List UInt8) : (tx l).size = l.length := rfl
theorem tx_inj {a b : List UInt8} (h : tx a = tx b) : a = b := by rw [← tx_list a, h, tx_list]
theorem tx_extract (s : ByteArray) (i j : Nat) : s.extract i j = tx ((s.data.toList.drop i).take (j - i)) := ba_ext (by rw [Lib.extract_data]; rfl)
theorem infoStrL : (Try.prog.info? 9).map (fun i => (i.zero, i.size, i.bytes)) = some (some (.string ⟨#[]⟩), 1, 16) := by kernel_rfl
theorem ownCapL {w : World} {B size n c : Nat} {e : TypeId} {A : Option Addr} {xs : List Value} (h : w.ownsRow B e size (.slice A n c) n xs) : n ≤ c := by
  rcases h.2 with ⟨h1, h0⟩ | ⟨g, cap, cur, h1, _, _, h2, _⟩
  · omega
  · injection h1 with _ _ h3
    omega

/-- The words are told, and no error. -/
def ToldWords (t : List UInt8) (w : World) (e : Ending) (w' : World) : Prop := ∃ F A c, Cfl t F ∧ e = .returned (.tuple #[.slice A F.length c, .int .i64 0]) ∧
  Reads w' w'.heap.size A F.length 1 ((F.map tx).flatMap cStr) ∧ Below w.heap.size w w' ∧ F.length ≤ c

set_option maxHeartbeats 4000000 in
theorem split_ok (s : ByteArray) (hs : s.size ≤ 200) (w : World) : Calls Try.prog 18 #[.string s] w (ToldWords s.data.toList w) := by
  have hsl : s.data.toList.length = s.size := rfl
  have hget := fun j hj => getD_bytes s j hj
  have Hsl := Lib.hid hsl
  have Hget := Lib.hid hget
  have hst := DuO.start s.data.toList
  have Hst := Lib.hid hst
  clear hsl hget hst
  go_enter Try.func18, Try.ntmps18
  go_wp2_with fail
  refine (wordCheck_ok s hs _).mono ?_
  rintro e w1 ⟨rfl, rfl⟩
  go_wp2
  go_loopw [5, 6, 7, 8] (fun ov av _ _ wr => ∃ (F : List (List UInt8)) (a m : Nat) (A' : Option Addr) (c' : Nat), a ≤ s.size ∧ av = .int .i64 a ∧ ov = .slice A' m c' ∧ Hid (F.length = m) ∧ m ≤ a ∧ Hid (DuO s.data.toList F a) ∧
      wr.ownsRow w.heap.size 9 1 (.slice A' m c') m ((F.map tx).flatMap cStr) ∧ Below w.heap.size w wr) (fun _ av _ _ _ => s.size - (intOf av).toNat)
  case atStart => exact ⟨[], 0, 0, none, 0, Nat.zero_le _, rfl, rfl, rfl, Nat.le_refl _, Hst, World.ownsRow_nil _ _ _ _, Below.refl _ _⟩
  case round =>
    obtain ⟨F, a, m, A', c', ha, rfl, rfl, Hm, hma, HO, hown, hbr⟩ := hrel
    by_cases hlt : a < s.size
    · have hD := DuS.start (t := s.data.toList) (a := a) (by rw [Hsl.out]; exact hlt)
      have HD := Lib.hid hD
      clear hD
      go_wp2
      go_loopw [7, 8] (fun iv kv wq => ∃ i k : Nat, a ≤ i ∧ i < k ∧ k ≤ s.size ∧ iv = .int .i64 i ∧ kv = .int .i64 k ∧ Hid (DuS s.data.toList a (k - i) k) ∧
          wq.ownsRow w.heap.size 9 1 (.slice A' m c') m ((F.map tx).flatMap cStr) ∧ Below w.heap.size w wq) (fun _ kv _ => s.size - (intOf kv).toNat)
      case atStart => exact ⟨a, a + 1, Nat.le_refl _, by omega, by omega, rfl, by go_num, Lib.hid (by rw [show a + 1 - a = 1 from by omega]; exact HD.out), hown, hbr⟩
      case round =>
        clear hown hbr HD
        obtain ⟨i, k, hai, hik, hks, rfl, rfl, HD, hown, hbr⟩ := hrel
        have hki : k - (k - i) = i := by omega
        have Hki := Lib.hid hki
        clear hki
        have hkp : k ≤ s.size → a + (k - i) ≤ k := fun _ => by omega
        have hi' : i < s.size := by omega
        have hgi := Hget.out i hi'
        have hii : (i : Int) < s.size := by omega
        have Hgi := Lib.hid hgi
        clear hgi
        have hcases : (k < s.size ∧ ∃ h : k < s.size, s[i] < s[k]) ∨ (k < s.size ∧ ∃ h : k < s.size, s[i] = s[k]) ∨ (k < s.size ∧ ∃ h : k < s.size, s[k] < s[i]) ∨ k = s.size := by
          by_cases h : k < s.size
          · rcases u8_tri s[i] s[k] with h1 | h1 | h1
            · exact .inl ⟨h, h, h1⟩
            · exact .inr (.inl ⟨h, h, h1⟩)
            · exact .inr (.inr (.inl ⟨h, h, h1⟩))
          · exact .inr (.inr (.inr (by omega)))
        rcases hcases with ⟨hk, hk', hc⟩ | ⟨hk, hk', hc⟩ | hex
        · have hn := HD.out.more (by rw [Hsl.out]; exact hk) (by rw [Hki.out, Hgi.out, Hget.out k hk]; exact hc)
          have Hn := Lib.hid hn
          have q1 : decide ((k : Int) < s.size) = true := decide_eq_true (by omega)
          have hcn := UInt8.lt_iff_toNat_lt.1 hc
          have q2 : decide ((s[i].toNat : Int) ≤ (s[k].toNat : Int)) = true := decide_eq_true (by omega)
          have q3 : decide ((s[i].toNat : Int) < (s[k].toNat : Int)) = true := decide_eq_true (by omega)
          have q2n : decide (s[i].toNat ≤ s[k].toNat) = true := decide_eq_true (by omega)
          have q3n : decide (s[i].toNat < s[k].toNat) = true := decide_eq_true (by omega)
          have hkk : (k : Int) < s.size := by omega
          clear hn hcn hc
          go_wp2
          go_quiet (fail)
          go_wp2
          go_quiet (fail)
          go_wp2
          go_roundw
          case rel => exact ⟨a, k + 1, Nat.le_refl _, by omega, by omega, rfl, by go_num, Hn, ownsRow_drewN hown _, below_drewN hbr _⟩
          case measure => simp [intOf]; omega
        · have hn := HD.out.same (by rw [Hsl.out]; exact hk) (by rw [Hki.out, Hgi.out, Hget.out k hk]; exact hc)
          have Hn := Lib.hid hn
          have q1 : decide ((k : Int) < s.size) = true := decide_eq_true (by omega)
          have q2 : decide ((s[i].toNat : Int) ≤ (s[k].toNat : Int)) = true := decide_eq_true (by rw [hc]; omega)
          have q3 : decide ((s[i].toNat : Int) < (s[k].toNat : Int)) = false := decide_eq_false (by rw [hc]; omega)
          have q2n : decide (s[i].toNat ≤ s[k].toNat) = true := decide_eq_true (by rw [hc]; omega)
          have q3n : decide (s[i].toNat < s[k].toNat) = false := decide_eq_false (by rw [hc]; omega)
          have hkk : (k : Int) < s.size := by omega
          clear hn hc
          go_wp2
          go_quiet (fail)
          go_wp2
          go_quiet (fail)
          go_wp2
          go_roundw
          case rel => exact ⟨i + 1, k + 1, by omega, by omega, by omega, by go_num, by go_num, Lib.hid (by rw [show k + 1 - (i + 1) = k - i from by omega]; exact Hn.out), ownsRow_drewN hown _, below_drewN hbr _⟩
          case measure => simp [intOf]; omega
        · have hlow : k < s.data.toList.length → s.data.toList.getD k 0 < s.data.toList.getD (k - (k - i)) 0 := fun hk => by
            rw [Hsl.out] at hk
            rcases hex with ⟨_, _, hc⟩ | hc
            · rw [Hki.out, Hgi.out, Hget.out k hk]; exact hc
            · omega
          have hE := DuE.start HD.out HO.out hlow
          have hwl := HD.out.wlen
          generalize (s.data.toList.drop a).take (k - i) = W0 at *
          have HE := Lib.hid hE
          have Hwl := Lib.hid hwl
          clear hE hwl hlow
          have hki0 : 0 < k - i := by omega
          have hik2 : i + (k - i) = k := by omega
          generalize hP : k - i = p at *
          have epk : (k : Int) - (i : Int) = (p : Int) := by omega
          have Hepk := Lib.hid epk
          clear hP epk hkp
          have Hex := Lib.hid hex
          rcases hex with ⟨hk, hk', hc⟩ | hex <;> (first
          | (have q1 : decide ((k : Int) < s.size) = true := decide_eq_true (by omega)
             have hcn := UInt8.lt_iff_toNat_lt.1 hc
             have q2 : decide ((s[i].toNat : Int) ≤ (s[k].toNat : Int)) = false := decide_eq_false (by omega)
             have q2n : decide (s[i].toNat ≤ s[k].toNat) = false := decide_eq_false (by omega)
             have hkk : (k : Int) < s.size := by omega
             clear hcn hc
             go_wp2
             go_quiet (fail)
             go_wp2
             clear q1 q2 q2n)
          | (have q1 : decide ((k : Int) < s.size) = false := decide_eq_false (by omega)
             have q1n : decide (k < s.size) = false := decide_eq_false (by omega)
             have hkk : s.size ≤ k := by omega
             have hkk' : ¬ k < s.size := by omega
             clear hex
             go_wp2
             go_quiet (fail)
             go_wp2
             clear q1)) <;> (
            go_loopw [5, 6] (fun ov av wq => ∃ (F : List (List UInt8)) (b m : Nat) (A' : Option Addr) (c' : Nat), a ≤ b ∧ (a < b ∨ b ≤ i) ∧ b ≤ k ∧ av = .int .i64 b ∧ ov = .slice A' m c' ∧ Hid (F.length = m) ∧ m ≤ b ∧ Hid (DuE s.data.toList W0 k F b) ∧
                wq.ownsRow w.heap.size 9 1 (.slice A' m c') m ((F.map tx).flatMap cStr) ∧ Below w.heap.size w wq) (fun _ av _ => k + 1 - (intOf av).toNat)
            case atStart => exact ⟨F, a, m, A', c', Nat.le_refl _, .inr hai, by omega, rfl, rfl, Hm, hma, HE, ownsRow_drewN hown _, below_drewN hbr _⟩
            case round =>
              clear hown hbr HE
              obtain ⟨F, b, m, A', c', hab, habi, hbk, rfl, rfl, Hm, hmb, HE, hown, hbr⟩ := hrel
              by_cases hbi : b ≤ i
              · obtain ⟨n1, n2⟩ := HE.out.next (by rw [Hwl.out]; omega)
                rw [Hwl.out] at n1 n2
                have H1 := Lib.hid n1
                have H2 := Lib.hid n2
                clear n1 n2
                have hex2 : s.extract b (b + p) = tx W0 := by rw [tx_extract, show b + p - b = p from by omega, H1.out]
                have Hex2 := Lib.hid hex2
                clear hex2
                obtain ⟨q, hq⟩ : ∃ q, b + p = q := ⟨_, rfl⟩
                have hbk2 : b + k - i = q := by have := Hepk.out; omega
                rw [hq] at Hex2
                have e2 : (k : Int) - (i : Int) = (p : Int) := Hepk.out
                have e3 : (b : Int) + (p : Int) = (q : Int) := by omega
                have hbq : b ≤ q := by omega
                have hqs : q ≤ s.size := by omega
                rw [hq] at H2
                have q1 : decide ((b : Int) ≤ (i : Int)) = true := decide_eq_true (by omega)
                go_wp2_with (first | (at_builtin; go_must (refine wpList_append_new _ 36 (.tmp 49) (.tmp 58) ?_ ?_ w.heap.size 9 infoStrL Try.underlying36 ?_ ?_ A' m c' _ ?_ hown #[.string (s.extract b q)] 1 ?_ ?_ ?_ ?_ ?_ ?_ ?_; rfl; rfl; rfl; decide; (simp [Act.eval]); (simp [Act.eval]); rfl; (simp [Value.oneCell']); (unfold maxLen; omega); omega; exact hbr.size); intro A3 c3 w3 hown3 hb3 hg3))
                go_roundw
                case rel =>
                  refine ⟨F ++ [W0], q, m + 1, A3, c3, by omega, by omega, by omega, by go_num, by go_num, Lib.hid (by rw [List.length_append, Hm.out]; rfl), by omega, H2, ?_, hbr.trans hb3⟩
                  rw [List.map_append, List.map_singleton, flat_snoc, ← Hex2.out]
                  exact hown3
                case measure => simp [intOf]; omega
              · have hO := HE.out.leave (by rw [Hwl.out]; omega)
                have Ho := Lib.hid hO
                clear hO
                go_wp2
                go_roundw
                case rel => exact ⟨F, b, m, A', c', by omega, rfl, rfl, Hm, hmb, Ho, hown, hbr⟩
                case measure => simp [intOf]; omega)
    · have hstop := HO.out.stop (by rw [Hsl.out]; omega)
      have Hstop := Lib.hid hstop
      clear hstop
      go_wp2
      go_ret2
      refine ⟨F, A', c', Hstop.out, by rw [Hm.out]; rfl, by rw [Hm.out]; exact Reads.of_own hown, hbr, by rw [Hm.out]; exact ownCapL hown⟩

end Go.Proofs.Ytmephgemokngnaa
