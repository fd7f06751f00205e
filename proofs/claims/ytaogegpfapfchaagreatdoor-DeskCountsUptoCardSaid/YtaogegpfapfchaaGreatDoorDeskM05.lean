import Derived.Test.YtaogegpfapfchaaGreatDoorDeskM03
import Derived.Test.YtaogegpfapfchaaGreatDoorDeskM04
import Derived.Deep.QuietTactic
import Derived.BigQuiet
import Derived.Deep.DeepMust
/- Several texts in one: XLogWalk. -/
/- The walks of log.Frame and log.Scan. -/
namespace Go.Proofs.YtaogegpfapfchaaGreatDoor
open Go.RowKit
set_option linter.unusedVariables false

/-- A list of bytes as a string. -/
def lb (l : List UInt8) : ByteArray := ⟨l.toArray⟩
theorem lb_list (l : List UInt8) : (lb l).data.toList = l := rfl
theorem lb_size (l : List UInt8) : (lb l).size = l.length := rfl
theorem lb_of (s : ByteArray) : lb s.data.toList = s := ba_ext rfl
theorem list_app (a b : ByteArray) : (a ++ b).data.toList = a.data.toList ++ b.data.toList := by simp

set_option maxRecDepth 100000 in
set_option maxHeartbeats 1000000 in
theorem frame_ok (r : ByteArray) (hr : r.size ≤ 1100) (w : World) :
    Calls Tryz.prog 137 #[.string r] w fun e w' => e = .returned (.tuple #[.string (lb (frameL r.data.toList)), .int .i64 0]) ∧ Below w.heap.size w w' := by
  have hrl : r.data.toList.length = r.size := rfl
  have q1 : decide ((1100 : Int) < (r.size : Int)) = false := decide_eq_false (by omega)
  have q1n : decide (1100 < r.size) = false := decide_eq_false (by omega)
  have hcv := run_string_of (P := Tryz.prog) (w.alloc (.cells #[.int .u8 ((r.size : Int) / 256), .int .u8 ((r.size : Int) % 256)] 5)) 54 9 5 ⟨w.heap.size, 0, none⟩ 2 2 (hdrL r.size) rfl Tryz.underlying54 Tryz.underlying5 Tryz.underlying9 (fun j hj => by
    have hj : j < 2 := hj
    rw [add_zero, World.cell?_alloc_mark]
    match j, hj with
    | 0, _ =>
      show some (Value.int .u8 ((r.size : Int) / 256)) = some (.int .u8 ((UInt8.ofNat (r.size / 256)).toNat : Int))
      rw [UInt8.toNat_ofNat']; congr 2; omega
    | 1, _ =>
      show some (Value.int .u8 ((r.size : Int) % 256)) = some (.int .u8 ((UInt8.ofNat (r.size % 256)).toNat : Int))
      rw [UInt8.toNat_ofNat']; congr 2; omega)
  have hS : (ByteArray.mk (hdrL r.size).toArray ++ r).data.toList = hdrL r.data.toList.length ++ r.data.toList := by rw [list_app, hrl]
  have hSs : (ByteArray.mk (hdrL r.size).toArray ++ r).size = r.size + 2 := by
    have := congrArg List.length hS
    rw [List.length_append, hrl] at this
    show (ByteArray.mk (hdrL r.size).toArray ++ r).data.toList.length = _
    rw [this]; simp [hdrL]; omega
  have hz : (ByteArray.mk (hdrL r.size).toArray).size + r.size ≤ 9223372036854775807 := by show 2 + r.size ≤ _; omega
  have hF : (ByteArray.mk (hdrL r.size).toArray ++ r) ++ ⟨(bytes4 (sumOf (ByteArray.mk (hdrL r.size).toArray ++ r).data.toList)).toArray⟩ = lb (frameL r.data.toList) := ba_ext (by
    rw [list_app, hS]; rfl)
  have hlt := sumOf_lt (ByteArray.mk (hdrL r.size).toArray ++ r).data.toList
  have h1 := fun w => sumOf_any (ByteArray.mk (hdrL r.size).toArray ++ r) w (by rw [hSs]; unfold maxLen; omega)
  have hca : ∀ w, (Op.stringOp .add (ByteArray.mk (hdrL r.size).toArray) r).run Tryz.prog w = .ok (.string (ByteArray.mk (hdrL r.size).toArray ++ r)) w := fun w => run_string_add_sum w _ _ hz
  generalize (ByteArray.mk (hdrL r.size).toArray ++ r) = S at *
  generalize (ByteArray.mk (hdrL r.size).toArray) = Hd at *
  generalize sumOf S.data.toList = X at *
  have hb4 : (ByteArray.mk (bytes4 X).toArray).size = 4 := rfl
  have h2 := sumBytes_any X hlt
  have hca2 : ∀ w, (Op.stringOp .add S (ByteArray.mk (bytes4 X).toArray)).run Tryz.prog w = .ok (.string (S ++ ByteArray.mk (bytes4 X).toArray)) w := fun w => run_string_add_sum w _ _ (by rw [hSs, hb4]; omega)
  generalize (ByteArray.mk (bytes4 X).toArray) = B4 at *
  have H1 := Lib.hid h1
  have H2 := Lib.hid h2
  have HF := Lib.hid hF
  clear h1 h2 hF hS hSs hz hb4 hrl hlt
  go_enter Tryz.func137, Tryz.ntmps137
  go_wp2_with fail
  refine (H1.out _).mono ?_
  rintro e w1 ⟨rfl, hb1⟩
  have hbw1 := ((Below.refl w.heap.size w).alloc (Nat.le_refl _) (.cells #[.int .u8 ((r.size : Int) / 256), .int .u8 ((r.size : Int) % 256)] 5)).trans (hb1.mono (by simp))
  go_wp2_with fail
  refine (H2.out _).mono ?_
  rintro e w2 ⟨rfl, hb2⟩
  have hbw2 := chain hb2 hbw1
  go_wp2
  go_ret2
  refine ⟨?_, hbw2⟩
  rw [← HF.out]
  rfl

set_option maxRecDepth 100000 in
set_option maxHeartbeats 400000 in
theorem frame_no (r : ByteArray) (hr : 1100 < r.size) (w : World) :
    Calls Tryz.prog 137 #[.string r] w fun e w' => e = .returned (.tuple #[.string ⟨#[]⟩, .int .i64 2]) ∧ w = w' := by
  have q1 : decide ((1100 : Int) < (r.size : Int)) = true := decide_eq_true (by omega)
  have q1n : decide (1100 < r.size) = true := decide_eq_true (by omega)
  go_enter Tryz.func137, Tryz.ntmps137
  go_wp2
  go_ret2
  exact ⟨rfl, rfl⟩

theorem infoStrG : (Tryz.prog.info? 9).map (fun i => (i.zero, i.size, i.bytes)) = some (some (.string ⟨#[]⟩), 1, 16) := by kernel_rfl
theorem ownCapG {w : World} {B size n c : Nat} {e : TypeId} {A : Option Addr} {xs : List Value} (h : w.ownsRow B e size (.slice A n c) n xs) : n ≤ c := by
  rcases h.2 with ⟨h1, h0⟩ | ⟨g, cap, cur, h1, _, _, h2, _⟩
  · omega
  · injection h1 with _ _ h3
    omega

theorem own_below {w w' : World} {base size n : Nat} {e : TypeId} {v : Value} {xs : List Value} (h : w.ownsRow base e size v n xs) (hb : Below w.heap.size w w') : w'.ownsRow base e size v n xs := by
  refine ⟨h.1, ?_⟩
  rcases h.2 with h0 | ⟨g, cap, cur, hv, hg, hh, rest⟩
  · exact .inl h0
  · exact .inr ⟨g, cap, cur, hv, hg, by rw [hb.block g (Array.getElem?_eq_some_iff.1 hh).1]; exact hh, rest⟩
/-- The records are told, and where they end. -/
def ToldScan (s : List UInt8) (w : World) (e : Ending) (w' : World) : Prop := ∃ L n A c, Scans s L n ∧ e = .returned (.tuple #[.slice A L.length c, .int .i64 (n : Int)]) ∧
  Reads w' w'.heap.size A L.length 1 ((L.map lb).flatMap cStr) ∧ Below w.heap.size w w' ∧ L.length ≤ c
/-- The same, of the call's own row. -/
def OwnScan (s : List UInt8) (w : World) (e : Ending) (w' : World) : Prop := ∃ L n A c, Scans s L n ∧ e = .returned (.tuple #[.slice A L.length c, .int .i64 (n : Int)]) ∧
  w'.ownsRow w.heap.size 9 1 (.slice A L.length c) L.length ((L.map lb).flatMap cStr) ∧ Below w.heap.size w w'

set_option maxRecDepth 100000 in
set_option maxHeartbeats 4000000 in
theorem scan_own (s : ByteArray) (hs : s.size ≤ 9223372036854000000) (K : Nat) (hK : K * 16 ≤ 140737488355328) (hcount : ∀ L n, Scans s.data.toList L n → L.length ≤ K) (w : World) :
    Calls Tryz.prog 122 #[.string s] w (OwnScan s.data.toList w) := by
  have hsl : s.data.toList.length = s.size := rfl
  have hget := fun j hj => getD_bytes s j hj
  have Hsl := Lib.hid hsl
  have Hget := Lib.hid hget
  have Hcount := Lib.hid hcount
  clear hsl hget hcount
  go_enter Tryz.func122, Tryz.ntmps122
  go_wp2
  go_loopw [4, 5, 6] (fun ov av _ wr => ∃ (F : List (List UInt8)) (a m : Nat) (A' : Option Addr) (c' : Nat), a ≤ s.size ∧ av = .int .i64 a ∧ ov = .slice A' m c' ∧ Hid (F.length = m) ∧ m ≤ K ∧ Hid (∀ L n, Scans (s.data.toList.drop a) L n → Scans s.data.toList (F ++ L) (a + n)) ∧
      wr.ownsRow w.heap.size 9 1 (.slice A' m c') m ((F.map lb).flatMap cStr) ∧ Below w.heap.size w wr) (fun _ av _ _ => s.size - (intOf av).toNat)
  case atStart => exact ⟨[], 0, 0, none, 0, Nat.zero_le _, rfl, rfl, Lib.hid rfl, Nat.zero_le _, Lib.hid (fun L n h => by rw [List.drop_zero] at h; rw [List.nil_append, Nat.zero_add]; exact h), World.ownsRow_nil _ _ _ _, Below.refl _ _⟩
  case round =>
    obtain ⟨F, a, m, A', c', ha, rfl, rfl, Hm, hmK, HS, hown, hbr⟩ := hrel
    have hstop : takeR (s.data.toList.drop a) = none → Scans s.data.toList F a := fun h => by
      have := HS.out [] 0 (.stop h)
      rwa [List.append_nil, Nat.add_zero] at this
    have Hstop := Lib.hid hstop
    clear hstop
    have hdl : (s.data.toList.drop a).length = s.size - a := by rw [List.length_drop, Hsl.out]
    have Hdl := Lib.hid hdl
    clear hdl
    by_cases h6 : 6 ≤ s.size - a
    case neg =>
      have q1 : decide ((6 : Int) ≤ (s.size : Int) - (a : Int)) = false := decide_eq_false (by omega)
      have hno : takeR (s.data.toList.drop a) = none := by
        unfold takeR; rw [if_neg]; rintro ⟨h, _⟩; rw [Hdl.out] at h; exact h6 h
      have Hno := Lib.hid (Hstop.out hno)
      clear hno
      go_wp2
      go_ret2
      exact ⟨F, a, A', c', Hno.out, by rw [Hm.out]; rfl, by rw [Hm.out]; exact hown, hbr⟩
    have q1 : decide ((6 : Int) ≤ (s.size : Int) - (a : Int)) = true := decide_eq_true (by omega)
    have ha0 : a < s.size := by omega
    obtain ⟨q, hq⟩ : ∃ q : Nat, q = a + 1 := ⟨_, rfl⟩
    have ha1 : q < s.size := by omega
    have ha0' : (a : Int) < s.size := by omega
    have ha1' : (q : Int) < s.size := by omega
    have hw1 : IntKind.i64.wrap ((a : Int) + 1) = (q : Int) := by rw [IntKind.wrap_i64]; omega
    obtain ⟨n, hn⟩ : ∃ n : Nat, n = s[a].toNat * 256 + s[q].toNat := ⟨_, rfl⟩
    have hb0 := s[a].toNat_lt
    have hb1 := s[q].toNat_lt
    have hn' : ((s.data.toList.drop a).getD 0 0).toNat * 256 + ((s.data.toList.drop a).getD 1 0).toNat = n := by
      rw [getD_drop, getD_drop, Nat.add_zero, Hget.out a ha0, ← hq, Hget.out q ha1, hn]
    have Hn := Lib.hid hn'
    have en : (s[a].toNat : Int) * 256 + (s[q].toNat : Int) = (n : Int) := by omega
    have Hq := Lib.hid hq
    clear hq
    have hn65 : n < 65536 := by omega
    clear hn'
    clear hn hb0 hb1
    have hno : ¬ (n ≤ 1100 ∧ n + 6 ≤ s.size - a ∧ rightOf ((s.data.toList.drop a).take (n + 6)) = true) → takeR (s.data.toList.drop a) = none := fun h => by
      unfold takeR
      rw [Hn.out, Hdl.out, if_neg (fun hh => h ⟨hh.2.1, hh.2.2.1, hh.2.2.2⟩)]
    have Hno := Lib.hid hno
    clear hno
    by_cases hc1 : 1100 < n
    · have q2 : decide ((1100 : Int) < (n : Int)) = true := decide_eq_true (by omega)
      have q2n : decide (1100 < n) = true := decide_eq_true hc1
      have Hs1 := Lib.hid (Hstop.out (Hno.out (fun h => by omega)))
      go_wp2
      go_quiet (fail)
      go_wp2
      go_ret2
      exact ⟨F, a, A', c', Hs1.out, by rw [Hm.out]; rfl, by rw [Hm.out]; exact (ownsRow_drewN hown _), below_drewN hbr _⟩
    have q2 : decide ((1100 : Int) < (n : Int)) = false := decide_eq_false (by omega)
    have q2n : decide (1100 < n) = false := decide_eq_false hc1
    by_cases hc2 : s.size - a < n + 6
    · have q3 : decide ((s.size : Int) - (a : Int) < (n : Int) + 6) = true := decide_eq_true (by omega)
      have Hs1 := Lib.hid (Hstop.out (Hno.out (fun h => by omega)))
      go_wp2
      go_quiet (fail)
      go_wp2
      go_ret2
      exact ⟨F, a, A', c', Hs1.out, by rw [Hm.out]; rfl, by rw [Hm.out]; exact (ownsRow_drewN hown _), below_drewN hbr _⟩
    have q3 : decide ((s.size : Int) - (a : Int) < (n : Int) + 6) = false := decide_eq_false (by omega)
    obtain ⟨p, hp⟩ : ∃ p : Nat, p = a + n + 6 := ⟨_, rfl⟩
    have hps : p ≤ s.size := by omega
    have hps' : (p : Int) ≤ s.size := by omega
    have hap : a ≤ p := by omega
    have hap' : (a : Int) ≤ (p : Int) := by omega
    have ep : (a : Int) + (n : Int) + 6 = (p : Int) := by omega
    have hdat : (s.extract a p).data.toList = (s.data.toList.drop a).take (n + 6) := by rw [Lib.extract_data, show p - a = n + 6 from by omega]
    have hright : ∀ w, Calls Tryz.prog 140 #[.string (s.extract a p)] w fun e w' => e = .returned (.bool (rightOf ((s.data.toList.drop a).take (n + 6)))) ∧ Below w.heap.size w w' := fun w => by
      rw [← hdat]
      exact sumRight_any (s.extract a p) w (by simp [maxLen]; omega)
    have Hp := Lib.hid hp
    clear hdat hp
    have Hep := Lib.hid ep
    by_cases hR : rightOf ((s.data.toList.drop a).take (n + 6)) = true
    case neg =>
      have hR' : rightOf ((s.data.toList.drop a).take (n + 6)) = false := by simpa using hR
      have Hs1 := Lib.hid (Hstop.out (Hno.out (fun h => hR h.2.2)))
      rw [hR'] at hright
      have Hright := Lib.hid hright
      clear hR hR' hright
      go_wp2
      go_quiet (fail)
      go_wp2_with fail
      refine (Hright.out _).mono ?_
      rintro e w2 ⟨rfl, hb2⟩
      have hbw2 := chain hb2 (below_drewN hbr _)
      have hown2 := own_below (ownsRow_drewN hown _) hb2
      go_wp2
      go_ret2
      exact ⟨F, a, A', c', Hs1.out, by rw [Hm.out]; rfl, by rw [Hm.out]; exact hown2, hbw2⟩
    rw [hR] at hright
    have Hright := Lib.hid hright
    clear hright
    have htake : takeR (s.data.toList.drop a) = some (((s.data.toList.drop a).drop 2).take n) := by
      unfold takeR
      rw [Hn.out, Hdl.out, if_pos ⟨h6, by omega, by omega, hR⟩]
    have hrl : (((s.data.toList.drop a).drop 2).take n).length = n := by rw [List.length_take, List.length_drop, Hdl.out]; omega
    have hnext : ∀ L k, Scans (s.data.toList.drop p) L k → Scans s.data.toList ((F ++ [((s.data.toList.drop a).drop 2).take n]) ++ L) (p + k) := fun L k h => by
      have h1 : Scans (s.data.toList.drop a) (((s.data.toList.drop a).drop 2).take n :: L) (n + 6 + k) := by
        have := Scans.step (n := k) htake (by rw [hrl, List.drop_drop, show a + (n + 6) = p from by have := Hp.out; omega]; exact h)
        rwa [hrl] at this
      have h2 := HS.out _ _ h1
      rw [List.append_assoc, show p + k = a + (n + 6 + k) from by have := Hp.out; omega]
      exact h2
    have hmK2 : m + 1 ≤ K := by
      obtain ⟨L, k, hL⟩ := scans_total _ (s.data.toList.drop p) (Nat.le_refl _)
      have := Hcount.out _ _ (hnext L k hL)
      rw [List.length_append, List.length_append, Hm.out, List.length_singleton] at this
      omega
    have Hnext := Lib.hid hnext
    obtain ⟨p2, hp2⟩ : ∃ p2 : Nat, p2 = a + 2 := ⟨_, rfl⟩
    obtain ⟨p3, hp3⟩ : ∃ p3 : Nat, p3 = a + 2 + n := ⟨_, rfl⟩
    have e2 : (a : Int) + 2 = (p2 : Int) := by omega
    have e3 : (p2 : Int) + (n : Int) = (p3 : Int) := by omega
    have e5 : (a : Int) + ((n : Int) + 6) = (p : Int) := by have := Hp.out; omega
    have h23 : p2 ≤ p3 := by omega
    have h3s : p3 ≤ s.size := by omega
    have hrec : s.extract p2 p3 = lb (((s.data.toList.drop a).drop 2).take n) := ba_ext (by
      rw [lb_list, Lib.extract_data, List.drop_drop, ← hp2, show p3 - p2 = n from by omega])
    have Hrec := Lib.hid hrec
    have hp6 : a < p := by have := Hp.out; omega
    have E2 := Lib.hid e2
    have E3 := Lib.hid e3
    have E5 := Lib.hid e5
    clear hR htake hrl hnext hp2 hp3 hrec Hno Hstop Hn e2 e3 e5
    go_wp2
    go_quiet (fail)
    go_wp2_with fail
    refine (Hright.out _).mono ?_
    rintro e w2 ⟨rfl, hb2⟩
    have hbw2 := chain hb2 (below_drewN hbr _)
    have hown2 := own_below (ownsRow_drewN hown _) hb2
    clear hown hbr hb2 Hright ep
    have e2 := E2.out
    have e3 := E3.out
    have e5 := E5.out
    go_wp2_with (first | (at_builtin; go_must (refine wpList_append_new _ 22 (.tmp 45) (.tmp 54) rfl rfl w.heap.size 9 infoStrG Tryz.underlying22 rfl (by decide) A' m c' _ rfl hown2 #[.string (s.extract p2 p3)] 1 rfl rfl (by simp [Value.oneCell']) (by unfold maxLen; omega) (by omega) hbw2.size ?_); intro A3 c3 w3 hown3 hb3 hg3))
    go_roundw
    case rel =>
      refine ⟨F ++ [((s.data.toList.drop a).drop 2).take n], p, m + 1, A3, c3, hps, by go_num, rfl, Lib.hid (by rw [List.length_append, Hm.out]; rfl), hmK2, Hnext, ?_, hbw2.trans hb3⟩
      rw [List.map_append, List.map_singleton, flat_snoc, ← Hrec.out]
      exact hown3
    case measure => simp only [intOf]; omega

theorem scan_ok (s : ByteArray) (hs : s.size ≤ 9223372036854000000) (K : Nat) (hK : K * 16 ≤ 140737488355328) (hcount : ∀ L n, Scans s.data.toList L n → L.length ≤ K) (w : World) :
    Calls Tryz.prog 122 #[.string s] w (ToldScan s.data.toList w) :=
  (scan_own s hs K hK hcount w).mono fun e w' ⟨L, n, A, c, h1, h2, h3, h4⟩ => ⟨L, n, A, c, h1, h2, Reads.of_own h3, h4, ownCapG h3⟩

end Go.Proofs.YtaogegpfapfchaaGreatDoor

