/- The walks of script.Check and script.number. -/
import Derived.Test.YtigbnldmjafgmaaDoorScriptP
import Derived.Test.YtigbnldmjafgmaaDoorStruct
import Derived.Test.YtigbnldmjafgmaaDoorBack
import Derived.Deep.QuietTactic
import Derived.BigQuiet
import Derived.IntWalk
namespace Go.Proofs.YtigbnldmjafgmaaDoor
open Go.RowKit
set_option linter.unusedVariables false

/-- What script.Check tells. -/
def ToldCheck (l : List Ed) (w : World) (e : Ending) (w' : World) : Prop := ∃ E : Int, e = .returned (.int .i64 E) ∧ (E = 0 ↔ l.length ≤ 20 ∧ OkLs l) ∧ Below w.heap.size w w'

set_option maxHeartbeats 1000000 in
theorem scheck_any (A : Option Addr) (len c B0 : Nat) (l : List Ed) (hlen : len ≤ 4398046511104) (hl : l.length = len) (ho : ∀ x ∈ l, (-9223372036854775808 ≤ x.1 ∧ x.1 ≤ 9223372036854775807) ∧ (-9223372036854775808 ≤ x.2.1 ∧ x.2.1 ≤ 9223372036854775807) ∧ (x.2.2).size ≤ 140737488351232)
    (w : World) (h : Reads w B0 A len 3 (l.flatMap cEdit)) (hB0 : B0 ≤ w.heap.size) :
    Calls Tryd.prog 96 #[.slice A len c] w (ToldCheck l w) := by
  have Hl := Lib.hid hl
  clear hl
  by_cases h3 : 20 < len
  · have q3 : decide ((20 : Int) < (len : Int)) = true := decide_eq_true (by omega)
    go_enter Tryd.func96, Tryd.ntmps96
    go_wp2
    go_ret
    exact ⟨2, rfl, ⟨fun h => by omega, fun h => by have := Hl.out; omega⟩, Below.refl _ _⟩
  have q3 : decide ((20 : Int) < (len : Int)) = false := decide_eq_false (by omega)
  go_enter Tryd.func96, Tryd.ntmps96
  go_wp2
  go_loopw [4, 10] (fun _ i wr => ∃ k : Nat, k ≤ len ∧ i = .int .i64 k ∧ Hid (OkLs (l.take k)) ∧ Below w.heap.size w wr) (fun _ i _ => len - (intOf i).toNat)
  case atStart => exact ⟨0, Nat.zero_le _, rfl, Lib.hid (fun x hx => by simp at hx), Below.refl _ _⟩
  case round =>
    obtain ⟨k, hk, rfl, Hok, hbr⟩ := hrel
    by_cases hlt : k < len
    · have h := h.below' hbr hB0
      obtain ⟨b, o, rfl, hbB, hc⟩ := h.2 (by omega)
      have c0 := hc (k * 3 + 0) (by rw [flat_length cEdit 3 cEdit_len, Hl.out]; omega)
      have c1 := hc (k * 3 + 1) (by rw [flat_length cEdit 3 cEdit_len, Hl.out]; omega)
      have c2 := hc (k * 3 + 2) (by rw [flat_length cEdit 3 cEdit_len, Hl.out]; omega)
      have dE : Ed := (0, 0, ByteArray.empty)
      rw [flat_getD cEdit 3 cEdit_len dE l k _ (by rw [Hl.out]; omega) (by omega)] at c0 c1 c2
      simp only [cEdit, List.getD_cons_zero, List.getD_cons_succ, Nat.add_zero, ← Nat.add_assoc] at c0 c1 c2
      have hmem : l.getD k dE ∈ l := by rw [getD_some _ _ _ (by rw [Hl.out]; omega)]; exact List.getElem_mem _
      have hx := ho (l.getD k dE) hmem
      have htk := take_succ_getD l k dE (by rw [Hl.out]; omega)
      generalize l.getD k dE = x at *
      obtain ⟨at_, del, ins⟩ := x
      simp only at c0 c1 c2 hx
      obtain ⟨hx1, hx2, hx3⟩ := hx
      have Htk := Lib.hid htk
      have Hmem := Lib.hid hmem
      clear htk hmem hc
      have hbw := hbr.size
      by_cases hok : OkXs (at_, del, ins)
      · obtain ⟨⟨o1, o2⟩, ⟨o3, o4⟩, o5⟩ := hok
        simp only at o1 o2 o3 o4 o5
        have p1 : decide (at_ < 0) = false := decide_eq_false (by omega)
        have p2 : decide ((200 : Int) < at_) = false := decide_eq_false (by omega)
        have p3 : decide (del < 0) = false := decide_eq_false (by omega)
        have p4 : decide ((200 : Int) < del) = false := decide_eq_false (by omega)
        have p5 : decide ((40 : Int) < (ins.size : Int)) = false := decide_eq_false (by omega)
        have p5' : decide (40 < ins.size) = false := decide_eq_false (by omega)
        go_wp2
        go_roundw
        case rel => exact ⟨k + 1, by omega, by go_num, Lib.hid (fun y hy => by
          rw [Htk.out] at hy
          rcases List.mem_append.1 hy with hy | hy
          · exact Hok.out y hy
          · rw [List.mem_singleton.1 hy]; exact ⟨⟨o1, o2⟩, ⟨o3, o4⟩, o5⟩), hbr.alloc hbw _⟩
        case measure => simp [intOf]; omega
      · have hno : ¬ (l.length ≤ 20 ∧ OkLs l) := fun g => hok (g.2 _ Hmem.out)
        have Hno := Lib.hid hno
        have hfin : ∀ (E : Int) (w2 : World), E ≠ 0 → Below w.heap.size w w2 → ToldCheck l w (.returned (.int .i64 E)) w2 := fun E w2 hE hb => ⟨E, rfl, ⟨fun g => absurd g hE, fun g => absurd g Hno.out⟩, hb⟩
        have Hfin := Lib.hid hfin
        clear hno hfin
        by_cases p1 : at_ < 0
        · have p1 : decide (at_ < 0) = true := decide_eq_true (by omega)
          go_wp2
          go_ret
          exact Hfin.out 1 _ (by decide) (hbr.alloc hbw _)
        have p1 : decide (at_ < 0) = false := decide_eq_false (by omega)
        by_cases p2 : 200 < at_
        · have p2 : decide ((200 : Int) < at_) = true := decide_eq_true (by omega)
          go_wp2
          go_ret
          exact Hfin.out 1 _ (by decide) (hbr.alloc hbw _)
        have p2 : decide ((200 : Int) < at_) = false := decide_eq_false (by omega)
        by_cases p3 : del < 0
        · have p3 : decide (del < 0) = true := decide_eq_true (by omega)
          go_wp2
          go_ret
          exact Hfin.out 1 _ (by decide) (hbr.alloc hbw _)
        have p3 : decide (del < 0) = false := decide_eq_false (by omega)
        by_cases p4 : 200 < del
        · have p4 : decide ((200 : Int) < del) = true := decide_eq_true (by omega)
          go_wp2
          go_ret
          exact Hfin.out 1 _ (by decide) (hbr.alloc hbw _)
        have p4 : decide ((200 : Int) < del) = false := decide_eq_false (by omega)
        have hi : 40 < ins.size := by
          rcases Nat.lt_or_ge 40 ins.size with g | g
          · exact g
          · exact absurd ⟨⟨by have := of_decide_eq_false p1; show 0 ≤ at_; omega, by have := of_decide_eq_false p2; show at_ ≤ 200; omega⟩, ⟨by have := of_decide_eq_false p3; show 0 ≤ del; omega, by have := of_decide_eq_false p4; show del ≤ 200; omega⟩, g⟩ hok
        have p5 : decide ((40 : Int) < (ins.size : Int)) = true := decide_eq_true (by omega)
        have p5' : decide (40 < ins.size) = true := decide_eq_true hi
        go_wp2
        go_ret
        exact Hfin.out 2 _ (by decide) (hbr.alloc hbw _)
    · obtain rfl : len = k := by omega
      go_wp2
      go_ret
      exact ⟨0, rfl, ⟨fun _ => ⟨by rw [Hl.out]; omega, by have := Hok.out; rwa [← Hl.out, List.take_length] at this⟩, fun _ => rfl⟩, hbr⟩

/-- What number tells. -/
def ToldNum (s : ByteArray) (e : UInt8) (most : Nat) (w : World) (en : Ending) (w' : World) : Prop :=
  (∃ q, w' = w.drewN q) ∧ ((∃ (n : Nat) (r : ByteArray), en = .returned (.tuple #[.int .i64 (n : Int), .string r, .bool true]) ∧ NumOk s.data.toList e most n r.data.toList) ∨
    (∃ (n : Int) (r : ByteArray), en = .returned (.tuple #[.int .i64 n, .string r, .bool false]) ∧ ∀ m t, ¬ NumOk s.data.toList e most m t))
set_option maxHeartbeats 1000000 in
theorem number_any (s : ByteArray) (hs : s.size ≤ 140737488351232) (e : UInt8) (he : ¬ IsDig e) (most : Nat) (hm : most ≤ 1000) (w : World) :
    Calls Tryd.prog 98 #[.string s, .int .u8 (e.toNat : Int), .int .i64 (most : Int)] w (ToldNum s e most w) := by
  have He := Lib.hid he
  clear he
  go_enter Tryd.func98, Tryd.ntmps98
  go_wp2
  go_loopw [9, 10, 11, 14] (fun nv _ _ kv wr => ∃ k n : Nat, k ≤ s.size ∧ n ≤ most ∧ kv = .int .i64 k ∧ nv = .int .i64 n ∧ Hid (NumS s.data.toList most k n) ∧ ∃ q, wr = w.drewN q) (fun _ _ _ kv _ => s.size - (intOf kv).toNat)
  case atStart => exact ⟨0, 0, Nat.zero_le _, Nat.zero_le _, rfl, rfl, Lib.hid (nums_start _ _), 0, rfl⟩
  case round =>
    obtain ⟨k, n, hk, hn, rfl, rfl, Hs, q, rfl⟩ := hrel
    by_cases hlt : k < s.size
    · have hgk := getD_bytes s k hlt
      have Hgk := Lib.hid hgk
      clear hgk
      have hlt' : (k : Int) < (s.size : Int) := by omega
      have hc8 : (s[k].toNat : Int) < 256 := by have := s[k].toNat_lt; omega
      by_cases hce : s[k] = e
      · have q1 : ((s[k].toNat : Int) == (e.toNat : Int)) = true := by rw [hce]; simp
        have hse : s.data.toList.getD k 0 = e := by rw [Hgk.out, hce]
        have hwk : IntKind.i64.wrap ((k : Int) + 1) = ((k + 1 : Nat) : Int) := by rw [IntKind.wrap_i64]; omega
        have hk1 : ((k + 1 : Nat) : Int) ≤ (s.size : Int) := by omega
        obtain ⟨k', hk'⟩ : ∃ k', k + 1 = k' := ⟨_, rfl⟩
        rw [hk'] at hwk hk1
        have hs0 : (0 : Nat) < s.size := by omega
        have hs0' : (0 : Int) < (s.size : Int) := by omega
        have hg0 := getD_bytes s 0 hs0
        have hext : (s.extract k' s.size).data.toList = s.data.toList.drop (k + 1) := by
          rw [Lib.extract_data, hk', List.take_of_length_le]; rw [List.length_drop]; exact Nat.le_refl _
        have Hext := Lib.hid hext
        have Hse := Lib.hid hse
        have Hk' := Lib.hid hk'
        have Hg0 := Lib.hid hg0
        clear hce hse hext hk' hg0
        by_cases k0 : 0 < k
        · have p1 : decide ((0 : Int) < (k : Int)) = true := decide_eq_true (by omega)
          by_cases h48 : s[0] = 48
          · have p2 : ((s[0].toNat : Int) != 48) = false := by rw [h48]; rfl
            have H48 := Lib.hid h48
            clear h48
            by_cases k1 : k = 1
            · have p3 : ((k : Int) == 1) = true := by rw [k1]; rfl
              have hok := Hs.out.done He.out (by exact hlt) Hse.out ⟨k0, .inr k1⟩
              have Hok := Lib.hid hok
              clear hok k1
              go_wp2
              go_quiet (fail)
              clear hwk
              go_wp2
              go_ret3
              exact ⟨⟨_, World.drewN_drewN _ _ _⟩, .inl ⟨n, s.extract k' s.size, rfl, by rw [Hext.out]; exact Hok.out⟩⟩
            · have p3 : ((k : Int) == 1) = false := by rw [beq_eq_false_iff_ne]; omega
              have hok := Hs.out.bad0 He.out (by exact hlt) Hse.out (fun h => by
                rcases h.2 with g | g
                · exact g (by rw [Hg0.out]; exact H48.out)
                · exact k1 g)
              have Hok := Lib.hid hok
              clear hok k1
              go_wp2
              go_quiet (fail)
              clear hwk
              go_wp2
              go_ret3
              exact ⟨⟨_, World.drewN_drewN _ _ _⟩, .inr ⟨(n : Int), s.extract k' s.size, rfl, Hok.out⟩⟩
          · have p2 : ((s[0].toNat : Int) != 48) = true := by rw [bne_iff_ne]; intro g; exact h48 (UInt8.toNat_inj.1 (by show s[0].toNat = 48; omega))
            have hok := Hs.out.done He.out (by exact hlt) Hse.out ⟨k0, .inl (by rw [Hg0.out]; exact h48)⟩
            have Hok := Lib.hid hok
            clear hok h48
            go_wp2
            go_quiet (fail)
            clear hwk
            go_wp2
            go_ret3
            exact ⟨⟨_, World.drewN_drewN _ _ _⟩, .inl ⟨n, s.extract k' s.size, rfl, by rw [Hext.out]; exact Hok.out⟩⟩
        · have p1 : decide ((0 : Int) < (k : Int)) = false := decide_eq_false (by omega)
          have hok := Hs.out.bad0 He.out (by exact hlt) Hse.out (fun h => k0 h.1)
          have Hok := Lib.hid hok
          clear hok
          go_wp2
          go_quiet (fail)
          clear hwk
          go_wp2
          go_ret3
          exact ⟨⟨_, World.drewN_drewN _ _ _⟩, .inr ⟨(n : Int), s.extract k' s.size, rfl, Hok.out⟩⟩
      · have q1 : ((s[k].toNat : Int) == (e.toNat : Int)) = false := by rw [beq_eq_false_iff_ne]; intro g; exact hce (UInt8.toNat_inj.1 (by omega))
        by_cases hd : IsDig s[k]
        · obtain ⟨d1, d2⟩ := hd
          have p1 : decide ((s[k].toNat : Int) < 48) = false := decide_eq_false (by omega)
          have p2 : decide ((57 : Int) < (s[k].toNat : Int)) = false := decide_eq_false (by omega)
          have hdg : IsDig (s.data.toList.getD k 0) := by rw [Hgk.out]; exact ⟨d1, d2⟩
          obtain ⟨m, hm2⟩ : ∃ m, 10 * n + (s[k].toNat - 48) = m := ⟨_, rfl⟩
          have him : 10 * (n : Int) + ((s[k].toNat : Int) - 48) = (m : Int) := by omega
          by_cases hgt : most < m
          · have p3 : decide ((most : Int) < (m : Int)) = true := decide_eq_true (by omega)
            have p3' : decide (most < m) = true := decide_eq_true hgt
            have hok := Hs.out.bad2 He.out (by exact hlt) hdg (by rw [Hgk.out, hm2]; exact hgt)
            have Hok := Lib.hid hok
            clear hok hce hdg hm2
            go_wp2
            go_ret3
            exact ⟨⟨_, rfl⟩, .inr ⟨0, ⟨#[]⟩, rfl, Hok.out⟩⟩
          · have p3 : decide ((most : Int) < (m : Int)) = false := decide_eq_false (by omega)
            have p3' : decide (most < m) = false := decide_eq_false hgt
            have hok := Hs.out.step (by exact hlt) hdg (by rw [Hgk.out, hm2]; omega)
            rw [Hgk.out, hm2] at hok
            have Hok := Lib.hid hok
            clear hok hce hdg hm2
            go_wp2
            go_roundw
            case rel => exact ⟨k + 1, m, by omega, by omega, by go_num, by first | rfl | go_num, Hok, _, rfl⟩
            case measure => simp [intOf]; omega
        · have hdg : ¬ IsDig (s.data.toList.getD k 0) := by rw [Hgk.out]; exact hd
          have hok := Hs.out.bad1 He.out (by exact hlt) (by rw [Hgk.out]; exact hce) hdg
          have Hok := Lib.hid hok
          clear hok hce hdg
          by_cases h48 : (s[k].toNat : Int) < 48
          · have p1 : decide ((s[k].toNat : Int) < 48) = true := decide_eq_true h48
            go_wp2
            go_ret3
            exact ⟨⟨_, rfl⟩, .inr ⟨0, ⟨#[]⟩, rfl, Hok.out⟩⟩
          · have p1 : decide ((s[k].toNat : Int) < 48) = false := decide_eq_false h48
            have p2 : decide ((57 : Int) < (s[k].toNat : Int)) = true := decide_eq_true (by unfold IsDig at hd; omega)
            go_wp2
            go_ret3
            exact ⟨⟨_, rfl⟩, .inr ⟨0, ⟨#[]⟩, rfl, Hok.out⟩⟩
    · obtain rfl : k = s.size := by omega
      go_wp2
      go_ret3
      exact ⟨⟨_, rfl⟩, .inr ⟨0, ⟨#[]⟩, rfl, Hs.out.bad3 He.out⟩⟩
end Go.Proofs.YtigbnldmjafgmaaDoor
