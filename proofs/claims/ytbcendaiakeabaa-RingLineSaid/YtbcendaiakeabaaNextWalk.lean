/- The walk of lyndon.Next. -/
import Derived.Test.YtbcendaiakeabaaLyndonLaws
import Derived.Test.YtbcendaiakeabaaNext
import Derived.Test.YtbcendaiakeabaaTail
namespace Go.Proofs.Ytbcendaiakeabaa
open Go.RowKit
set_option linter.unusedVariables false

theorem infoB8 : (Try.prog.info? 5).map (fun i => (i.zero, i.size, i.bytes)) = some (some (.int .u8 0), 1, 1) := by kernel_rfl
theorem sizeB8 (w : World) : (sizeOf (Try.prog.elem 22)).run Try.prog w = .ok 1 w := by
  rw [show Try.prog.elem 22 = 5 from by kernel_rfl]
  exact Try.sizeOf5 w
/-- Next's answer. -/
def ToldNext (s : List UInt8) (n : Int) (last : UInt8) (w : World) (e : Ending) (w' : World) : Prop :=
  Below w.heap.size w w' ∧
  ((∃ E : Int, E ≠ 0 ∧ E ≠ 4 ∧ e = .returned (.tuple #[.string ⟨#[]⟩, .int .i64 E]) ∧ ¬ (1 ≤ n ∧ n ≤ 200 ∧ s.length ≤ n ∧ Lyn s ∧ ∀ y ∈ s, y ≤ last)) ∨
   (∃ N : Nat, n = N ∧ N ≤ 200 ∧ Lyn s ∧ s.length ≤ N ∧ (∀ y ∈ s, y ≤ last) ∧
     ((e = .returned (.tuple #[.string ⟨#[]⟩, .int .i64 4]) ∧ ∀ x, x < N → s.getD (x % s.length) 0 = last) ∨
      ∃ p, NextAt s N last p ∧ e = .returned (.tuple #[.string (tx (p ++ [s.getD (p.length % s.length) 0 + 1])), .int .i64 0]))))
theorem ToldNext.bad {s : List UInt8} {n : Int} {last : UInt8} {w : World} {w' : World} (E : Int) (h0 : E ≠ 0) (h4 : E ≠ 4) (hn : ¬ (1 ≤ n ∧ n ≤ 200 ∧ s.length ≤ n ∧ Lyn s ∧ ∀ y ∈ s, y ≤ last)) (hb : Below w.heap.size w w') :
    ToldNext s n last w (.returned (.tuple #[.string ⟨#[]⟩, .int .i64 E])) w' := ⟨hb, .inl ⟨E, h0, h4, rfl, hn⟩⟩
theorem ToldNext.none {s : List UInt8} {last : UInt8} {w w' : World} (N : Nat) (hN : N ≤ 200) (hs : Lyn s) (hl : s.length ≤ N) (ha : ∀ y ∈ s, y ≤ last) (h : ∀ x, x < N → s.getD (x % s.length) 0 = last) (hb : Below w.heap.size w w') :
    ToldNext s N last w (.returned (.tuple #[.string ⟨#[]⟩, .int .i64 4])) w' := ⟨hb, .inr ⟨N, rfl, hN, hs, hl, ha, .inl ⟨rfl, h⟩⟩⟩
theorem ToldNext.some {s : List UInt8} {last : UInt8} {w w' : World} (N : Nat) (hN : N ≤ 200) (hs : Lyn s) (hl : s.length ≤ N) (ha : ∀ y ∈ s, y ≤ last) (p : List UInt8) (h : NextAt s N last p) (hb : Below w.heap.size w w') (b : ByteArray) (hbb : b.data.toList = p ++ [s.getD (p.length % s.length) 0 + 1]) :
    ToldNext s N last w (.returned (.tuple #[.string b, .int .i64 0])) w' := ⟨hb, .inr ⟨N, rfl, hN, hs, hl, ha, .inr ⟨p, h, by rw [← hbb, show tx b.data.toList = b from ba_ext rfl]⟩⟩⟩
theorem le_of_not_lt8 {x y : UInt8} (h : ¬ y < x) : x ≤ y := by rw [UInt8.le_iff_toNat_le]; rw [UInt8.lt_iff_toNat_lt] at h; omega
theorem mem_getD {l : List UInt8} {y : UInt8} (h : y ∈ l) : ∃ j, j < l.length ∧ l.getD j 0 = y := by
  obtain ⟨j, hj, e⟩ := List.getElem_of_mem h
  exact ⟨j, hj, by rw [List.getD_eq_getElem?_getD, List.getElem?_eq_getElem hj]; exact e⟩

set_option maxRecDepth 100000 in
set_option maxHeartbeats 4000000 in
theorem next_any (s : ByteArray) (hs0 : s.size ≤ 140737488351232) (n : Int) (hn : -9223372036854775808 ≤ n ∧ n ≤ 9223372036854775807) (last : UInt8) (w : World) :
    Calls Try.prog 64 #[.string s, .int .i64 n, .int .u8 (last.toNat : Int)] w (ToldNext s.data.toList n last w) := by
  have hsl : s.data.toList.length = s.size := rfl
  by_cases h1 : n < 1
  · have q1 : decide (n < 1) = true := decide_eq_true h1
    go_enter Try.func64, Try.ntmps64
    go_wp2
    go_ret2
    exact ToldNext.bad 1 (by decide) (by decide) (fun h => by omega) (Below.refl _ _)
  by_cases h2 : 200 < n
  · have q1 : decide (n < 1) = false := decide_eq_false h1
    have q2 : decide (200 < n) = true := decide_eq_true h2
    go_enter Try.func64, Try.ntmps64
    go_wp2
    go_ret2
    exact ToldNext.bad 1 (by decide) (by decide) (fun h => by omega) (Below.refl _ _)
  obtain ⟨N, rfl⟩ : ∃ N : Nat, n = N := ⟨n.toNat, by omega⟩
  have q1 : decide ((N : Int) < 1) = false := decide_eq_false h1
  have q2 : decide (200 < (N : Int)) = false := decide_eq_false h2
  by_cases h3 : N < s.size
  · have q3 : decide ((N : Int) < (s.size : Int)) = true := decide_eq_true (by omega)
    have q3n : decide (N < s.size) = true := decide_eq_true (by omega)
    go_enter Try.func64, Try.ntmps64
    go_wp2
    go_ret2
    exact ToldNext.bad 2 (by decide) (by decide) (fun h => by rw [hsl] at h; omega) (Below.refl _ _)
  have q3 : decide ((N : Int) < (s.size : Int)) = false := decide_eq_false (by omega)
  have q3n : decide (N < s.size) = false := decide_eq_false (by omega)
  have hs : s.size ≤ 200 := by omega
  have HI := Lib.hid (is_ok s hs)
  have hget := fun j hj => getD_bytes s j hj
  have Hget := Lib.hid hget
  have Hsl := Lib.hid hsl
  have hsN : s.size ≤ N := by omega
  have hN : N ≤ 200 := by omega
  have hcv := fun w s => run_bytes_of_string (P := Try.prog) w 9 22 5 s Try.underlying9 Try.underlying22 Try.underlying5
  clear hget hsl hn
  go_enter Try.func64, Try.ntmps64
  go_wp2_with fail
  refine (HI.out _).mono ?_
  rintro e w1 ⟨b, hb, rfl, hb1⟩
  by_cases hlyn : Lyn s.data.toList
  case neg =>
    obtain rfl : b = false := by
      rw [Bool.eq_false_iff]; intro h; exact hlyn (hb.1 h)
    go_wp2
    go_ret2
    exact ToldNext.bad 3 (by decide) (by decide) (fun h => hlyn h.2.2.2.1) hb1
  obtain rfl : b = true := hb.2 hlyn
  have Hlyn := Lib.hid hlyn
  clear hb hlyn
  have h0 : 0 < s.size := by rw [← Hsl.out]; exact List.length_pos_iff.2 Hlyn.out.1
  go_wp2
  generalize hW : World.drew _ = W
  obtain ⟨hb0, hz0, hat⟩ := bytes_at s _ (grownCap_ge _ _ _ _) _ _ _ hW
  clear hW
  generalize grownCap _ _ _ _ = cap
  have hbw := chain hb0 hb1
  have hltg : w1.heap.size < W.heap.size := by omega
  clear hb0 hb1 hz0
  generalize w1.heap.size = g at *
  go_loop [11, 34] (fun _ i => ∃ k : Nat, k ≤ s.size ∧ i = .int .i64 k ∧ Hid (∀ j, j < k → s.data.toList.getD j 0 ≤ last)) (fun _ i => s.size - (intOf i).toNat)
  case atStart => exact ⟨0, Nat.zero_le _, rfl, Lib.hid (fun j hj => by omega)⟩
  case round =>
    obtain ⟨k, hk, rfl, Hv⟩ := hrel
    by_cases hlt : k < s.size
    · have hck := (hat.2 k hlt).1
      rw [getD_bytes s k hlt] at hck
      by_cases hgt : last < s[k]
      · have q4 : decide ((last.toNat : Int) < (s[k].toNat : Int)) = true := decide_eq_true (by rw [UInt8.lt_iff_toNat_lt] at hgt; omega)
        have q4n : decide (last.toNat < s[k].toNat) = true := decide_eq_true (by rw [UInt8.lt_iff_toNat_lt] at hgt; omega)
        have hbad : ¬ ∀ y ∈ s.data.toList, y ≤ last := fun h => by
          have := h s[k] (by
            rw [← Hget.out k hlt, List.getD_eq_getElem?_getD, List.getElem?_eq_getElem (by rw [Hsl.out]; exact hlt)]
            exact List.getElem_mem _)
          rw [UInt8.le_iff_toNat_le] at this
          rw [UInt8.lt_iff_toNat_lt] at hgt
          omega
        have Hbad := Lib.hid hbad
        clear hbad hgt
        go_wp2
        go_ret2
        exact ToldNext.bad 1 (by decide) (by decide) (fun h => Hbad.out h.2.2.2.2) hbw
      · have q4 : decide ((last.toNat : Int) < (s[k].toNat : Int)) = false := decide_eq_false (by rw [UInt8.lt_iff_toNat_lt] at hgt; omega)
        have q4n : decide (last.toNat < s[k].toNat) = false := decide_eq_false (by rw [UInt8.lt_iff_toNat_lt] at hgt; omega)
        go_wp2
        go_round
        case rel =>
          refine ⟨k + 1, by omega, by go_num, Lib.hid fun j hj => ?_⟩
          by_cases e : j = k
          · rw [e, Hget.out k hlt]; exact le_of_not_lt8 hgt
          · exact Hv.out j (by omega)
        case measure => simp [intOf]; omega
    · obtain rfl : k = s.size := by omega
      have hall : ∀ y ∈ s.data.toList, y ≤ last := fun y hy => by
        obtain ⟨j, hj, e⟩ := mem_getD hy
        rw [← e]; exact Hv.out j (by rw [← Hsl.out]; exact hj)
      have Hall := Lib.hid hall
      clear hall Hv hat hltg
      go_wp2
      generalize hW : World.drew _ = W2
      have hown := OwnB.made (base := W.heap.size) s _ (grownCap_ge _ _ _ _) (grownCap_le_maxLen _ _ _ _ (by unfold maxLen; omega)) _ _ _ hW (Nat.le_refl _)
      obtain ⟨hb0, hz0, _⟩ := bytes_at s _ (grownCap_ge _ _ _ _) _ _ _ hW
      clear hW
      generalize grownCap _ _ _ _ = cap2 at *
      have hbw2 := chain hb0 hbw
      have hB : W.heap.size ≤ W2.heap.size := by omega
      have hBw : w.heap.size ≤ W.heap.size := hbw.size
      clear hb0 hbw hz0
      generalize W.heap.size = B at *
      have hper : ∀ x, x < s.size → s.data.toList.getD x 0 = s.data.toList.getD (x % s.data.toList.length) 0 := fun x hx => by rw [Hsl.out, Nat.mod_eq_of_lt hx]
      have Hper := Lib.hid hper
      clear hper
      go_loopw [12, 13] (fun bv kv wr => ∃ (k : Nat) (A : Option Addr) (c : Nat) (l : List UInt8), s.size ≤ k ∧ k ≤ N ∧ kv = .int .i64 k ∧ bv = .slice A k c ∧ OwnB wr B 5 A k c l ∧
          Hid (∀ x, x < k → l.getD x 0 = s.data.toList.getD (x % s.data.toList.length) 0) ∧ Below w.heap.size w wr ∧ B ≤ wr.heap.size) (fun _ kv _ => N - (intOf kv).toNat)
      case atStart => exact ⟨s.size, some ⟨B, 0, none⟩, cap2, s.data.toList, Nat.le_refl _, hsN, rfl, rfl, hown, Hper, hbw2, hB⟩
      case round =>
        clear hown Hper hbw2 hB
        obtain ⟨k, A, c, l, hsk, hkN, rfl, rfl, hown, Hper, hbr, hBr⟩ := hrel
        obtain ⟨g2, rfl⟩ := hown.shape (by omega)
        by_cases hlt : k < N
        · obtain ⟨m, hm⟩ : ∃ m : Nat, k = s.size + m := ⟨k - s.size, by omega⟩
          have e1 : (k : Int) - (s.size : Int) = (m : Int) := by omega
          have hmk : m < k := by omega
          have hmk' : (m : Int) < (k : Int) := by omega
          have e2 : IntKind.i64.wrap ((k : Int) - (s.size : Int)) = (m : Int) := by rw [IntKind.wrap_i64]; omega
          have hc := hown.cell m hmk
          have hx := Hper.out m hmk
          generalize hy : l.getD m 0 = y at *
          have Hx := Lib.hid hx
          have Hm := Lib.hid hm
          clear hx hm hy
          go_wp2_with (first | (at_builtin; go_must (refine wpList_append_B _ 22 (.tmp 51) (.tmp 59) rfl rfl B 5 infoB8 Try.underlying22 _ _ _ _ rfl hown y rfl (by omega) hBr ?_); intro A3 c3 w3 hown3 hb3))
          go_roundw
          case rel =>
            refine ⟨k + 1, A3, c3, l ++ [y], by omega, by omega, by go_num, rfl, hown3, Lib.hid fun x hx => ?_, hbr.trans (hb3.mono hBw), Nat.le_trans hBr hb3.size⟩
            have hl := hown.len
            by_cases e : x < k
            · rw [getD_appL _ _ _ (by omega)]; exact Hper.out x e
            · obtain rfl : x = k := by omega
              rw [getD_app_right _ _ _ _ (by omega), show x - l.length = 0 from by omega]
              show y = _
              rw [Hx.out, Hm.out, Hsl.out, Nat.add_mod_left]
          case measure => simp [intOf]; omega
        · obtain rfl : k = N := by omega
          have hl := hown.len
          have Hl := Lib.hid hl
          clear hl
          go_wp2
          go_loop [12] (fun bv => ∃ m : Nat, m ≤ k ∧ bv = .slice (some ⟨g2, 0, none⟩) m c ∧ Hid (∀ x, m ≤ x → x < k → l.getD x 0 = last)) (fun bv => match bv with | .slice _ m _ => m | _ => 0)
          case atStart => exact ⟨k, Nat.le_refl _, rfl, Lib.hid fun x h1 h2 => by omega⟩
          case round =>
            obtain ⟨m, hmk, rfl, Hv⟩ := hrel
            rcases Nat.eq_zero_or_pos m with h00 | hpos
            · subst h00
              go_wp2
              go_ret2
              exact ToldNext.none k hN Hlyn.out (by rw [Hsl.out]; exact hsN) Hall.out (fun x hx => by rw [← Hper.out x hx]; exact Hv.out x (Nat.zero_le _) hx) hbr
            · obtain ⟨j, rfl⟩ : ∃ j, m = j + 1 := ⟨m - 1, by omega⟩
              have hjk : j < k := by omega
              have e1 : ((j + 1 : Nat) : Int) - 1 = (j : Int) := by omega
              have e2 : IntKind.i64.wrap (((j + 1 : Nat) : Int) - 1) = (j : Int) := by rw [IntKind.wrap_i64]; omega
              have hc := hown.cell j hjk
              have hf := hown.frozen j hjk
              have hpj := Hper.out j hjk
              have hsl1 := fun w => slice_B (P := Try.prog) wr B 5 _ (j + 1) c _ (hown.short (j + 1) hmk) 22 (by kernel_rfl) sizeB8 (k := j) (by omega) (by omega) w
              have hset := (hown.short (j + 1) hmk).set j (by omega) (l.getD j 0 + 1)
              have hstr := run_string_B (P := Try.prog) _ 22 9 5 B _ (j + 1) c _ hset Try.underlying22 Try.underlying5 Try.underlying9
              have hle : l.getD j 0 ≤ last := by
                rw [hpj]
                refine Hall.out _ ?_
                have hlt : j % s.data.toList.length < s.data.toList.length := Nat.mod_lt _ (by rw [Hsl.out]; exact h0)
                rw [List.getD_eq_getElem?_getD, List.getElem?_eq_getElem hlt]
                exact List.getElem_mem hlt
              have hset1 : (l.take (j + 1)).set j (l.getD j 0 + 1) = l.take j ++ [l.getD j 0 + 1] := by
                rw [take_succ_B l j (by rw [Hl.out]; exact hjk), List.set_append_right _ _ (by rw [List.length_take]; omega), List.length_take, Nat.min_eq_left (by rw [Hl.out]; omega), Nat.sub_self]
                rfl
              rw [hset1] at hstr
              have Hpj := Lib.hid hpj
              have Hle := Lib.hid hle
              have hbs := hbr.setCell (p := ⟨g2, j, none⟩) (by have := hown.lt.1; show w.heap.size ≤ g2; omega) (.int .u8 ((l.getD j 0 + 1).toNat : Int))
              clear hset1 hset hpj hle
              generalize hy : l.getD j 0 = y at *
              by_cases heq : y = last
              · have q5 : ((y.toNat : Int) == (last.toNat : Int)) = true := by rw [heq]; simp
                have Hy := Lib.hid hy
                clear hstr hbs hy
                go_wp2
                go_round
                case rel =>
                  refine ⟨j, by omega, rfl, Lib.hid fun x hx hxk => ?_⟩
                  by_cases e : x = j
                  · rw [e, Hy.out, heq]
                  · exact Hv.out x (by omega) hxk
                case measure => simp
              · have q5 : ((y.toNat : Int) == (last.toNat : Int)) = false := by
                  rw [beq_eq_false_iff_ne]; intro h; exact heq (UInt8.toNat_inj.1 (by omega))
                have hlt8 : y < last := by
                  have := Hle.out
                  rw [UInt8.le_iff_toNat_le] at this
                  rw [UInt8.lt_iff_toNat_lt]
                  have : y.toNat ≠ last.toNat := fun h => heq (UInt8.toNat_inj.1 h)
                  omega
                have hl255 : y.toNat + 1 ≤ 255 := by
                  rw [UInt8.lt_iff_toNat_lt] at hlt8
                  have := last.toNat_lt
                  omega
                have hy1 : (y + 1).toNat = y.toNat + 1 := by rw [UInt8.toNat_add, show (1 : UInt8).toNat = 1 from rfl]; omega
                have hy2 : ((y + 1).toNat : Int) = (y.toNat : Int) + 1 := by omega
                have Hy := Lib.hid hy
                have Hlt8 := Lib.hid hlt8
                rw [hy2] at hstr hbs
                clear hy hlt8 hy1 hy2 hsl1
                go_wp2
                go_ret2
                refine ToldNext.some k hN Hlyn.out (by rw [Hsl.out]; exact hsN) Hall.out (l.take j) ⟨?_, fun x hx => ?_, ?_, fun x hx hxk => ?_⟩ hbs _ ?_
                all_goals have hlj : (l.take j).length = j := by rw [List.length_take, Hl.out]; omega
                · rw [hlj]; exact hjk
                · rw [hlj] at hx
                  rw [getD_takeB _ _ _ hx]; exact Hper.out x (by omega)
                · rw [hlj, ← Hpj.out]; exact Hlt8.out
                · rw [hlj] at hx
                  rw [← Hper.out x hxk]; exact Hv.out x hx hxk
                · exact (show _ = l.take j ++ [y + 1] from rfl).trans (by rw [hlj, ← Hpj.out])

end Go.Proofs.Ytbcendaiakeabaa
