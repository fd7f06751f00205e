/- The walk of turn.Count. -/
import Derived.Test.YtmkcmjhdbjhmmaaCountQ
import Derived.Test.YtmkcmjhdbjhmmaaCheck
import Derived.Test.YtmkcmjhdbjhmmaaStruct
import Derived.Test.YtmkcmjhdbjhmmaaLaidCount
import Derived.IntWalk
import Derived.BigRegion
import Derived.StillTailTactics
import Derived.Deep.RegionHeldLaw
namespace Go.Proofs.Ytmkcmjhdbjhmmaa
open Go.RowKit
set_option linter.unusedVariables false

theorem zero257 : ∀ w, (zeroValue 29).run Try.prog w = .ok (.agg (Array.replicate 257 (.int .i64 0))) w := fun w => by
  have h : (Try.prog.info? 29).map (fun i => i.zero) = some (some (.agg (Array.replicate 257 (.int .i64 0)))) := by kernel_rfl
  obtain ⟨i, hi, hz⟩ := Option.map_eq_some_iff.1 h
  simp [zeroValue, typeInfo, hi, hz]
theorem ints257 (w : World) : Below w.heap.size w (w.alloc (Obj.cells (Array.replicate 257 (.int .i64 0)) 29)) ∧ (w.alloc (Obj.cells (Array.replicate 257 (.int .i64 0)) 29)).heap.size = w.heap.size + 1 ∧ IntsAt (w.alloc (Obj.cells (Array.replicate 257 (.int .i64 0)) 29)) w.heap.size (List.replicate 257 0) := by
  refine ⟨(Below.refl _ _).alloc (Nat.le_refl _) _, by simp, by simp, fun j hj => ?_⟩
  rw [List.length_replicate] at hj
  refine ⟨?_, ?_⟩
  · rw [World.cell?_alloc_mark, Array.getElem?_replicate, if_pos hj]
    rw [List.getD_eq_getElem?_getD, List.getElem?_replicate, if_pos hj]; rfl
  · rw [World.frozen?_alloc_mark]; simp
/-- A number that lies there by itself. -/
abbrev CAt (g c : Nat) (v : Int) (W : World) (w' : World) : Prop := w'.cell? ⟨g, c, none⟩ = some (.int .i64 v) ∧ g < w'.heap.size ∧ Below W.heap.size W w'
theorem CAt.on {g c : Nat} {v : Int} {W w1 w2 : World} (h : CAt g c v W w1) (hb : Below w1.heap.size w1 w2) : CAt g c v W w2 := by
  obtain ⟨h1, h2, h3⟩ := h
  exact ⟨(hb.cell h2).trans h1, Nat.lt_of_lt_of_le h2 hb.size, chain hb h3⟩
theorem CAt.alloc {g c : Nat} {v : Int} {W w1 : World} (h : CAt g c v W w1) (o : Obj) : CAt g c v W (w1.alloc o) := h.on ((Below.refl _ _).alloc (Nat.le_refl _) o)
theorem count_k {s t : ByteArray} {n : Nat} {w : World} {K : Ending → World → Prop} (hI : Hid (∀ w, Calls Try.prog 8 #[.string s, .string t] w fun e w' => e = .returned (.int .i64 (n : Int)) ∧ w = w'))
    (hk : K (.returned (.int .i64 (n : Int))) w) : Calls Try.prog 8 #[.string s, .string t] w K :=
  (hI.out w).mono fun e w' ⟨he, hb⟩ => by rw [he, ← hb]; exact hk
/-- A region's walk may go on under a stronger condition. -/
theorem wpAnyH_to {P : Program} {md : Region.Mode} {ops : Array Oper} {Q : Exit → Act → World → Prop} {S S2 : World → Prop} (h : ∀ w, S2 w → S w) : ∀ (fuel : Nat) (listed : Array Bool) (a : Act) (w : World), wpAnyH P md ops Q S2 fuel listed a w → wpAnyH P md ops Q S fuel listed a w
  | 0, _, _, _, k => k
  | fuel + 1, _, _, _, k => ⟨k.1, fun i hi => wpOp_mono (fun a' w' k' => ⟨h _ k'.1, wpAnyH_to h fuel _ a' w' k'.2⟩) (k.2 i hi)⟩
theorem one_byte (W : World) (g : Nat) (b : UInt8) (h : W.cell? ⟨g, 0, none⟩ = some (.int .u8 (b.toNat : Int))) : (convert 31 9 (.slice (some ⟨g, 0, none⟩) 1 1)).run Try.prog W = .ok (.string ⟨#[b]⟩) W :=
  run_string_of (P := Try.prog) W 31 9 5 ⟨g, 0, none⟩ 1 1 [b] rfl Try.underlying31 Try.underlying5 Try.underlying9 (fun j hj => by
    obtain rfl : j = 0 := by simpa using hj
    rw [add_zero]; exact h)

set_option maxRecDepth 100000 in
set_option maxHeartbeats 4000000 in
theorem count_ok (t p : ByteArray) (ht : t.size ≤ 200) (hp : p.size ≤ 200) (w : World) : Calls Try.prog 4 #[.string t, .string p] w fun e w' => e = .returned (.tuple #[.int .i64 (cntF t.data.toList p.data.toList : Nat), .int .i64 0]) ∧ Below w.heap.size w w' := by
  go_enter Try.func4, Try.ntmps4
  go_wp2_with fail
  refine (wordCheck_ok t ht _).mono ?_
  rintro e w1 ⟨rfl, rfl⟩
  go_wp2_with fail
  refine (wordCheck_ok p hp _).mono ?_
  rintro e w1 ⟨rfl, rfl⟩
  have hz := zero257
  obtain ⟨hbm, hzm, him⟩ := ints257 w
  rw [← tabA_zero t.data.toList] at him
  have hg0 : w.heap.size ≤ w.heap.size := Nat.le_refl _
  go_wp2
  generalize w.alloc (Obj.cells (Array.replicate 257 (.int .i64 0)) 29) = w1 at *
  have Htl : Hid (t.data.toList.length = t.size) := Lib.hid rfl
  generalize hG : w.heap.size = g at *
  go_loopw [9, 27] (fun _ iv wr => ∃ k : Nat, k ≤ t.size ∧ iv = .int .i64 k ∧ IntsAt wr g (tabA t.data.toList k) ∧ Below g w wr) (fun _ iv _ => t.size - (intOf iv).toNat)
  case atStart => exact ⟨0, Nat.zero_le _, rfl, him, hbm⟩
  case round =>
    clear him hbm hzm
    obtain ⟨k, hk, rfl, hi, hb⟩ := hrel
    by_cases hlt : k < t.size
    · have hx := byte_at' t k hlt
      have hget : t.data.toList.getD k 0 = t[k] := by rw [getD_some _ _ _ (show k < t.data.toList.length from hlt)]; exact hx _
      have hset := tabA_set (t := t.data.toList) (k := k) hlt
      rw [hget] at hset
      have Hset := Lib.hid hset
      have h256 : t[k].toNat < 256 := t[k].toNat_lt
      obtain ⟨q, hqe⟩ : ∃ q, q = t[k].toNat + 1 := ⟨_, rfl⟩
      rw [← hqe] at Hset
      have hq : q < 257 := by omega
      obtain ⟨hc0, hf0⟩ := hi.2 q (by rw [tabA_len]; omega)
      have hbd := tabA_bd t.data.toList k q hq
      rw [Htl.out] at hbd
      have hw1 : wrap64 (t[k].toNat : Int) = (t[k].toNat : Int) := IntWalk.wrap64_in _ (by omega)
      have hw2 : wrap64 ((t[k].toNat : Int) + 1) = (q : Int) := by rw [IntWalk.wrap64_in _ (by omega)]; omega
      have hw3 : ((t[k].toNat : Int) + 1) = (q : Int) := by omega
      clear hset hget hx hqe h256
      generalize (tabA t.data.toList k).getD q 0 = v at *
      go_wp2
      go_roundw
      case rel => exact ⟨k + 1, by omega, by go_num, by rw [Hset.out]; exact hi.set _ (by rw [tabA_len]; omega) _, hb.setCell (by show g ≤ g; omega) _⟩
      case measure => simp [intOf]; omega
    · obtain rfl : k = t.size := by omega
      rw [show tabA t.data.toList t.size = tabB t.data.toList 0 from (tabB_zero t.data.toList).symm] at hi
      go_wp2
      go_loopw [10, 40] (fun _ iv wr => ∃ c : Nat, c ≤ 256 ∧ iv = .int .i64 c ∧ IntsAt wr g (tabB t.data.toList c) ∧ Below g w wr) (fun _ iv _ => 256 - (intOf iv).toNat)
      case atStart => exact ⟨0, Nat.zero_le _, rfl, hi, hb⟩
      case round =>
        clear hi hb
        obtain ⟨c, hc, rfl, hi, hb⟩ := hrel
        by_cases hlc : c < 256
        · have hset := tabB_set (t := t.data.toList) hlc
          obtain ⟨q, hqe⟩ : ∃ q, q = c + 1 := ⟨_, rfl⟩
          rw [← hqe] at hset
          have Hset := Lib.hid hset
          obtain ⟨hc1, hf1⟩ := hi.2 q (by rw [tabB_len]; omega)
          obtain ⟨hc0, hf0⟩ := hi.2 c (by rw [tabB_len]; omega)
          have hbd1 := tabB_bd t.data.toList c q (by omega)
          have hbd0 := tabB_bd t.data.toList c c (by omega)
          rw [Htl.out] at hbd1 hbd0
          clear hset
          generalize (tabB t.data.toList c).getD q 0 = v1 at *
          generalize (tabB t.data.toList c).getD c 0 = v0 at *
          have e1 : IntKind.i64.wrap ((c : Int) + 1) = (q : Int) := by rw [IntKind.wrap_i64]; omega
          have i1 : q < 257 := by omega
          have i1' : (q : Int) < 257 := by omega
          have i2 : c < 257 := by omega
          have i2' : (c : Int) < 257 := by omega
          have e2 : IntKind.i64.wrap (v1 + v0) = v1 + v0 := by rw [IntKind.wrap_i64]; omega
          have q1 : decide ((c : Int) < 256) = true := decide_eq_true (by omega)
          have Hqe := Lib.hid hqe
          clear hqe
          go_wp2
          go_still_tail 9, (by kernel_rfl)
          change wpList _ _ _ _ _ wr.drew
          go_wp2
          go_roundw
          case rel => exact ⟨q, by omega, by first | rfl | go_num, by rw [Hset.out]; exact (hi.set q (by rw [tabB_len]; exact i1) _).drew, (hb.setCell (by show g ≤ g; omega) _).drew⟩
          case measure => have := Hqe.out; simp [intOf]; omega
        · obtain rfl : c = 256 := by omega
          have hcell : ∀ c : Nat, c < 256 → wr.cell? ⟨g, c, none⟩ = some (.int .i64 (lessC t.data.toList c : Nat)) := fun c hc => by
            have := (hi.2 c (by rw [tabB_len]; omega)).1
            rwa [tabB_all (by omega)] at this
          have Hcell := Lib.hid hcell
          have Hi := Lib.hid hi
          clear hcell hi
          generalize hw3 : wr = w3 at *
          go_wp2
          have q0 : IntKind.i64.wrap ((p.size : Int) - 1) = (p.size : Int) - 1 := by rw [IntKind.wrap_i64]; omega
          go_wp2
          go_loopw [11, 12, 13, 14] (fun lv hv kv _ wr => ∃ m : Nat, m ≤ p.size ∧ kv = .int .i64 ((m : Int) - 1) ∧ lv = .int .i64 (lowF t.data.toList (p.data.toList.drop m) : Nat) ∧ hv = .int .i64 (highF t.data.toList (p.data.toList.drop m) : Nat) ∧ Below w3.heap.size w3 wr) (fun _ _ kv _ _ => ((intOf kv) + 1).toNat)
          case atStart => exact ⟨p.size, Nat.le_refl _, rfl, by rw [List.drop_of_length_le (show p.data.toList.length ≤ p.size from Nat.le_refl _)]; rfl, by rw [List.drop_of_length_le (show p.data.toList.length ≤ p.size from Nat.le_refl _)]; rfl, Below.refl _ _⟩
          case round =>
            obtain ⟨m, hm, rfl, rfl, rfl, hbr⟩ := hrel
            have hlo := lowF_le t.data.toList (p.data.toList.drop m)
            have hhi := highF_le t.data.toList (p.data.toList.drop m)
            rw [Htl.out] at hlo hhi
            rcases Nat.eq_zero_or_pos m with rfl | hm0
            · have hfin : highF t.data.toList (p.data.toList.drop 0) - lowF t.data.toList (p.data.toList.drop 0) = cntF t.data.toList p.data.toList := rfl
              have Hfin := Lib.hid hfin
              clear hfin
              generalize lowF t.data.toList (p.data.toList.drop 0) = lo at *
              generalize highF t.data.toList (p.data.toList.drop 0) = hi at *
              have e1 : IntKind.i64.wrap ((hi : Int) - (lo : Int)) = (hi : Int) - (lo : Int) := by rw [IntKind.wrap_i64]; omega
              have hmax : ∀ (ats : Array TypeId) (t : TypeId) (w : World), (Builtin.max_ ats t #[.int .i64 0, .int .i64 ((hi : Int) - (lo : Int))]).run Try.prog w = .ok (.int .i64 ((hi - lo : Nat) : Int)) w := fun ats t w => by
                rw [run_max_int2]; congr 2; omega
              go_wp2
              go_ret2
              rw [Hfin.out]
              exact ⟨rfl, by rw [hG]; exact hb.trans (hbr.mono (by have := hb.size; omega))⟩
            · obtain ⟨m, rfl⟩ : ∃ k, m = k + 1 := ⟨m - 1, by omega⟩
              by_cases hlh : lowF t.data.toList (p.data.toList.drop (m + 1)) < highF t.data.toList (p.data.toList.drop (m + 1))
              case neg =>
                have hfin : cntF t.data.toList p.data.toList = 0 := by
                  have := highF_stop t.data.toList (q := p.data.toList.drop (m + 1)) (by omega) (p.data.toList.take (m + 1))
                  rw [List.take_append_drop] at this
                  unfold cntF
                  omega
                have Hfin := Lib.hid hfin
                clear hfin
                generalize lowF t.data.toList (p.data.toList.drop (m + 1)) = lo at *
                generalize highF t.data.toList (p.data.toList.drop (m + 1)) = hi at *
                have e1 : IntKind.i64.wrap ((hi : Int) - (lo : Int)) = (hi : Int) - (lo : Int) := by rw [IntKind.wrap_i64]; omega
                have hmax : ∀ (ats : Array TypeId) (t : TypeId) (w : World), (Builtin.max_ ats t #[.int .i64 0, .int .i64 ((hi : Int) - (lo : Int))]).run Try.prog w = .ok (.int .i64 0) w := fun ats t w => by
                  rw [run_max_int2, if_neg (by omega)]
                go_wp2
                go_ret2
                rw [Hfin.out]
                exact ⟨rfl, by rw [hG]; exact hb.trans (hbr.mono (by have := hb.size; omega))⟩
              case pos =>
                have hmp : m < p.size := hm
                have hx := byte_at' p m hmp
                have hget : p.data.toList.getD m 0 = p[m] := by rw [getD_some _ _ _ (show m < p.data.toList.length from hmp)]; exact hx _
                have hdrop := drop_getD p.data.toList m 0 hmp
                rw [hget] at hdrop
                have hl2 : lowF t.data.toList (p.data.toList.drop m) = lessC t.data.toList p[m].toNat + (t.data.toList.take (lowF t.data.toList (p.data.toList.drop (m + 1)))).count p[m] := by rw [hdrop]; rfl
                have hh2 : highF t.data.toList (p.data.toList.drop m) = lessC t.data.toList p[m].toNat + (t.data.toList.take (highF t.data.toList (p.data.toList.drop (m + 1)))).count p[m] := by rw [hdrop]; rfl
                have hl3 := lowF_le t.data.toList (p.data.toList.drop m)
                have hh3 := highF_le t.data.toList (p.data.toList.drop m)
                rw [Htl.out] at hl3 hh3
                have Hl2 := Lib.hid hl2
                have Hh2 := Lib.hid hh2
                rw [hl2] at hl3
                rw [hh2] at hh3
                clear hl2 hh2 hdrop hget hx hm
                have h256 : p[m].toNat < 256 := p[m].toNat_lt
                have hcc : w3.cell? ⟨g, p[m].toNat, none⟩ = some (.int .i64 (lessC t.data.toList p[m].toNat : Nat)) := Hcell.out _ h256
                generalize lowF t.data.toList (p.data.toList.drop (m + 1)) = lo at *
                generalize highF t.data.toList (p.data.toList.drop (m + 1)) = hi at *
                have e2 : (((m + 1 : Nat) : Int) - 1) = (m : Int) := by omega
                rw [e2]
                have hxl : ∀ k, (t.extract 0 k).data.toList = t.data.toList.take k := fun k => by rw [ByteArray.data_extract, Array.toList_extract, List.extract_eq_take_drop]; simp
                have CL : Hid (∀ w, Calls Try.prog 8 #[.string (t.extract 0 lo), .string ⟨#[p[m]]⟩] w fun e w' => e = .returned (.int .i64 ((t.data.toList.take lo).count p[m] : Nat)) ∧ w = w') := Lib.hid fun w => by
                  refine (Any.strings_Count_one laysCt (t.extract 0 lo) p[m] w).mono ?_
                  rintro e w' ⟨rfl, rfl⟩
                  rw [hxl]
                  exact ⟨rfl, rfl⟩
                have CH : Hid (∀ w, Calls Try.prog 8 #[.string (t.extract 0 hi), .string ⟨#[p[m]]⟩] w fun e w' => e = .returned (.int .i64 ((t.data.toList.take hi).count p[m] : Nat)) ∧ w = w') := Lib.hid fun w => by
                  refine (Any.strings_Count_one laysCt (t.extract 0 hi) p[m] w).mono ?_
                  rintro e w' ⟨rfl, rfl⟩
                  rw [hxl]
                  exact ⟨rfl, rfl⟩
                have hgl := Hi.out.1
                clear hxl
                generalize (t.data.toList.take lo).count p[m] = cl at *
                generalize (t.data.toList.take hi).count p[m] = ch at *
                generalize hc0 : lessC t.data.toList p[m].toNat = c0 at *
                have w1 : IntKind.i64.wrap ((c0 : Int) + (cl : Int)) = (c0 : Int) + (cl : Int) := by rw [IntKind.wrap_i64]; omega
                have w2 : IntKind.i64.wrap ((c0 : Int) + (ch : Int)) = (c0 : Int) + (ch : Int) := by rw [IntKind.wrap_i64]; omega
                have i1 : (p[m].toNat : Int) < 257 := by omega
                have i2 : p[m].toNat < 257 := by omega
                have K0 : CAt g p[m].toNat (c0 : Int) wr wr.drew := ⟨(hbr.cell hgl).trans hcc, Nat.lt_of_lt_of_le hgl hbr.size, (Below.refl _ _).drew⟩
                clear hcc Hcell Hi hz e2 q0 hc0 hlt hlc hk hc hw3
                generalize hC : Obj.cells #[.int .u8 (p[m].toNat : Int)] 5 = C at *
                have a0 : (wr.alloc C).cell? ⟨wr.heap.size, 0, none⟩ = some (.int .u8 (p[m].toNat : Int)) := by rw [← hC, World.cell?_alloc_mark]; rfl
                have s1 : (wr.alloc C).heap.size = wr.heap.size + 1 := by simp
                have a1 : ((wr.alloc C).alloc C).cell? ⟨wr.heap.size + 1, 0, none⟩ = some (.int .u8 (p[m].toNat : Int)) := by
                  conv => lhs; rw [← s1]; arg 1; arg 2; rw [← hC]
                  rw [World.cell?_alloc_mark]; rfl
                have keep0 : CAt g p[m].toNat (c0 : Int) wr wr.drew ∧ True → CAt g p[m].toNat (c0 : Int) wr (wr.alloc C).drew ∧ True := fun h => ⟨h.1.alloc C, trivial⟩
                have new0 : CAt g p[m].toNat (c0 : Int) wr (wr.alloc C).drew ∧ True → CAt g p[m].toNat (c0 : Int) wr (wr.alloc C).drew ∧ (wr.alloc C).drew.cell? ⟨wr.heap.size, 0, none⟩ = some (.int .u8 (p[m].toNat : Int)) := fun h => ⟨h.1, a0⟩
                have keep1 : CAt g p[m].toNat (c0 : Int) wr (wr.alloc C).drew ∧ (wr.alloc C).drew.cell? ⟨wr.heap.size, 0, none⟩ = some (.int .u8 (p[m].toNat : Int)) → CAt g p[m].toNat (c0 : Int) wr ((wr.alloc C).alloc C).drew ∧ ((wr.alloc C).alloc C).drew.cell? ⟨wr.heap.size, 0, none⟩ = some (.int .u8 (p[m].toNat : Int)) := fun h => ⟨h.1.alloc C, by
                  have hb : Below (wr.alloc C).heap.size (wr.alloc C) ((wr.alloc C).alloc C) := (Below.refl _ _).alloc (Nat.le_refl _) _
                  show ((wr.alloc C).alloc C).cell? _ = _
                  rw [hb.cell (by show wr.heap.size < _; rw [s1]; omega)]; exact a0⟩
                have new1 : CAt g p[m].toNat (c0 : Int) wr ((wr.alloc C).alloc C).drew ∧ ((wr.alloc C).alloc C).drew.cell? ⟨wr.heap.size, 0, none⟩ = some (.int .u8 (p[m].toNat : Int)) → CAt g p[m].toNat (c0 : Int) wr ((wr.alloc C).alloc C).drew ∧ ((wr.alloc C).alloc C).drew.cell? ⟨wr.heap.size, 0, none⟩ = some (.int .u8 (p[m].toNat : Int)) ∧ ((wr.alloc C).alloc C).drew.cell? ⟨wr.heap.size + 1, 0, none⟩ = some (.int .u8 (p[m].toNat : Int)) := fun h => ⟨h.1, h.2, a1⟩
                have hfinal : Below w3.heap.size w3 ((wr.alloc C).alloc C).drew := ((hbr.alloc hbr.size C).alloc (by rw [s1]; exact Nat.le_succ_of_le hbr.size) C).drew
                have wm : IntKind.i64.wrap ((m : Int) - 1) = (m : Int) - 1 := by rw [IntKind.wrap_i64]; omega
                subst hC
                clear a0 a1 s1
                go_wp2_with fail
                -- REGION
                refine wp_region_held_drew (S := fun w' => CAt g p[m].toNat (c0 : Int) wr w' ∧ True) (by kernel_rfl) ⟨K0, trivial⟩ (fun hHeld => ?_)
                refine wpAnyH_take (i := 0) (v := ?v1) rfl (by kernel_rfl) (by kernel_rfl) (by kernel_rfl) (fun _ _ _ h => h) (Or.inl ⟨by rfl, ?hy1⟩) (by assumption) ?rest1
                case hy1 =>
                  intro w hSw
                  (try dsimp only at hSw)
                  have hSc := hSw.1
                  go_simp
                  all_goals with_reducible rfl
                try simp only [Act.put]
                refine wpAnyH_take (i := 1) (v := ?v2) rfl (by kernel_rfl) (by kernel_rfl) (by kernel_rfl) (fun _ _ _ h => h) (Or.inl ⟨by rfl, ?hy2⟩) (by assumption) ?rest2
                case hy2 =>
                  intro w hSw
                  (try dsimp only at hSw)
                  have hSc := hSw.1
                  go_simp
                  all_goals with_reducible rfl
                try simp only [Act.put]
                refine wpAnyH_take (i := 2) (v := ?v3) rfl (by kernel_rfl) (by kernel_rfl) (by kernel_rfl) (fun _ _ _ h => h) (Or.inl ⟨by rfl, ?hy3⟩) (by assumption) ?rest3
                case hy3 =>
                  intro w hSw
                  (try dsimp only at hSw)
                  have hSc := hSw.1
                  go_simp
                  all_goals with_reducible rfl
                try simp only [Act.put]
                refine wpAnyH_take (i := 3) (v := ?v4) rfl (by kernel_rfl) (by kernel_rfl) (by kernel_rfl) (fun _ _ _ h => h) (Or.inl ⟨by rfl, ?hy4⟩) (by assumption) ?rest4
                case hy4 =>
                  intro w hSw
                  (try dsimp only at hSw)
                  have hSc := hSw.1
                  go_simp
                  all_goals with_reducible rfl
                try simp only [Act.put]
                refine wpAnyH_take (i := 4) (v := ?v5) rfl (by kernel_rfl) (by kernel_rfl) (by kernel_rfl) (fun _ _ _ h => h) (Or.inl ⟨by rfl, ?hy5⟩) (by assumption) ?rest5
                case hy5 =>
                  intro w hSw
                  (try dsimp only at hSw)
                  have hSc := hSw.1
                  go_simp
                  all_goals with_reducible rfl
                try simp only [Act.put]
                refine wpAnyH_take (i := 5) (v := ?v6) rfl (by kernel_rfl) (by kernel_rfl) (by kernel_rfl) (fun _ _ _ h => h) (Or.inl ⟨by rfl, ?hy6⟩) (by assumption) ?rest6
                case hy6 =>
                  intro w hSw
                  (try dsimp only at hSw)
                  have hSc := hSw.1
                  go_simp
                  all_goals with_reducible rfl
                try simp only [Act.put]
                refine wpAnyH_take (i := 6) (v := ?v7) rfl (by kernel_rfl) (by kernel_rfl) (by kernel_rfl) (fun _ _ _ h => h) (Or.inl ⟨by rfl, ?hy7⟩) (by assumption) ?rest7
                case hy7 =>
                  intro w hSw
                  (try dsimp only at hSw)
                  have hSc := hSw.1
                  go_simp
                  all_goals with_reducible rfl
                try simp only [Act.put]
                refine wpAnyH_take (i := 11) (v := ?v8) rfl (by kernel_rfl) (by kernel_rfl) (by kernel_rfl) (fun _ _ _ h => h) (Or.inl ⟨by rfl, ?hy8⟩) (by assumption) ?rest8
                case hy8 =>
                  intro w hSw
                  (try dsimp only at hSw)
                  have hSc := hSw.1
                  go_simp
                  all_goals with_reducible rfl
                try simp only [Act.put]
                refine wpAnyH_take (i := 12) (v := ?v9) rfl (by kernel_rfl) (by kernel_rfl) (by kernel_rfl) (fun _ _ _ h => h) (Or.inl ⟨by rfl, ?hy9⟩) (by assumption) ?rest9
                case hy9 =>
                  intro w hSw
                  (try dsimp only at hSw)
                  have hSc := hSw.1
                  go_simp
                  all_goals with_reducible rfl
                try simp only [Act.put]
                refine wpAnyH_take (i := 13) (v := ?v10) rfl (by kernel_rfl) (by kernel_rfl) (by kernel_rfl) (fun _ _ _ h => h) (Or.inl ⟨by rfl, ?hy10⟩) (by assumption) ?rest10
                case hy10 =>
                  intro w hSw
                  (try dsimp only at hSw)
                  have hSc := hSw.1
                  go_simp
                  all_goals with_reducible rfl
                try simp only [Act.put]
                refine wpAnyH_take (i := 14) (v := ?v11) rfl (by kernel_rfl) (by kernel_rfl) (by kernel_rfl) (fun _ _ _ h => h) (Or.inl ⟨by rfl, ?hy11⟩) (by assumption) ?rest11
                case hy11 =>
                  intro w hSw
                  (try dsimp only at hSw)
                  have hSc := hSw.1
                  go_simp
                  all_goals with_reducible rfl
                try simp only [Act.put]
                refine wpAnyH_take (i := 15) (v := ?v12) rfl (by kernel_rfl) (by kernel_rfl) (by kernel_rfl) (fun _ _ _ h => h) (Or.inl ⟨by rfl, ?hy12⟩) (by assumption) ?rest12
                case hy12 =>
                  intro w hSw
                  (try dsimp only at hSw)
                  have hSc := hSw.1
                  go_simp
                  all_goals with_reducible rfl
                try simp only [Act.put]
                refine wpAnyH_take (i := 16) (v := ?v13) rfl (by kernel_rfl) (by kernel_rfl) (by kernel_rfl) (fun _ _ _ h => h) (Or.inl ⟨by rfl, ?hy13⟩) (by assumption) ?rest13
                case hy13 =>
                  intro w hSw
                  (try dsimp only at hSw)
                  have hSc := hSw.1
                  go_simp
                  all_goals with_reducible rfl
                try simp only [Act.put]
                refine wpAnyH_take (i := 17) (v := ?v14) rfl (by kernel_rfl) (by kernel_rfl) (by kernel_rfl) (fun _ _ _ h => h) (Or.inl ⟨by rfl, ?hy14⟩) (by assumption) ?rest14
                case hy14 =>
                  intro w hSw
                  (try dsimp only at hSw)
                  have hSc := hSw.1
                  go_simp
                  all_goals with_reducible rfl
                try simp only [Act.put]
                refine wpAnyH_ready (rs := [7, 18]) (by kernel_rfl) (by simp) ?_
                refine AllReadyH.cons rfl (fun K hK => ?_) ?_
                · go_simp
                  refine hK.out _ _ ?_ (fun hHeld => ?_)
                  · exact keep0 (by assumption)
                  clear hK K
                  refine wpAnyH_to (S := fun w' => CAt g p[m].toNat (c0 : Int) wr w' ∧ True) (S2 := fun w' => CAt g p[m].toNat (c0 : Int) wr w' ∧ w'.cell? ⟨wr.heap.size, 0, none⟩ = some (.int .u8 (p[m].toNat : Int))) (fun _ h => ⟨h.1, trivial⟩) _ _ _ _ ?_
                  have hHeld2 := new0 (by assumption)
                  clear hHeld
                  refine wpAnyH_take (i := 8) (v := ?v15) rfl (by kernel_rfl) (by kernel_rfl) (by kernel_rfl) (fun _ _ _ h => h) (Or.inl ⟨by rfl, ?hy15⟩) (by assumption) ?rest15
                  case hy15 =>
                    intro w hSw
                    (try dsimp only at hSw)
                    have hSc := one_byte w _ _ hSw.2
                    go_simp
                    all_goals with_reducible rfl
                  try simp only [Act.put]
                  refine wpAnyH_ready (rs := [9, 18]) (by kernel_rfl) (by simp) ?_
                  refine AllReadyH.cons rfl (fun K hK => ?_) ?_
                  · go_simp
                    go_wp2_with (go_at_call 8; refine count_k CL ?_)
                    refine hK.out _ _ (by assumption) (fun hHeld => ?_)
                    clear hK K
                    refine wpAnyH_take (i := 10) (v := ?v16) rfl (by kernel_rfl) (by kernel_rfl) (by kernel_rfl) (fun _ _ _ h => h) (Or.inl ⟨by rfl, ?hy16⟩) (by assumption) ?rest16
                    case hy16 =>
                      intro w hSw
                      (try dsimp only at hSw)
                      have hSc := hSw.1
                      go_simp
                      all_goals with_reducible rfl
                    try simp only [Act.put]
                    refine wpAnyH_ready (rs := [18]) (by kernel_rfl) (by simp) ?_
                    refine AllReadyH.cons rfl (fun K hK => ?_) AllReadyH.nil
                    go_simp
                    refine hK.out _ _ ?_ (fun hHeld => ?_)
                    · exact keep1 (by assumption)
                    clear hK K
                    refine wpAnyH_to (S := fun w' => CAt g p[m].toNat (c0 : Int) wr w' ∧ w'.cell? ⟨wr.heap.size, 0, none⟩ = some (.int .u8 (p[m].toNat : Int))) (S2 := fun w' => CAt g p[m].toNat (c0 : Int) wr w' ∧ w'.cell? ⟨wr.heap.size, 0, none⟩ = some (.int .u8 (p[m].toNat : Int)) ∧ w'.cell? ⟨wr.heap.size + 1, 0, none⟩ = some (.int .u8 (p[m].toNat : Int))) (fun _ h => ⟨h.1, h.2.1⟩) _ _ _ _ ?_
                    have hHeld2 := new1 (by assumption)
                    clear hHeld
                    refine wpAnyH_take (i := 19) (v := ?v17) rfl (by kernel_rfl) (by kernel_rfl) (by kernel_rfl) (fun _ _ _ h => h) (Or.inl ⟨by rfl, ?hy17⟩) (by assumption) ?rest17
                    case hy17 =>
                      intro w hSw
                      (try dsimp only at hSw)
                      have hSc := one_byte w _ _ hSw.2.2
                      go_simp
                      all_goals with_reducible rfl
                    try simp only [Act.put]
                    refine wpAnyH_ready (rs := [20]) (by kernel_rfl) (by simp) ?_
                    refine AllReadyH.cons rfl (fun K hK => ?_) AllReadyH.nil
                    go_simp
                    go_wp2_with (go_at_call 8; refine count_k CH ?_)
                    refine hK.out _ _ (by assumption) (fun hHeld => ?_)
                    clear hK K
                    refine wpAnyH_take (i := 21) (v := ?v18) rfl (by kernel_rfl) (by kernel_rfl) (by kernel_rfl) (fun _ _ _ h => h) (Or.inl ⟨by rfl, ?hy18⟩) (by assumption) ?rest18
                    case hy18 =>
                      intro w hSw
                      (try dsimp only at hSw)
                      have hSc := hSw.1
                      go_simp
                      all_goals with_reducible rfl
                    try simp only [Act.put]
                    refine wpAnyH_take (i := 22) (v := ?v19) rfl (by kernel_rfl) (by kernel_rfl) (by kernel_rfl) (fun _ _ _ h => h) (Or.inl ⟨by rfl, ?hy19⟩) (by assumption) ?rest19
                    case hy19 =>
                      intro w hSw
                      (try dsimp only at hSw)
                      have hSc := hSw.1
                      go_simp
                      all_goals with_reducible rfl
                    try simp only [Act.put]
                    refine wpAnyH_take (i := 23) (v := ?v20) rfl (by kernel_rfl) (by kernel_rfl) (by kernel_rfl) (fun _ _ _ h => h) (Or.inl ⟨by rfl, ?hy20⟩) (by assumption) ?rest20
                    case hy20 =>
                      intro w hSw
                      (try dsimp only at hSw)
                      have hSc := hSw.1
                      go_simp
                      all_goals with_reducible rfl
                    try simp only [Act.put]
                    refine wpAnyH_done (by kernel_rfl) ?_ _
                    simp only [List.getElem_toArray, List.getElem_cons_succ, List.getElem_cons_zero, List.setIfInBounds_toArray, List.set_cons_zero, List.set_cons_succ]
                    go_wp2
                    go_roundw
                    case rel =>
                      repeat apply Exists.intro
                      exact ⟨⟨m, by omega, by first | rfl | go_num, by rw [Hl2.out]; rfl, by rw [Hh2.out]; rfl, hfinal⟩, rfl⟩
                    case measure => simp [intOf] <;> omega
                  refine AllReadyH.cons rfl (fun K hK => ?_) AllReadyH.nil
                  go_simp
                  refine hK.out _ _ ?_ (fun hHeld => ?_)
                  · exact keep1 (by assumption)
                  clear hK K
                  refine wpAnyH_to (S := fun w' => CAt g p[m].toNat (c0 : Int) wr w' ∧ w'.cell? ⟨wr.heap.size, 0, none⟩ = some (.int .u8 (p[m].toNat : Int))) (S2 := fun w' => CAt g p[m].toNat (c0 : Int) wr w' ∧ w'.cell? ⟨wr.heap.size, 0, none⟩ = some (.int .u8 (p[m].toNat : Int)) ∧ w'.cell? ⟨wr.heap.size + 1, 0, none⟩ = some (.int .u8 (p[m].toNat : Int))) (fun _ h => ⟨h.1, h.2.1⟩) _ _ _ _ ?_
                  have hHeld2 := new1 (by assumption)
                  clear hHeld
                  refine wpAnyH_take (i := 19) (v := ?v21) rfl (by kernel_rfl) (by kernel_rfl) (by kernel_rfl) (fun _ _ _ h => h) (Or.inl ⟨by rfl, ?hy21⟩) (by assumption) ?rest21
                  case hy21 =>
                    intro w hSw
                    (try dsimp only at hSw)
                    have hSc := one_byte w _ _ hSw.2.2
                    go_simp
                    all_goals with_reducible rfl
                  try simp only [Act.put]
                  refine wpAnyH_ready (rs := [9]) (by kernel_rfl) (by simp) ?_
                  refine AllReadyH.cons rfl (fun K hK => ?_) AllReadyH.nil
                  go_simp
                  go_wp2_with (go_at_call 8; refine count_k CL ?_)
                  refine hK.out _ _ (by assumption) (fun hHeld => ?_)
                  clear hK K
                  refine wpAnyH_take (i := 10) (v := ?v22) rfl (by kernel_rfl) (by kernel_rfl) (by kernel_rfl) (fun _ _ _ h => h) (Or.inl ⟨by rfl, ?hy22⟩) (by assumption) ?rest22
                  case hy22 =>
                    intro w hSw
                    (try dsimp only at hSw)
                    have hSc := hSw.1
                    go_simp
                    all_goals with_reducible rfl
                  try simp only [Act.put]
                  refine wpAnyH_ready (rs := [20]) (by kernel_rfl) (by simp) ?_
                  refine AllReadyH.cons rfl (fun K hK => ?_) AllReadyH.nil
                  go_simp
                  go_wp2_with (go_at_call 8; refine count_k CH ?_)
                  refine hK.out _ _ (by assumption) (fun hHeld => ?_)
                  clear hK K
                  refine wpAnyH_take (i := 21) (v := ?v23) rfl (by kernel_rfl) (by kernel_rfl) (by kernel_rfl) (fun _ _ _ h => h) (Or.inl ⟨by rfl, ?hy23⟩) (by assumption) ?rest23
                  case hy23 =>
                    intro w hSw
                    (try dsimp only at hSw)
                    have hSc := hSw.1
                    go_simp
                    all_goals with_reducible rfl
                  try simp only [Act.put]
                  refine wpAnyH_take (i := 22) (v := ?v24) rfl (by kernel_rfl) (by kernel_rfl) (by kernel_rfl) (fun _ _ _ h => h) (Or.inl ⟨by rfl, ?hy24⟩) (by assumption) ?rest24
                  case hy24 =>
                    intro w hSw
                    (try dsimp only at hSw)
                    have hSc := hSw.1
                    go_simp
                    all_goals with_reducible rfl
                  try simp only [Act.put]
                  refine wpAnyH_take (i := 23) (v := ?v25) rfl (by kernel_rfl) (by kernel_rfl) (by kernel_rfl) (fun _ _ _ h => h) (Or.inl ⟨by rfl, ?hy25⟩) (by assumption) ?rest25
                  case hy25 =>
                    intro w hSw
                    (try dsimp only at hSw)
                    have hSc := hSw.1
                    go_simp
                    all_goals with_reducible rfl
                  try simp only [Act.put]
                  refine wpAnyH_done (by kernel_rfl) ?_ _
                  simp only [List.getElem_toArray, List.getElem_cons_succ, List.getElem_cons_zero, List.setIfInBounds_toArray, List.set_cons_zero, List.set_cons_succ]
                  go_wp2
                  go_roundw
                  case rel =>
                    repeat apply Exists.intro
                    exact ⟨⟨m, by omega, by first | rfl | go_num, by rw [Hl2.out]; rfl, by rw [Hh2.out]; rfl, hfinal⟩, rfl⟩
                  case measure => simp [intOf] <;> omega
                refine AllReadyH.cons rfl (fun K hK => ?_) AllReadyH.nil
                go_simp
                refine hK.out _ _ ?_ (fun hHeld => ?_)
                · exact keep0 (by assumption)
                clear hK K
                refine wpAnyH_to (S := fun w' => CAt g p[m].toNat (c0 : Int) wr w' ∧ True) (S2 := fun w' => CAt g p[m].toNat (c0 : Int) wr w' ∧ w'.cell? ⟨wr.heap.size, 0, none⟩ = some (.int .u8 (p[m].toNat : Int))) (fun _ h => ⟨h.1, trivial⟩) _ _ _ _ ?_
                have hHeld2 := new0 (by assumption)
                clear hHeld
                refine wpAnyH_take (i := 19) (v := ?v26) rfl (by kernel_rfl) (by kernel_rfl) (by kernel_rfl) (fun _ _ _ h => h) (Or.inl ⟨by rfl, ?hy26⟩) (by assumption) ?rest26
                case hy26 =>
                  intro w hSw
                  (try dsimp only at hSw)
                  have hSc := one_byte w _ _ hSw.2
                  go_simp
                  all_goals with_reducible rfl
                try simp only [Act.put]
                refine wpAnyH_ready (rs := [7]) (by kernel_rfl) (by simp) ?_
                refine AllReadyH.cons rfl (fun K hK => ?_) AllReadyH.nil
                go_simp
                refine hK.out _ _ ?_ (fun hHeld => ?_)
                · exact keep1 (by assumption)
                clear hK K
                refine wpAnyH_to (S := fun w' => CAt g p[m].toNat (c0 : Int) wr w' ∧ w'.cell? ⟨wr.heap.size, 0, none⟩ = some (.int .u8 (p[m].toNat : Int))) (S2 := fun w' => CAt g p[m].toNat (c0 : Int) wr w' ∧ w'.cell? ⟨wr.heap.size, 0, none⟩ = some (.int .u8 (p[m].toNat : Int)) ∧ w'.cell? ⟨wr.heap.size + 1, 0, none⟩ = some (.int .u8 (p[m].toNat : Int))) (fun _ h => ⟨h.1, h.2.1⟩) _ _ _ _ ?_
                have hHeld2 := new1 (by assumption)
                clear hHeld
                refine wpAnyH_take (i := 8) (v := ?v27) rfl (by kernel_rfl) (by kernel_rfl) (by kernel_rfl) (fun _ _ _ h => h) (Or.inl ⟨by rfl, ?hy27⟩) (by assumption) ?rest27
                case hy27 =>
                  intro w hSw
                  (try dsimp only at hSw)
                  have hSc := one_byte w _ _ hSw.2.2
                  go_simp
                  all_goals with_reducible rfl
                try simp only [Act.put]
                refine wpAnyH_ready (rs := [9]) (by kernel_rfl) (by simp) ?_
                refine AllReadyH.cons rfl (fun K hK => ?_) AllReadyH.nil
                go_simp
                go_wp2_with (go_at_call 8; refine count_k CL ?_)
                refine hK.out _ _ (by assumption) (fun hHeld => ?_)
                clear hK K
                refine wpAnyH_take (i := 10) (v := ?v28) rfl (by kernel_rfl) (by kernel_rfl) (by kernel_rfl) (fun _ _ _ h => h) (Or.inl ⟨by rfl, ?hy28⟩) (by assumption) ?rest28
                case hy28 =>
                  intro w hSw
                  (try dsimp only at hSw)
                  have hSc := hSw.1
                  go_simp
                  all_goals with_reducible rfl
                try simp only [Act.put]
                refine wpAnyH_ready (rs := [20]) (by kernel_rfl) (by simp) ?_
                refine AllReadyH.cons rfl (fun K hK => ?_) AllReadyH.nil
                go_simp
                go_wp2_with (go_at_call 8; refine count_k CH ?_)
                refine hK.out _ _ (by assumption) (fun hHeld => ?_)
                clear hK K
                refine wpAnyH_take (i := 21) (v := ?v29) rfl (by kernel_rfl) (by kernel_rfl) (by kernel_rfl) (fun _ _ _ h => h) (Or.inl ⟨by rfl, ?hy29⟩) (by assumption) ?rest29
                case hy29 =>
                  intro w hSw
                  (try dsimp only at hSw)
                  have hSc := hSw.1
                  go_simp
                  all_goals with_reducible rfl
                try simp only [Act.put]
                refine wpAnyH_take (i := 22) (v := ?v30) rfl (by kernel_rfl) (by kernel_rfl) (by kernel_rfl) (fun _ _ _ h => h) (Or.inl ⟨by rfl, ?hy30⟩) (by assumption) ?rest30
                case hy30 =>
                  intro w hSw
                  (try dsimp only at hSw)
                  have hSc := hSw.1
                  go_simp
                  all_goals with_reducible rfl
                try simp only [Act.put]
                refine wpAnyH_take (i := 23) (v := ?v31) rfl (by kernel_rfl) (by kernel_rfl) (by kernel_rfl) (fun _ _ _ h => h) (Or.inl ⟨by rfl, ?hy31⟩) (by assumption) ?rest31
                case hy31 =>
                  intro w hSw
                  (try dsimp only at hSw)
                  have hSc := hSw.1
                  go_simp
                  all_goals with_reducible rfl
                try simp only [Act.put]
                refine wpAnyH_done (by kernel_rfl) ?_ _
                simp only [List.getElem_toArray, List.getElem_cons_succ, List.getElem_cons_zero, List.setIfInBounds_toArray, List.set_cons_zero, List.set_cons_succ]
                go_wp2
                go_roundw
                case rel =>
                  repeat apply Exists.intro
                  exact ⟨⟨m, by omega, by first | rfl | go_num, by rw [Hl2.out]; rfl, by rw [Hh2.out]; rfl, hfinal⟩, rfl⟩
                case measure => simp [intOf] <;> omega
                -- END REGION
end Go.Proofs.Ytmkcmjhdbjhmmaa
