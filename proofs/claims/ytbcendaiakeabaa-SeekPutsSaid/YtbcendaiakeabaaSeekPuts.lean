/- SeekPuts' walk: replacing a pattern by itself changes nothing, and replacing by an unused byte and back restores the string. -/
import Derived.Test.YtbcendaiakeabaaPutWalk
import Derived.Test.YtbcendaiakeabaaLaidContains
import Derived.Lib.IndexAny
import Derived.OpenShut
namespace Go.Proofs.Ytbcendaiakeabaa
open Go.RowKit
set_option linter.unusedVariables false

theorem ba_extP {a b : ByteArray} (h : a.data.toList = b.data.toList) : a = b := by
  obtain ⟨⟨a⟩⟩ := a
  obtain ⟨⟨b⟩⟩ := b
  simp at h
  rw [h]
theorem contains_one (s : ByteArray) (c : UInt8) (w : World) : Calls Try.prog 39 #[.string s, .string ⟨#[c]⟩] w fun e w' => e = .returned (.bool (s.data.toList.contains c)) ∧ w = w' := by
  refine (Any.strings_Contains_one laysCn s c w).mono ?_
  rintro e w' ⟨rfl, rfl⟩
  rw [← Lib.contains_iff_indexByte]
  exact ⟨rfl, rfl⟩

set_option maxRecDepth 100000 in
set_option maxHeartbeats 4000000 in
theorem seekPuts_core (s p : ByteArray) (b : UInt8) (hs0 : s.size ≤ 140737488351232) (hp0 : p.size ≤ 140737488351232) {w : World} :
    Calls Try.prog 8 #[.string s, .string p, .int .u8 (b.toNat : Int)] w fun e w' => e = .returned (.bool true) ∧ Below w.heap.size w w' := by
  have c1 : ∀ w, Calls Try.prog 38 #[.string ⟨#[97, 98, 97, 98, 97]⟩, .string ⟨#[97, 98, 97]⟩, .string ⟨#[120]⟩] w fun e w' => e = .returned (.tuple #[.string ⟨#[120, 98, 97]⟩, .int .i64 1, .int .i64 0]) ∧ Below w.heap.size w w' := fun w =>
    (put_ok ⟨#[97, 98, 97, 98, 97]⟩ ⟨#[97, 98, 97]⟩ ⟨#[120]⟩ (by decide) (by decide) w).mono fun e w' ⟨t, ht, he, hb⟩ => by
      have h1 : t = ⟨#[120, 98, 97]⟩ := ba_extP (ht.trans put_known.1)
      have h2 : putN (ByteArray.mk #[97, 98, 97, 98, 97]).data.toList (ByteArray.mk #[97, 98, 97]).data.toList (ByteArray.mk #[120]).data.toList = 1 := put_known.2
      rw [h1, h2] at he
      exact ⟨he, hb⟩
  have C1 := Lib.hid c1
  clear c1
  by_cases hE : seekE s.size p.size = 0
  case neg =>
    have H1 := Lib.hid (put_no s p p hE)
    generalize seekE s.size p.size = E at *
    have q1 : (E != 0) = true := by simpa using hE
    go_enter Try.func8, Try.ntmps8
    go_wp2_with fail
    refine (C1.out _).mono ?_
    rintro e w1 ⟨rfl, hb1⟩
    go_wp2_with fail
    refine (H1.out _).mono ?_
    rintro e w2 ⟨rfl, rfl⟩
    go_wp2
    go_ret
    exact ⟨by simp, hb1⟩
  obtain ⟨hs, hp, hp1⟩ := seekE_ok.1 hE
  have hp1' : 0 < p.data.toList.length := hp1
  have d1 := put_ok s p p hE hp
  rw [put_self hp1', putN_same s.data.toList p.data.toList p.data.toList [b]] at d1
  have d2 := put_ok s p ⟨#[b]⟩ hE (by show (1 : Nat) ≤ 200; decide)
  rw [show (ByteArray.mk #[b]).data.toList = [b] from rfl] at d2
  obtain ⟨l1, l2⟩ := put_len (s := s.data.toList) (by_ := [b]) hp1'
  rw [show p.data.toList.length = p.size from rfl, show s.data.toList.length = s.size from rfl, List.length_singleton] at l1
  rw [show p.data.toList.length = p.size from rfl, show s.data.toList.length = s.size from rfl] at l2
  have hk : b ∉ s.data.toList → ∀ t : ByteArray, t.data.toList = putT s.data.toList p.data.toList [b] → t.size ≤ 200 → ∀ w, Calls Try.prog 38 #[.string t, .string ⟨#[b]⟩, .string p] w fun e w' => e = .returned (.tuple #[.string s, .int .i64 (putN s.data.toList p.data.toList [b] : Nat), .int .i64 0]) ∧ Below w.heap.size w w' := fun hb t ht hsz w => by
    refine (put_ok t ⟨#[b]⟩ p (seekE_ok.2 ⟨hsz, by show (1 : Nat) ≤ 200; decide, by show 0 < (1 : Nat); decide⟩) hp w).mono ?_
    rintro e w' ⟨v, hv, rfl, hbw⟩
    rw [ht, show (ByteArray.mk #[b]).data.toList = [b] from rfl] at hv
    obtain ⟨g1, g2⟩ := put_back hp1' hb
    have ev : v = s := ba_extP (hv.trans g1)
    subst ev
    rw [ht, show (ByteArray.mk #[b]).data.toList = [b] from rfl, g2]
    exact ⟨rfl, hbw⟩
  have hnp : putN s.data.toList p.data.toList [b] * 1 ≤ putN s.data.toList p.data.toList [b] * p.size := Nat.mul_le_mul_left _ hp1
  have hti : ((putN s.data.toList p.data.toList [b] * p.size : Nat) : Int) = (putN s.data.toList p.data.toList [b] : Int) * (p.size : Int) := by simp
  generalize putN s.data.toList p.data.toList [b] = n at *
  have htl : (putT s.data.toList p.data.toList [b]).length ≤ 200 := by omega
  have hq : ((putT s.data.toList p.data.toList [b]).length : Int) = (s.size : Int) - (n : Int) * ((p.size : Int) - 1) := by
    rw [Int.mul_sub, Int.mul_one, ← hti]; omega
  have hnm : 0 ≤ (n : Int) * ((p.size : Int) - 1) ∧ (n : Int) * ((p.size : Int) - 1) ≤ 200 := by
    rw [Int.mul_sub, Int.mul_one, ← hti]; omega
  have hn2 : n ≤ 200 := by omega
  generalize hT : putT s.data.toList p.data.toList [b] = T at *
  have D1 := Lib.hid d1
  have D2 := Lib.hid d2
  have HK := Lib.hid hk
  have Hq := Lib.hid hq
  have Htl := Lib.hid htl
  clear d1 d2 hk hq l1 l2 hti hT htl hE hnp
  go_enter Try.func8, Try.ntmps8
  go_wp2_with fail
  refine (C1.out _).mono ?_
  rintro e w1 ⟨rfl, hb1⟩
  go_wp2_with fail
  refine (D1.out _).mono ?_
  rintro e w2 ⟨t, ht, rfl, hb2⟩
  obtain rfl : s = t := (ba_extP ht).symm
  clear ht
  have hcv := run_string_of (P := Try.prog) (w2.alloc (Obj.cells #[.int .u8 (b.toNat : Int)] 5)) 22 9 5 ⟨w2.heap.size, 0, none⟩ 1 1 [b] rfl Try.underlying22 Try.underlying5 Try.underlying9 (fun j hj => by
    obtain rfl : j = 0 := by simpa using hj
    rw [add_at, World.cell?_alloc_mark]; rfl)
  go_wp2_with fail
  clear hcv
  refine (D2.out _).mono ?_
  rintro e w3 ⟨u, hu, rfl, hb3⟩
  have hbw : Below w.heap.size w w3 := (chain hb2 hb1).trans ((((Below.refl _ _).alloc (Nat.le_refl _) _).trans (hb3.mono (by simp))).mono (chain hb2 hb1).size)
  have hus : u.size = T.length := by rw [← hu]; rfl
  have HK2 := Lib.hid (fun g => HK.out g u hu (by rw [hus]; exact Htl.out))
  have q1 : ((u.size : Int) != (s.size : Int) - (n : Int) * ((p.size : Int) - 1)) = false := by rw [bne_eq_false_iff_eq, hus]; exact Hq.out
  have q2 : (s.toList != s.toList) = false := by simp
  have q3 : ((n : Int) != (n : Int)) = false := by simp
  clear hb1 hb2 hb3 HK hus hu
  go_wp2_with fail
  have hct := contains_one s b w3
  by_cases hmem : b ∈ s.data.toList
  · rw [List.contains_iff_mem.2 hmem] at hct
    have Hct := Lib.hid hct
    clear hct
    refine Hct.out.mono ?_
    rintro e w4 ⟨rfl, rfl⟩
    go_wp2
    go_ret
    exact ⟨rfl, hbw⟩
  · have h0 : s.data.toList.contains b = false := by rw [Bool.eq_false_iff]; exact fun h => hmem (List.contains_iff_mem.1 h)
    rw [h0] at hct
    have Hct := Lib.hid hct
    have Hb := Lib.hid (HK2.out hmem)
    clear hct h0 HK2
    refine Hct.out.mono ?_
    rintro e w4 ⟨rfl, rfl⟩
    go_wp2_with fail
    refine (Hb.out _).mono ?_
    rintro e w5 ⟨rfl, hb5⟩
    have q4 : (s.toList == s.toList) = true := by simp
    have q5 : ((n : Int) == (n : Int)) = true := by simp
    go_wp2
    go_ret
    exact ⟨by simp, chain hb5 hbw⟩
theorem seekPuts_walk (s p : ByteArray) (x : Int) (hs0 : s.size ≤ 140737488351232) (hp0 : p.size ≤ 140737488351232) (hx : (Lit.int .u8 x).wf = true) {w : World} :
    Calls Try.prog 8 #[.string s, .string p, .int .u8 x] w fun e w' => e = .returned (.bool true) ∧ Below w.heap.size w w' := by
  obtain ⟨y, rfl⟩ : ∃ y : UInt8, x = (y.toNat : Int) := by
    obtain ⟨h1, h2⟩ := bounds_u8 hx
    exact ⟨UInt8.ofNat x.toNat, by rw [UInt8.toNat_ofNat']; omega⟩
  exact seekPuts_core s p y hs0 hp0
end Go.Proofs.Ytbcendaiakeabaa
