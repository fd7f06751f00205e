/- The walks of order2Ordered, medianOrdered and medianAdjacentOrdered at bytes. -/
import Derived.Test.YtpnpalbdlhlnkaaBs0
import Derived.Sort.WalkD2
import Derived.Sort.LotD4
namespace Go.Proofs.Ytpnpalbdlhlnkaa
open Go.RowKit Go.Sort
set_option linter.unusedVariables false

theorem aside8 {w : World} {blk off sb so n t : Nat} {d : Array UInt8} (h : Holds c8 w blk off d) (hne : sb ≠ blk) : Holds c8 (putRow (Value.int .i64) (Sort.ahead w n) sb so (one t)) blk off d := fun j hj =>
  ⟨by rw [cell?_putRow_other _ _ _ _ _ _ (Or.inl (Ne.symm hne))]; exact (h j hj).1, by rw [frozen?_putRow]; exact (h j hj).2⟩
theorem o2_lt (d : Array UInt8) {a b n : Nat} (s : Nat) (ha : a < n) (hb : b < n) : (order2 lt8 d a b s).1 < n ∧ (order2 lt8 d a b s).2.1 < n := by
  have := order2_mem lt8 d a b s
  omega
theorem bOrder2 (d : Array UInt8) (blk off cap a b sb so s : Nat) (w : World) (hH : Holds c8 w blk off d) (ha : a < d.size) (hb : b < d.size) (hS : Holds (Value.int .i64) w sb so (one s)) (hs : s < 1000000000000) (hsz : d.size < 1000000000000) :
    Calls Try.prog 48 #[.slice (some ⟨blk, off, none⟩) d.size cap, .int .i64 a, .int .i64 b, .pointer (some ⟨sb, so, none⟩)] w fun e w' =>
      e = .returned (.tuple #[.int .i64 (order2 lt8 d a b s).1, .int .i64 (order2 lt8 d a b s).2.1]) ∧ ∃ n, w' = putRow (Value.int .i64) (Sort.ahead w n) sb so (one (order2 lt8 d a b s).2.2) := by
  have ca := (hH a ha).1
  have cb := (hH b hb).1
  obtain ⟨cs, fs⟩ := one_cell hS
  have HS := Lib.hid hS
  obtain ⟨x, hx⟩ : ∃ x, d[a]! = x := ⟨_, rfl⟩
  obtain ⟨y, hy⟩ : ∃ y, d[b]! = y := ⟨_, rfl⟩
  rw [hx] at ca
  rw [hy] at cb
  have HX := Lib.hid hx
  have HY := Lib.hid hy
  clear hH hS hx hy
  have E1 := Lib.hid (fun hlt : lt8 y x = true => show order2 lt8 d a b s = (b, a, s + 1) by unfold order2; rw [HX.out, HY.out, if_pos hlt])
  have E2 := Lib.hid (fun hlt : lt8 y x = false => show order2 lt8 d a b s = (a, b, s) by unfold order2; rw [HX.out, HY.out, if_neg (by rw [hlt]; decide)])
  go_enter Try.func48, Try.ntmps48
  go_wp2_with fail
  go_quiet (first | (go_at_call 25; refine Calls.quiet_of_same (less8 _ _ _)))
  go_wp2
  · have e := E1.out (by assumption)
    go_ret2
    rw [e]
    refine ⟨rfl, nq, ?_⟩
    rw [putRow_ahead, ← one_set HS.out (s + 1)]
    simp
    rfl
  · have e := E2.out (by assumption)
    go_ret2
    rw [e]
    refine ⟨rfl, nq, ?_⟩
    rw [putRow_ahead, putRow_self _ _ _ _ _ HS.out]
    rfl
theorem bMedian (d : Array UInt8) (blk off cap a b c sb so s : Nat) (w : World) (hH : Holds c8 w blk off d) (ha : a < d.size) (hb : b < d.size) (hc : c < d.size) (hne : sb ≠ blk) (hS : Holds (Value.int .i64) w sb so (one s)) (hs : s + 3 < 1000000000000) (hsz : d.size < 1000000000000) :
    Calls Try.prog 43 #[.slice (some ⟨blk, off, none⟩) d.size cap, .int .i64 a, .int .i64 b, .int .i64 c, .pointer (some ⟨sb, so, none⟩)] w fun e w' =>
      e = .returned (.int .i64 (median lt8 d a b c s).1) ∧ ∃ n, w' = putRow (Value.int .i64) (Sort.ahead w n) sb so (one (median lt8 d a b c s).2) := by
  have l1 := o2_lt d s ha hb
  have s1 := order2_count lt8 d a b s
  have l2 := o2_lt d (order2 lt8 d a b s).2.2 l1.2 hc
  have s2 := order2_count lt8 d (order2 lt8 d a b s).2.1 c (order2 lt8 d a b s).2.2
  have K1 := Lib.hid (bOrder2 d blk off cap a b sb so s w hH ha hb hS (by omega) hsz)
  have K2 := Lib.hid (fun w1 (h1 : Holds c8 w1 blk off d) (h2 : Holds (Value.int .i64) w1 sb so (one (order2 lt8 d a b s).2.2)) => bOrder2 d blk off cap (order2 lt8 d a b s).2.1 c sb so (order2 lt8 d a b s).2.2 w1 h1 l1.2 hc h2 (by omega) hsz)
  have K3 := Lib.hid (fun w1 (h1 : Holds c8 w1 blk off d) (h2 : Holds (Value.int .i64) w1 sb so (one (order2 lt8 d (order2 lt8 d a b s).2.1 c (order2 lt8 d a b s).2.2).2.2)) => bOrder2 d blk off cap (order2 lt8 d a b s).1 (order2 lt8 d (order2 lt8 d a b s).2.1 c (order2 lt8 d a b s).2.2).1 sb so (order2 lt8 d (order2 lt8 d a b s).2.1 c (order2 lt8 d a b s).2.2).2.2 w1 h1 l1.1 l2.1 h2 (by omega) hsz)
  go_enter Try.func43, Try.ntmps43
  go_wp2_with fail
  refine K1.out.mono ?_
  rintro e w' ⟨rfl, n1, rfl⟩
  go_wp2_with fail
  refine (K2.out _ (aside8 hH hne) (holds_one hS)).mono ?_
  rintro e w' ⟨rfl, n2, rfl⟩
  go_wp2_with fail
  refine (K3.out _ (aside8 (aside8 hH hne) hne) (holds_one (holds_one hS))).mono ?_
  rintro e w' ⟨rfl, n3, rfl⟩
  go_wp2
  go_ret
  refine ⟨rfl, n1 + (n2 + n3), ?_⟩
  rw [one_one, one_one]
  rfl
theorem bAdjacent (d : Array UInt8) (blk off cap a sb so s : Nat) (w : World) (hH : Holds c8 w blk off d) (ha0 : 1 ≤ a) (ha : a + 1 < d.size) (hne : sb ≠ blk) (hS : Holds (Value.int .i64) w sb so (one s)) (hs : s + 3 < 1000000000000) (hsz : d.size < 1000000000000) :
    Calls Try.prog 42 #[.slice (some ⟨blk, off, none⟩) d.size cap, .int .i64 a, .pointer (some ⟨sb, so, none⟩)] w fun e w' =>
      e = .returned (.int .i64 (medianAdjacent lt8 d a s).1) ∧ ∃ n, w' = putRow (Value.int .i64) (Sort.ahead w n) sb so (one (medianAdjacent lt8 d a s).2) := by
  obtain ⟨p, rfl⟩ : ∃ p, a = p + 1 := ⟨a - 1, by omega⟩
  have K := bMedian d blk off cap p (p + 1) (p + 2) sb so s w hH (by omega) (by omega) (by omega) hne hS hs hsz
  have e : medianAdjacent lt8 d (p + 1) s = median lt8 d p (p + 1) (p + 2) s := rfl
  rw [e]
  generalize hr : median lt8 d p (p + 1) (p + 2) s = r at *
  have e1 : ((p : Int) + 1) - 1 = (p : Int) := by omega
  have e2 : ((p : Int) + 1) + 1 = ((p + 2 : Nat) : Int) := by omega
  have KM := Lib.hid K
  clear K
  have hp2 : p + 2 < 1000000000000 := by omega
  clear hH hS e hr
  go_enter Try.func42, Try.ntmps42
  go_wp2_with fail
  refine KM.out.mono ?_
  rintro e w' ⟨rfl, n, rfl⟩
  go_wp2
  go_ret
  exact ⟨rfl, n, rfl⟩
end Go.Proofs.Ytpnpalbdlhlnkaa
