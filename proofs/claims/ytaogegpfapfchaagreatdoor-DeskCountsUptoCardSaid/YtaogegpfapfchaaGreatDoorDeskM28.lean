import Derived.Test.YtaogegpfapfchaaGreatDoorDeskM13
import Derived.Test.YtaogegpfapfchaaGreatDoorDeskM12
import Derived.Test.YtaogegpfapfchaaGreatDoorDeskM01
import Derived.Deep.QuietTactic
import Derived.BigQuiet
import Derived.Shelf.Strings.OnBuilder
import Derived.Test.YtaogegpfapfchaaGreatDoorProg
import Derived.Test.YtaogegpfapfchaaGreatDoorDeskM04
import Derived.Lib.Join
import Derived.Test.YtaogegpfapfchaaGreatDoorDeskM22
import Derived.Test.YtaogegpfapfchaaGreatDoorDeskM23
import Derived.Test.YtaogegpfapfchaaGreatDoorDeskM25
import Derived.Test.YtaogegpfapfchaaGreatDoorDeskM27
/- Several texts in one: XDist XLaidJoin XJoinAny XDeskWords. -/
/- The walk of dist.Of: it is the edit distance. -/
namespace Go.Proofs.YtaogegpfapfchaaGreatDoor
open Go.RowKit
set_option linter.unusedVariables false

/-- The distance of the first i bytes of a from the first k of b. -/
def pd (a b : List UInt8) (i k : Nat) : Nat := lev (a.take i).reverse (b.take k).reverse
theorem pd_zero_left (a b : List UInt8) (k : Nat) (h : k ≤ b.length) : pd a b 0 k = k := by
  unfold pd; simp [lev_nil_left]; omega
theorem pd_zero_right (a b : List UInt8) (i : Nat) (h : i ≤ a.length) : pd a b i 0 = i := by
  unfold pd; simp [lev_nil_right]; omega
theorem pd_succ (a b : List UInt8) (i k : Nat) (hi : i < a.length) (hk : k < b.length) :
    pd a b (i + 1) (k + 1) = min (pd a b i k + ne1 (a.getD i 0) (b.getD k 0)) (min (pd a b i (k + 1)) (pd a b (i + 1) k) + 1) := by
  unfold pd
  rw [take_succ_getD a i 0 hi, take_succ_getD b k 0 hk]
  simp only [List.reverse_append, List.reverse_cons, List.reverse_nil, List.nil_append, List.cons_append]
  rw [lev_cons]
theorem pd_le (a b : List UInt8) (i k : Nat) : pd a b i k ≤ i + k := by
  have := lev_le_add (a.take i).reverse (b.take k).reverse
  simp at this
  unfold pd; omega
theorem pd_all (a b : List UInt8) : pd a b a.length b.length = lev a b := by
  unfold pd
  rw [List.take_length, List.take_length, lev_reverse]

theorem A.infoInt' : (Tryz.prog.info? 3).map (fun i => (i.zero, i.size, i.bytes)) = some (some (.int .i64 0), 1, 8) := by kernel_rfl

set_option maxHeartbeats 800000 in
theorem dist_ok (a b : ByteArray) (ha : a.size ≤ 200) (hb : b.size ≤ 200) (w : World) :
    Calls Tryz.prog 38 #[.string a, .string b] w fun e w' => e = .returned (.tuple #[.int .i64 (lev a.data.toList b.data.toList : Nat), .int .i64 0]) ∧ Below w.heap.size w w' := by
  have hmk := fun w : World => make_ints (P := Tryz.prog) 76 3 Tryz.underlying76 A.infoInt' (b.size + 1) ((b.size : Int) + 1) (by omega) (by omega) w
  go_enter Tryz.func38, Tryz.ntmps38
  go_wp2_with fail
  refine (sameCheck_ok a b ha hb _).mono ?_
  rintro e w1 ⟨rfl, rfl⟩
  go_wp2
  obtain ⟨hb0, hz0, hat0⟩ := ints_made w (b.size + 1) 3
  generalize hW : World.alloc _ _ = W at *
  clear hW hmk
  have hg := Nat.le_refl w.heap.size
  have hg2 : w.heap.size < W.heap.size := by omega
  generalize hgg : w.heap.size = g at hg hg2 hat0 ⊢
  have hlow : w.heap.size ≤ g := by omega
  clear hgg hz0 hg
  go_loopw [8, 25] (fun _ i wr => ∃ (k : Nat) (l : List Int), k ≤ b.size + 1 ∧ i = .int .i64 k ∧ l.length = b.size + 1 ∧ IntsAt wr g l ∧ Below w.heap.size w wr ∧ ∀ j, j < k → l.getD j 0 = (j : Int))
    (fun _ i _ => b.size + 1 - (intOf i).toNat)
  case atStart => exact ⟨0, List.replicate (b.size + 1) 0, Nat.zero_le _, rfl, by simp, hat0, hb0, fun j hj => by omega⟩
  case round =>
    obtain ⟨k, l, hk, rfl, hl, hat, hbr, hv⟩ := hrel
    have Hl := Lib.hid hl
    have Hv := Lib.hid hv
    clear hl hv
    by_cases hlt : k < b.size + 1
    · obtain ⟨hc, hf⟩ := hat.2 k (by rw [Hl.out]; omega)
      go_wp2
      go_roundw
      case rel =>
        exact ⟨k + 1, l.set k k, by omega, by go_num, by rw [List.length_set]; exact Hl.out, hat.set k (by rw [Hl.out]; omega) _, hbr.setCell hlow _, fun j hj => by
          rw [getD_set _ _ _ _ (by rw [Hl.out]; omega)]
          by_cases e : j = k
          · rw [if_pos e, e]
          · rw [if_neg e]; exact Hv.out j (by omega)⟩
      case measure => simp [intOf]; omega
    · obtain rfl : k = b.size + 1 := by omega
      go_wp2
      clear hat0 hb0
      go_loopw [9, 10, 11, 12, 35] (fun _ _ _ _ i wr => ∃ (k : Nat) (l : List Int), k ≤ a.size ∧ i = .int .i64 k ∧ l.length = b.size + 1 ∧ IntsAt wr g l ∧ Below w.heap.size w wr ∧ ∀ j, j ≤ b.size → l.getD j 0 = (pd a.data.toList b.data.toList k j : Nat))
        (fun _ _ _ _ i _ => a.size - (intOf i).toNat)
      case atStart => exact ⟨0, l, Nat.zero_le _, rfl, Hl.out, hat, hbr, fun j hj => by rw [Hv.out j (by omega), pd_zero_left _ _ _ hj]⟩
      case round =>
        clear hat hbr Hl Hv hlt hk
        obtain ⟨i, l, hi, rfl, hl, hat, hbr, hv⟩ := hrel
        have Hl := Lib.hid hl
        have Hv := Lib.hid hv
        clear hl hv
        by_cases hlt : i < a.size
        · obtain ⟨hc0, hf0⟩ := hat.2 0 (by rw [Hl.out]; omega)
          rw [Hv.out 0 (by omega)] at hc0
          go_wp2
          go_loopw [10, 11, 12, 47] (fun c _ _ x wr => ∃ (k : Nat) (l' : List Int), k ≤ b.size ∧ x = .int .i64 k ∧ c = .int .i64 (pd a.data.toList b.data.toList i k : Nat) ∧ l'.length = b.size + 1 ∧ IntsAt wr g l' ∧ Below w.heap.size w wr ∧
              ∀ j, j ≤ b.size → l'.getD j 0 = if j ≤ k then (pd a.data.toList b.data.toList (i + 1) j : Nat) else (pd a.data.toList b.data.toList i j : Nat))
            (fun _ _ _ x _ => b.size - (intOf x).toNat)
          case atStart =>
            refine ⟨0, l.set 0 ((i : Int) + 1), Nat.zero_le _, rfl, rfl, by rw [List.length_set]; exact Hl.out, hat.set 0 (by rw [Hl.out]; omega) _, hbr.setCell hlow _, fun j hj => ?_⟩
            rw [getD_set _ _ _ _ (by rw [Hl.out]; omega)]
            by_cases e : j = 0
            · subst e
              rw [if_pos rfl, if_pos (Nat.le_refl _), pd_zero_right _ _ _ (show i + 1 ≤ a.data.toList.length from hlt)]; simp
            · rw [if_neg e, if_neg (by omega), Hv.out j hj]
          case round =>
            clear hat hbr Hl Hv hc0 hf0
            obtain ⟨k, l, hk, rfl, rfl, hl, hat, hbr, hv⟩ := hrel
            have Hl := Lib.hid hl
            have Hv := Lib.hid hv
            clear hl hv
            by_cases hkb : k < b.size
            · have hP := pd_le a.data.toList b.data.toList i k
              have hQ := pd_le a.data.toList b.data.toList i (k + 1)
              have hR := pd_le a.data.toList b.data.toList (i + 1) k
              have hN := pd_succ a.data.toList b.data.toList i k hlt hkb
              rw [getD_bytes a i hlt, getD_bytes b k hkb] at hN
              obtain ⟨hck, hfk⟩ := hat.2 k (by rw [Hl.out]; omega)
              obtain ⟨hcn, hfn⟩ := hat.2 (k + 1) (by rw [Hl.out]; omega)
              rw [Hv.out k (by omega), if_pos (Nat.le_refl _)] at hck
              rw [Hv.out (k + 1) (by omega), if_neg (by omega)] at hcn
              have hrel' : ∀ j, j ≤ b.size → (l.set (k + 1) (pd a.data.toList b.data.toList (i + 1) (k + 1) : Nat)).getD j 0 = if j ≤ k + 1 then (pd a.data.toList b.data.toList (i + 1) j : Nat) else (pd a.data.toList b.data.toList i j : Nat) := fun j hj => by
                rw [getD_set _ _ _ _ (by rw [Hl.out]; omega)]
                by_cases e : j = k + 1
                · rw [if_pos e, if_pos (by omega), e]
                · rw [if_neg e, Hv.out j hj]
                  by_cases e2 : j ≤ k
                  · rw [if_pos e2, if_pos (by omega)]
                  · rw [if_neg e2, if_neg (by omega)]
              have Hrel := Lib.hid hrel'
              clear hrel'
              generalize pd a.data.toList b.data.toList (i + 1) (k + 1) = N at *
              generalize hq : pd a.data.toList b.data.toList i (k + 1) = Q at *
              generalize pd a.data.toList b.data.toList (i + 1) k = R at *
              generalize pd a.data.toList b.data.toList i k = P at *
              have Hq := Lib.hid hq
              clear hq
              by_cases heq : a[i] = b[k]
              · have hne : ((a[i].toNat : Int) != (b[k].toNat : Int)) = false := by rw [heq]; simp
                have hmin : ∀ (ats : Array TypeId) (t : TypeId) (w : World), (Builtin.min_ ats t #[.int .i64 (P : Int), .int .i64 ((R : Int) + 1), .int .i64 ((Q : Int) + 1)]).run Tryz.prog w = .ok (.int .i64 (N : Int)) w := fun ats t w => by
                  rw [run_min_int3]; congr 2; rw [heq, ne1_self] at hN; omega
                clear hN heq
                go_wp2
                go_quiet (fail)
                go_wp2
                go_roundw
                case rel => exact ⟨k + 1, _, by omega, by go_num, by rw [Hq.out], by rw [List.length_set]; exact Hl.out, hat.set (k + 1) (by rw [Hl.out]; omega) _, below_drewN (hbr.setCell hlow _) _, Hrel.out⟩
                case measure => simp [intOf]; omega
              · have hne : ((a[i].toNat : Int) != (b[k].toNat : Int)) = true := by rw [bne_iff_ne]; intro h; exact heq (UInt8.toNat_inj.1 (by omega))
                have hmin : ∀ (ats : Array TypeId) (t : TypeId) (w : World), (Builtin.min_ ats t #[.int .i64 ((P : Int) + 1), .int .i64 ((R : Int) + 1), .int .i64 ((Q : Int) + 1)]).run Tryz.prog w = .ok (.int .i64 (N : Int)) w := fun ats t w => by
                  rw [run_min_int3]; congr 2; rw [ne1, if_neg heq] at hN; omega
                clear hN heq
                go_wp2
                go_quiet (fail)
                go_wp2
                go_roundw
                case rel => exact ⟨k + 1, _, by omega, by go_num, by rw [Hq.out], by rw [List.length_set]; exact Hl.out, hat.set (k + 1) (by rw [Hl.out]; omega) _, below_drewN (hbr.setCell hlow _) _, Hrel.out⟩
                case measure => simp [intOf]; omega
            · obtain rfl : k = b.size := by omega
              go_wp2
              go_roundw
              case rel => exact ⟨i + 1, l, by omega, by go_num, Hl.out, hat, hbr, fun j hj => by rw [Hv.out j hj, if_pos hj]⟩
              case measure => simp [intOf]; omega
        · obtain rfl : i = a.size := by omega
          obtain ⟨hc, hf⟩ := hat.2 b.size (by rw [Hl.out]; omega)
          rw [Hv.out b.size (Nat.le_refl _)] at hc
          have hall : pd a.data.toList b.data.toList a.size b.size = lev a.data.toList b.data.toList := pd_all a.data.toList b.data.toList
          have Hall := Lib.hid hall
          clear hall
          generalize pd a.data.toList b.data.toList a.size b.size = X at *
          go_wp2
          go_ret2
          exact ⟨by rw [← Hall.out]; rfl, hbr⟩

set_option maxHeartbeats 400000 in
theorem dist_no (a b : ByteArray) (h : 200 < a.size ∨ 200 < b.size) (w : World) :
    Calls Tryz.prog 38 #[.string a, .string b] w fun e w' => e = .returned (.tuple #[.int .i64 0, .int .i64 2]) ∧ w = w' := by
  go_enter Tryz.func38, Tryz.ntmps38
  go_wp2_with fail
  refine (sameCheck_no a b h _).mono ?_
  rintro e w1 ⟨rfl, rfl⟩
  go_wp2
  go_ret2
  exact ⟨rfl, rfl⟩

/-- What Of answers, at every two texts: the number, the error. -/
def dv (a b : ByteArray) : Int := if a.size ≤ 200 ∧ b.size ≤ 200 then (lev a.data.toList b.data.toList : Nat) else 0
def de (a b : ByteArray) : Int := if a.size ≤ 200 ∧ b.size ≤ 200 then 0 else 2
theorem dv_ok {a b : ByteArray} (ha : a.size ≤ 200) (hb : b.size ≤ 200) : dv a b = (lev a.data.toList b.data.toList : Nat) := by unfold dv; rw [if_pos ⟨ha, hb⟩]
theorem de_ok {a b : ByteArray} (ha : a.size ≤ 200) (hb : b.size ≤ 200) : de a b = 0 := by unfold de; rw [if_pos ⟨ha, hb⟩]
theorem dv_comm (a b : ByteArray) : dv a b = dv b a := by
  unfold dv
  rw [lev_comm]
  by_cases h : a.size ≤ 200 ∧ b.size ≤ 200
  · rw [if_pos h, if_pos h.symm]
  · rw [if_neg h, if_neg (fun h' => h h'.symm)]
theorem de_comm (a b : ByteArray) : de a b = de b a := by
  unfold de
  by_cases h : a.size ≤ 200 ∧ b.size ≤ 200
  · rw [if_pos h, if_pos h.symm]
  · rw [if_neg h, if_neg (fun h' => h h'.symm)]
theorem de_zero {a b : ByteArray} (h : de a b = 0) : a.size ≤ 200 ∧ b.size ≤ 200 := by
  unfold de at h
  by_cases h' : a.size ≤ 200 ∧ b.size ≤ 200
  · exact h'
  · rw [if_neg h'] at h; cases h
theorem dv_no {a b : ByteArray} (h : de a b ≠ 0) : dv a b = 0 := by
  unfold de at h
  unfold dv
  by_cases h' : a.size ≤ 200 ∧ b.size ≤ 200
  · rw [if_pos h'] at h; exact absurd rfl h
  · rw [if_neg h']
theorem dv_bd (a b : ByteArray) : 0 ≤ dv a b ∧ dv a b ≤ 400 := by
  unfold dv
  by_cases h' : a.size ≤ 200 ∧ b.size ≤ 200
  · rw [if_pos h']
    have := lev_le_add a.data.toList b.data.toList
    have h1 : a.data.toList.length = a.size := rfl
    have h2 : b.data.toList.length = b.size := rfl
    omega
  · rw [if_neg h']; omega
theorem dist_any (a b : ByteArray) (w : World) :
    Calls Tryz.prog 38 #[.string a, .string b] w fun e w' => e = .returned (.tuple #[.int .i64 (dv a b), .int .i64 (de a b)]) ∧ Below w.heap.size w w' := by
  by_cases h : a.size ≤ 200 ∧ b.size ≤ 200
  · exact (dist_ok a b h.1 h.2 w).mono fun e w' ⟨he, hb⟩ => ⟨by rw [he, dv_ok h.1 h.2, de_ok h.1 h.2], hb⟩
  · exact (dist_no a b (by omega) w).mono fun e w' ⟨he, hb⟩ => ⟨by rw [he, dv, de, if_neg h, if_neg h], by rw [← hb]; exact Below.refl _ _⟩

theorem lev_kitten : lev (ByteArray.mk #[107, 105, 116, 116, 101, 110]).data.toList (ByteArray.mk #[115, 105, 116, 116, 105, 110, 103]).data.toList = 3 := by decide +kernel

end Go.Proofs.YtaogegpfapfchaaGreatDoor

/- strings.Join: the shelf's contract laid at this program: the table of numbers and the facts that it asks. -/
namespace Go.Proofs.YtaogegpfapfchaaGreatDoor
open Go.RowKit
set_option linter.unusedVariables false

def laysJ_ren : Go.Shelf.Ren := ⟨fun | 156 => 19 | 165 => 27 | 166 => 28 | 169 => 29 | 240 => 47 | 241 => 48 | 276 => 79 | 277 => 80 | n => n, fun | 31 => 22 | 9 => 9 | 3 => 3 | 4 => 4 | 0 => 0 | 20 => 20 | 72 => 56 | 76 => 60 | 70 => 53 | 37 => 54 | 75 => 59 | 127 => 91 | 164 => 119 | 5 => 5 | 80 => 62 | n => n, fun | n => n⟩
theorem laysJ : Go.Proofs.Lays.n156 Tryz.prog laysJ_ren := {
  mixed := by kernel_rfl,
  f156 := Tryz.func19.trans (congrArg some (by kernel_rfl)),
  f165 := Tryz.func27.trans (congrArg some (by kernel_rfl)),
  f166 := Tryz.func28.trans (congrArg some (by kernel_rfl)),
  f169 := Tryz.func29.trans (congrArg some (by kernel_rfl)),
  f240 := Tryz.func47.trans (congrArg some (by kernel_rfl)),
  f241 := Tryz.func48.trans (congrArg some (by kernel_rfl)),
  f276 := Tryz.func79.trans (congrArg some (by kernel_rfl)),
  f277 := Tryz.func80.trans (congrArg some (by kernel_rfl)),
  t0 := Tryz.underlying0,
  a0 := Tryz.isAgg0,
  z0 := Tryz.sizeOf0,
  v0 := Tryz.zeroValue0,
  t3 := Tryz.underlying3,
  a3 := Tryz.isAgg3,
  z3 := Tryz.sizeOf3,
  v3 := Tryz.zeroValue3,
  t4 := Tryz.underlying4,
  a4 := Tryz.isAgg4,
  z4 := Tryz.sizeOf4,
  v4 := Tryz.zeroValue4,
  t9 := Tryz.underlying9,
  a9 := Tryz.isAgg9,
  z9 := Tryz.sizeOf9,
  v9 := Tryz.zeroValue9,
  t20 := Tryz.underlying20,
  a20 := Tryz.isAgg20,
  z20 := Tryz.sizeOf20,
  v20 := Tryz.zeroValue20,
  t31 := Tryz.underlying22,
  a31 := Tryz.isAgg22,
  z31 := Tryz.sizeOf22,
  v31 := Tryz.zeroValue22,
  t37 := Tryz.underlying54,
  a37 := Tryz.isAgg54,
  z37 := Tryz.sizeOf54,
  v37 := Tryz.zeroValue54,
  t70 := Tryz.underlying53,
  a70 := Tryz.isAgg53,
  z70 := Tryz.sizeOf53,
  v70 := Tryz.zeroValue53,
  t72 := Tryz.underlying56,
  a72 := Tryz.isAgg56,
  z72 := Tryz.sizeOf56,
  v72 := Tryz.zeroValue56,
  t75 := Tryz.underlying59,
  a75 := Tryz.isAgg59,
  z75 := Tryz.sizeOf59,
  v75 := Tryz.zeroValue59,
  t76 := Tryz.underlying60,
  a76 := Tryz.isAgg60,
  z76 := Tryz.sizeOf60,
  v76 := Tryz.zeroValue60,
  t127 := Tryz.underlying91,
  a127 := Tryz.isAgg91,
  z127 := Tryz.sizeOf91,
  v127 := Tryz.zeroValue91,
  t164 := Tryz.underlying119,
  a164 := Tryz.isAgg119,
  z164 := Tryz.sizeOf119,
  v164 := Tryz.zeroValue119 }
theorem laysJX : Go.Proofs.Builder.Extra Tryz.prog laysJ_ren := {
  sizeBuilder := by kernel_rfl, liesBuilder := by kernel_rfl, t5 := Tryz.underlying5, a5 := Tryz.isAgg5, z5 := Tryz.sizeOf5, v5 := Tryz.zeroValue5, infoByte := by kernel_rfl, cellsByte := by kernel_rfl, sizeByte := by kernel_rfl, neB5 := by decide }

theorem join_any (bk o c : Nat) (xs : List ByteArray) (sep : ByteArray) (w : World)
    (hcells : ∀ (j : Nat) x, xs[j]? = some x → w.cell? ⟨bk, o + j, none⟩ = some (.string x)) (hbk : bk < w.heap.size) (hN : xs.length ≤ 140737488355328) (hcap : xs.length ≤ c)
    (hlen : (Lib.join (xs.map (·.data.toList)) sep.data.toList).length ≤ 140737488355328) :
    Calls Tryz.prog 19 #[.slice (some ⟨bk, o, none⟩) xs.length c, .string sep] w fun e w' => e = .returned (.string ⟨(Lib.join (xs.map (·.data.toList)) sep.data.toList).toArray⟩) ∧ Below w.heap.size w w' :=
  Any.strings_Join laysJ laysJX bk o c xs sep w hcells hbk hN hcap hlen
theorem join_none (a : Option Addr) (c : Nat) (sep : ByteArray) (w : World) :
    Calls Tryz.prog 19 #[.slice a 0 c, .string sep] w fun e w' => e = .returned (.string ⟨#[]⟩) ∧ w' = w :=
  Any.strings_Join_none laysJ laysJX a c sep w
end Go.Proofs.YtaogegpfapfchaaGreatDoor

/- strings.Join of a row with nothing between. -/
namespace Go.Proofs.YtaogegpfapfchaaGreatDoor
open Go.RowKit
set_option linter.unusedVariables false

theorem reads_cellsJ {w : World} {B n b o : Nat} {l : List ByteArray} (r : Reads w B (some ⟨b, o, none⟩) n 1 (l.flatMap cStr)) (hl : l.length = n) (hn : 0 < n) : b < B ∧ ∀ (j : Nat) x, l[j]? = some x → w.cell? ⟨b, o + j, none⟩ = some (.string x) := by
  obtain ⟨b', o', he, hbB, hc⟩ := r.2 hn
  cases he
  refine ⟨hbB, fun j x hx => ?_⟩
  have hj : j < l.length := by
    rcases Nat.lt_or_ge j l.length with h | h
    · exact h
    · exact absurd (hx.symm.trans (List.getElem?_eq_none h)) (by simp)
  have hx' : l.getD j ByteArray.empty = x := by rw [List.getD_eq_getElem?_getD, hx]; rfl
  have c0 := hc (j * 1 + 0) (by rw [flat_length cStr 1 cStr_len]; omega)
  rw [flat_getD cStr 1 cStr_len ByteArray.empty l j _ hj (by omega), hx'] at c0
  simpa only [cStr, List.getD_cons_zero, Nat.mul_one, Nat.add_zero] using c0
theorem join_flat (l : List ByteArray) : Lib.join (l.map (·.data.toList)) [] = (l.map (·.data.toList)).flatten := by
  cases l with
  | nil => rfl
  | cons p l =>
    rw [List.map_cons, Lib.join_cons, List.flatten_cons, Lib.joinTail]
    congr 1
    rw [List.map_map]
    rfl
theorem joinAll_any (A : Option Addr) (n c B : Nat) (l : List ByteArray) (hl : l.length = n) (hnc : n ≤ c) (hn : n ≤ 140737488355328) (ht : (l.map (·.data.toList)).flatten.length ≤ 140737488355328) (w : World) (r : Reads w B A n 1 (l.flatMap cStr)) (hB : B ≤ w.heap.size) :
    Calls Tryz.prog 19 #[.slice A n c, .string ⟨#[]⟩] w fun e w' => e = .returned (.string ⟨(l.map (·.data.toList)).flatten.toArray⟩) ∧ Below w.heap.size w w' := by
  rcases Nat.eq_zero_or_pos n with h0 | h0
  · subst h0
    obtain rfl : l = [] := List.eq_nil_of_length_eq_zero hl
    refine (join_none A c ⟨#[]⟩ w).mono ?_
    rintro e w2 ⟨rfl, rfl⟩
    exact ⟨rfl, Below.refl _ _⟩
  · obtain ⟨b, o, rfl, hbB, _⟩ := r.2 h0
    obtain ⟨_, hc⟩ := reads_cellsJ r hl h0
    have hj := join_any b o c l ⟨#[]⟩ w hc (by omega) (by omega) (by omega)
    rw [show (⟨#[]⟩ : ByteArray).data.toList = [] from rfl, join_flat, hl] at hj
    exact hj ht
end Go.Proofs.YtaogegpfapfchaaGreatDoor

/- What the desk asks of words: each function's contract, told whole. -/
namespace Go.Proofs.YtaogegpfapfchaaGreatDoor
open Go.RowKit
set_option linter.unusedVariables false

/-- Strings with a blank between. -/
def joinB (l : List ByteArray) : ByteArray := ⟨(Lib.join (l.map (·.data.toList)) [32]).toArray⟩
theorem joinTail_le : ∀ (l : List ByteArray) (K : Nat), (∀ x ∈ l, x.size ≤ K) → (Lib.joinTail [32] (l.map (·.data.toList))).length ≤ l.length * (K + 1)
  | [], K, _ => Nat.zero_le _
  | x :: l, K, h => by
    have ih := joinTail_le l K fun y hy => h y (List.mem_cons_of_mem _ hy)
    have h1 := h x (List.mem_cons_self ..)
    have h2 : x.data.toList.length = x.size := rfl
    unfold Lib.joinTail at ih ⊢
    rw [List.map_cons, List.map_cons, List.flatten_cons, List.length_append, List.length_append, List.length_cons, List.length_cons, Nat.add_mul]
    simp only [List.length_nil]
    omega
theorem join_le (l : List ByteArray) (K : Nat) (h : ∀ x ∈ l, x.size ≤ K) : (Lib.join (l.map (·.data.toList)) [32]).length ≤ l.length * (K + 1) := by
  cases l with
  | nil => exact Nat.zero_le _
  | cons x l =>
    have h1 := joinTail_le l K fun y hy => h y (List.mem_cons_of_mem _ hy)
    have h2 := h x (List.mem_cons_self ..)
    have h3 : x.data.toList.length = x.size := rfl
    rw [List.map_cons, Lib.join_cons, List.length_append, List.length_cons, Nat.add_mul]
    omega
theorem joinSp_any (A : Option Addr) (n c B : Nat) (l : List ByteArray) (hl : l.length = n) (hnc : n ≤ c) (hn : n ≤ 1000) (ht : ∀ x ∈ l, x.size ≤ 1000000) (w : World) (r : Reads w B A n 1 (l.flatMap cStr)) (hB : B ≤ w.heap.size) :
    Calls Tryz.prog 19 #[.slice A n c, .string ⟨#[32]⟩] w fun e w' => e = .returned (.string (joinB l)) ∧ Below w.heap.size w w' := by
  rcases Nat.eq_zero_or_pos n with h0 | h0
  · subst h0
    obtain rfl : l = [] := List.eq_nil_of_length_eq_zero hl
    refine (join_none A c ⟨#[32]⟩ w).mono ?_
    rintro e w2 ⟨rfl, rfl⟩
    exact ⟨rfl, Below.refl _ _⟩
  · obtain ⟨b, o, rfl, hbB, _⟩ := r.2 h0
    obtain ⟨_, hc⟩ := reads_cellsJ r hl h0
    have hle := join_le l 1000000 ht
    have hm : l.length * (1000000 + 1) ≤ 1000 * (1000000 + 1) := Nat.mul_le_mul_right _ (by omega)
    have hj := join_any b o c l ⟨#[32]⟩ w hc (by omega) (by omega) (by omega) (by show (Lib.join (l.map (·.data.toList)) [32]).length ≤ _; omega)
    rw [hl] at hj
    exact hj

def wE (s : ByteArray) : Nat := if s.size ≤ 200 then 0 else 2
def perR (s : ByteArray) : List Nat := if s.size ≤ 200 then periodsOf s.data.toList else []
def findR (s p : ByteArray) : List Nat := if seekE s.size p.size = 0 then findOf s.data.toList p.data.toList else []
def seekN (s p : ByteArray) : Nat := (seekE s.size p.size).toNat
noncomputable def splF (s : ByteArray) : List ByteArray := by
  classical
  exact if h : s.size ≤ 200 ∧ ∃ F, Cfl s.data.toList F then h.2.choose.map tx else []
theorem splF_eq {s : ByteArray} (hs : s.size ≤ 200) {F : List (List UInt8)} (h : Cfl s.data.toList F) : splF s = F.map tx := by
  unfold splF
  have hx : s.size ≤ 200 ∧ ∃ F, Cfl s.data.toList F := ⟨hs, F, h⟩
  rw [dif_pos hx, cfl_eq hx.2.choose_spec h]
/-- Numbers that a function hands back, and an error. -/
def NumsTo (R : List Nat) (E : Nat) (w : World) (e : Ending) (w' : World) : Prop :=
  ∃ A n c, e = .returned (.tuple #[.slice A n c, .int .i64 (E : Int)]) ∧ R.length = n ∧ n ≤ 1000 ∧ (∀ x ∈ R, x ≤ 1000000) ∧ Reads w' w'.heap.size A n 1 ((nI R).flatMap cInt) ∧ Below w.heap.size w w'
theorem periods_all (s : ByteArray) (w : World) : Calls Tryz.prog 33 #[.string s] w (NumsTo (perR s) (wE s) w) := by
  unfold perR wE
  by_cases h : s.size ≤ 200
  · rw [if_pos h, if_pos h]
    refine (periods_ok s h w).mono ?_
    rintro e w' ⟨A, c, rfl, hr, hb, hc⟩
    have hl := periods_length s.data.toList
    have h2 : s.data.toList.length = s.size := rfl
    rw [nI_length] at *
    exact ⟨A, _, c, rfl, rfl, by omega, fun x hx => by have := (mem_periods _ _).1 hx; omega, hr, hb⟩
  · rw [if_neg h, if_neg h]
    refine (periods_no s (by omega) w).mono ?_
    rintro e w' ⟨rfl, rfl⟩
    exact ⟨none, 0, 0, rfl, rfl, by decide, by simp, Reads.nil, Below.refl _ _⟩
theorem find_all (s p : ByteArray) (w : World) : Calls Tryz.prog 35 #[.string s, .string p] w (NumsTo (findR s p) (seekN s p) w) := by
  unfold findR seekN
  by_cases h : seekE s.size p.size = 0
  · rw [if_pos h, h]
    refine (find_ok s p h w).mono ?_
    rintro e w' ⟨A, c, rfl, hr, hb, hc⟩
    have hl : (findOf s.data.toList p.data.toList).length ≤ _ := foundOf_length s.data.toList p.data.toList _
    obtain ⟨h1, h3, h4⟩ := seekE_ok.1 h
    have h2 : s.data.toList.length = s.size := rfl
    have h5 : p.data.toList.length = p.size := rfl
    rw [nI_length] at *
    refine ⟨A, _, c, rfl, rfl, by omega, fun x hx => ?_, hr, hb⟩
    have := (mem_find _ _ (by omega) _).1 hx
    have := this.1
    omega
  · rw [if_neg h]
    refine (find_no s p h w).mono ?_
    rintro e w' ⟨rfl, rfl⟩
    have h6 : ((seekE s.size p.size).toNat : Int) = seekE s.size p.size := by
      unfold seekE
      split
      · rfl
      · split <;> rfl
    exact ⟨none, 0, 0, by rw [h6], rfl, by decide, by simp, Reads.nil, Below.refl _ _⟩
theorem split_all (s : ByteArray) (w : World) : Calls Tryz.prog 36 #[.string s] w fun e w' =>
    ∃ A n c, e = .returned (.tuple #[.slice A n c, .int .i64 (wE s : Int)]) ∧ (splF s).length = n ∧ n ≤ c ∧ n ≤ 1000 ∧ (∀ x ∈ splF s, x.size ≤ 1000000) ∧ Reads w' w'.heap.size A n 1 ((splF s).flatMap cStr) ∧ Below w.heap.size w w' := by
  unfold wE
  by_cases h : s.size ≤ 200
  · rw [if_pos h]
    refine (split_ok s h w).mono ?_
    rintro e w' ⟨F, A, c, hF, rfl, hr, hb, hc⟩
    rw [splF_eq h hF]
    have h2 : s.data.toList.length = s.size := rfl
    have h3 := cfl_len hF
    refine ⟨A, _, c, rfl, by simp, hc, by omega, fun x hx => ?_, hr, hb⟩
    obtain ⟨f, hf, rfl⟩ := List.mem_map.1 hx
    have h4 : (tx f).size = f.length := rfl
    have h5 : f.length ≤ F.flatten.length := (List.sublist_flatten_of_mem hf).length_le
    have h6 : F.flatten = s.data.toList := hF.1
    rw [h4]
    rw [h6] at h5
    omega
  · rw [if_neg h]
    refine (split_no s (by omega) w).mono ?_
    rintro e w' ⟨rfl, rfl⟩
    have h7 : splF s = [] := by unfold splF; rw [dif_neg fun hx => h hx.1]
    rw [h7]
    exact ⟨none, 0, 0, rfl, rfl, by decide, by decide, by simp, Reads.nil, Below.refl _ _⟩
end Go.Proofs.YtaogegpfapfchaaGreatDoor

