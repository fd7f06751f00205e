/- byteReplacer.Replace, at the table that turns 0 and 1. -/
import Derived.Test.YtafpcekemlgclaaGreatDoorReplNew
import Derived.Test.YtafpcekemlgclaaGreatDoorClone
namespace Go.Proofs.YtafpcekemlgclaaGreatDoor
open Go.RowKit
set_option linter.unusedVariables false

theorem flipC_nat (c : UInt8) : (flipC c).toNat = flipN c.toNat := by
  unfold flipC flipN
  by_cases h : c = 48
  · subst h; rfl
  · by_cases h1 : c = 49
    · subst h1; rfl
    · have e : c.toNat ≠ 48 := fun e => h (UInt8.toNat_inj.1 (by rw [e]; rfl))
      have e1 : c.toNat ≠ 49 := fun e => h1 (UInt8.toNat_inj.1 (by rw [e]; rfl))
      rw [if_neg h, if_neg h1, if_neg e, if_neg e1]
/-- The first k bytes turned. -/
def flipP (l : List UInt8) (k : Nat) : List UInt8 := (l.take k).map flipC ++ l.drop k
theorem flipP_len (l : List UInt8) (k : Nat) : (flipP l k).length = l.length := by unfold flipP; rw [List.length_append, List.length_map, ← List.length_append, List.take_append_drop]
theorem flipP_zero (l : List UInt8) : flipP l 0 = l := by simp [flipP]
theorem flipP_all (l : List UInt8) (k : Nat) (h : l.length ≤ k) : flipP l k = l.map flipC := by unfold flipP; rw [List.take_of_length_le h, List.drop_of_length_le h, List.append_nil]
theorem flipP_set (l : List UInt8) (k : Nat) (h : k < l.length) : (flipP l k).set k (flipC l[k]) = flipP l (k + 1) := by
  unfold flipP
  have h1 : ((l.take k).map flipC).length = k := by rw [List.length_map, List.length_take]; omega
  rw [List.set_append_right _ _ (by omega), h1, Nat.sub_self, List.drop_eq_getElem_cons h, List.set_cons_zero, List.take_succ_eq_append_getElem h, List.map_append, List.append_assoc]
  rfl
theorem flipP_same (l : List UInt8) (k : Nat) (h : k < l.length) (e : flipC l[k] = l[k]) : flipP l (k + 1) = flipP l k := by
  have := flipP_set l k h
  rw [e] at this
  rw [← this]
  have h2 : (flipP l k)[k]'(by rw [flipP_len]; exact h) = l[k] := by
    unfold flipP
    have h1 : ((l.take k).map flipC).length = k := by rw [List.length_map, List.length_take]; omega
    rw [List.getElem_append_right (by omega), List.getElem_drop]
    simp only [h1, Nat.sub_self, Nat.add_zero]
  conv => lhs; rw [← h2]
  exact List.set_getElem_self _
def flipS (s : ByteArray) : ByteArray := ⟨(s.data.toList.map flipC).toArray⟩

set_option maxRecDepth 100000 in
set_option maxHeartbeats 2000000 in
theorem replRun (g : Nat) (s : ByteArray) (hs : s.size ≤ 140737488355328) (w : World) (hT : TabAt w g flipN) :
    Calls Tryz.prog 104 #[.pointer (some ⟨g, 0, none⟩), .string s] w fun e w' => e = .returned (.string (flipS s)) ∧ Below w.heap.size w w' := by
  have hlen : s.data.toList.length = s.size := rfl
  have hq0 := fun w => run_eql_slice_nil (P := Tryz.prog) w 32 5 none 0 0 Tryz.underlying32
  have hq1 := fun w (a : Addr) (n c : Nat) => run_eql_slice_nil (P := Tryz.prog) w 32 5 (some a) n c Tryz.underlying32
  have hgl := hT.lt
  go_enter Tryz.func104, Tryz.ntmps104
  go_wp2
  go_loopw [5, 6, 7] (fun bv iv _ wr => ∃ k : Nat, k ≤ s.size ∧ iv = .int .i64 k ∧ ((bv = .slice none 0 0 ∧ flipP s.data.toList k = s.data.toList) ∨ (∃ g2 c2, bv = .slice (some ⟨g2, 0, none⟩) s.size c2 ∧ w.heap.size ≤ g2 ∧ BytesAt wr g2 (flipP s.data.toList k))) ∧ Below w.heap.size w wr) (fun _ iv _ _ => s.size - (intOf iv).toNat)
  case atStart => exact ⟨0, Nat.zero_le _, rfl, .inl ⟨rfl, flipP_zero _⟩, Below.refl _ _⟩
  case round =>
    obtain ⟨k, hk, rfl, hcase, hbr⟩ := hrel
    by_cases hlt : k < s.size
    · have hkl : k < s.data.toList.length := hlt
      have hel : s.data.toList[k] = s[k] := rfl
      obtain ⟨cs, hTb, hTs, hTc⟩ := hT.ex
      have hTb2 : Blk wr g 72 cs := by unfold Blk; rw [hbr.block g hgl]; exact hTb
      have hb256 : (s[k]).toNat < 256 := UInt8.toNat_lt _
      have y0 : wr.cell? ⟨g, (s[k]).toNat, none⟩ = some (.int .u8 ((flipC s[k]).toNat : Int)) := by
        rw [hTb2.cell, hTc _ hb256, flipC_nat]
      have hset := flipP_set s.data.toList k hkl
      have hsame := flipP_same s.data.toList k hkl
      rw [hel] at hset hsame
      have Hset := Lib.hid hset
      have Hsame := Lib.hid hsame
      have Hcase := Lib.hid hcase
      clear hset hsame hcase hTb hTc hTs
      by_cases hf : flipC s[k] = s[k]
      · have q1 : (((flipC s[k]).toNat : Int) != ((s[k]).toNat : Int)) = false := by rw [hf]; simp
        have Hf := Lib.hid hf
        clear hf hTb2
        go_wp2
        go_roundw
        case rel => exact ⟨k + 1, by omega, by go_num, by rw [Hsame.out Hf.out]; exact Hcase.out, hbr⟩
        case measure => simp only [intOf]; omega
      · have q1 : (((flipC s[k]).toNat : Int) != ((s[k]).toNat : Int)) = true := by
          rw [bne_iff_ne]
          intro e
          exact hf (UInt8.toNat_inj.1 (by omega))
        rcases Hcase.out with ⟨rfl, hP⟩ | ⟨g2, c2, rfl, hg2, hA⟩
        · obtain ⟨cap, hcap⟩ : ∃ cap, cap = grownCap wr s.size 0 5 := ⟨_, rfl⟩
          obtain ⟨W, hW⟩ : ∃ W, (wr.alloc (.cells (bytesRow s cap) 5 ((bytesRow s cap).size, (bytesRow s cap).size + 1))).drew = W := ⟨_, rfl⟩
          have hcv : (convert 9 32 (.string s)).run Tryz.prog wr = .ok (.slice (some ⟨wr.heap.size, 0, none⟩) s.size cap) W := by
            rw [← hW, hcap]
            exact run_bytes_of_string (P := Tryz.prog) wr 9 32 5 s Tryz.underlying9 Tryz.underlying32 Tryz.underlying5
          obtain ⟨hb2, hz2, hat⟩ := bytes_at s cap (by rw [hcap]; exact grownCap_ge _ _ _ _) _ _ _ hW
          have y1 : W.cell? ⟨g, (s[k]).toNat, none⟩ = some (.int .u8 ((flipC s[k]).toNat : Int)) := (hb2.cell (show g < wr.heap.size from hTb2.lt)).trans y0
          have x0 := (hat.2 k hkl).1
          have f0 := (hat.2 k hkl).2
          have hat2 := hat.set k hkl (flipC s[k])
          have e2 : s.data.toList.set k (flipC s[k]) = flipP s.data.toList (k + 1) := by
            have := Hset.out
            rw [hP] at this
            exact this
          rw [e2] at hat2
          have hb3 := (chain hb2 hbr).setCell (p := ⟨wr.heap.size, k, none⟩) hbr.size (.int .u8 ((flipC s[k]).toNat : Int))
          have hszw := hbr.size
          generalize s.data.toList.getD k 0 = old at x0
          clear hf hTb2 hP Hset Hsame Hcase hat hb2 hW hz2 e2 hcap
          go_wp2
          go_roundw
          case rel => exact ⟨k + 1, by omega, by go_num, .inr ⟨_, _, rfl, hszw, hat2⟩, hb3⟩
          case measure => simp only [intOf]; omega
        · have hkp : k < (flipP s.data.toList k).length := by rw [flipP_len]; exact hkl
          have x0 := (hA.2 k hkp).1
          have f0 := (hA.2 k hkp).2
          have hat2 := hA.set k hkp (flipC s[k])
          rw [Hset.out] at hat2
          have hb3 := hbr.setCell (p := ⟨g2, k, none⟩) hg2 (.int .u8 ((flipC s[k]).toNat : Int))
          generalize (flipP s.data.toList k).getD k 0 = old at x0
          clear hf hTb2 Hset Hsame Hcase hA hkp
          go_wp2
          go_roundw
          case rel => exact ⟨k + 1, by omega, by go_num, .inr ⟨_, _, rfl, hg2, hat2⟩, hb3⟩
          case measure => simp only [intOf]; omega
    · obtain rfl : k = s.size := by omega
      have hall := flipP_all s.data.toList s.size (Nat.le_refl _)
      rcases hcase with ⟨rfl, hP⟩ | ⟨g2, c2, rfl, hg2, hA⟩
      · have hfs : flipS s = s := by
          unfold flipS
          rw [← hall, hP]
        have Hfs := Lib.hid hfs
        clear hP hall hfs
        go_wp2
        go_ret
        exact ⟨by rw [Hfs.out]; rfl, hbr⟩
      · rw [hall] at hA
        have hsv := run_string_of (P := Tryz.prog) wr 32 9 5 ⟨g2, 0, none⟩ s.size c2 (s.data.toList.map flipC) (by simp) Tryz.underlying32 Tryz.underlying5 Tryz.underlying9 (fun j hj => by
          rw [add_zero, (hA.2 j hj).1, List.getD_eq_getElem?_getD, List.getElem?_eq_getElem hj]; rfl)
        clear hall hA
        go_wp2
        go_ret
        exact ⟨rfl, hbr⟩
end Go.Proofs.YtafpcekemlgclaaGreatDoor
