/- slices.Sort at bytes: what comes out of it. -/
import Derived.Test.YtpnpalbdlhlnkaaBs11
namespace Go.Proofs.Ytpnpalbdlhlnkaa
open Go.RowKit Go.Sort
set_option linter.unusedVariables false

set_option maxRecDepth 100000 in
theorem bSort (blk off cap : Nat) (d : Array UInt8) (w : World) (hH : Holds c8 w blk off d) (hblk : blk < w.heap.size) (hsz : d.size < 1000000000000) :
    Calls Try.prog 7 #[.slice (some ⟨blk, off, none⟩) d.size cap] w fun e w' => e = .returned (.tuple #[]) ∧ At c8 w blk off (Sort.sort lt8 d) w' := by
  have hLen : ∀ w, Calls Try.prog 15 #[.int .u64 (d.size : Int)] w fun e w' => e = .returned (.int .i64 (bitsLen d.size : Nat)) ∧ w' = w := fun w => by
    have h := Any.bits_Len laysBits (d.size : Int) w (by omega) (by omega)
    rw [Int.toNat_natCast, bitLen_eq _ (by omega)] at h
    exact h
  have hk : bitsLen d.size ≤ 62 := (bitsLen_le_iff d.size 62).2 (by omega)
  have hP := bPdq (d.size + 1) blk off cap 0 d.size (bitsLen d.size) d w (by omega) hH hblk (Nat.zero_le _) (Nat.le_refl _) hsz (by omega) (Or.inl rfl)
  have HP := Lib.hid hP
  clear hP hH
  go_enter Try.func7, Try.ntmps7
  go_wp2_with (first
    | (go_at_call 15; refine (hLen _).mono ?_; rintro e w' ⟨rfl, rfl⟩)
    | (go_at_call 14; refine HP.out.mono ?_; rintro e w' ⟨rfl, hAt⟩))
  go_end0
  exact ⟨rfl, hAt⟩

theorem At.grown8 {w wr : World} {g off : Nat} {d : Array UInt8} (h : At c8 w g off d wr) : w.grownBy wr (some g) := by
  obtain ⟨n, os, rfl⟩ := h
  refine ⟨rfl, rfl, rfl, by simp, fun k hk hne => ?_⟩
  rw [heap_grow_old _ _ (by simpa using hk)]
  have : g ≠ k := fun e => hne (by rw [e])
  simp [putRow, mapBlock, Sort.ahead, Array.getElem?_modify, this]

/-- A row of another block holds on. -/
theorem Holds.grown8 {w wr : World} {g g' off' : Nat} {d' : Array UInt8} (h : w.grownBy wr (some g)) (hH : Holds c8 w g' off' d') (hne : g' ≠ g) (hg : g' < w.heap.size) : Holds c8 wr g' off' d' := fun j hj => by
  have e := h.block g' hg (fun e => hne (by injection e))
  refine ⟨?_, ?_⟩
  · have := (hH j hj).1
    simp only [World.cell?, e] at this ⊢
    exact this
  · have := (hH j hj).2
    simp only [World.frozen?, e] at this ⊢
    exact this

theorem sort8_size (d : Array UInt8) : (Sort.sort lt8 d).size = d.size := (sort_sorts lt8 swo8 d).1.1
theorem sort8_eq (d e : Array UInt8) (h : d.toList.Perm e.toList) : Sort.sort lt8 d = Sort.sort lt8 e := by
  have anti : ∀ x y, lt8 x y = false → lt8 y x = false → x = y := fun x y h1 h2 => by
    simp only [lt8, decide_eq_false_iff_not, UInt8.lt_iff_toNat_lt] at h1 h2
    exact UInt8.toNat_inj.1 (by omega)
  have s1 := sort_sorts lt8 swo8 d
  have s2 := sort_sorts lt8 swo8 e
  have e1 := sorted_unique_holds swo8 anti d _ s1.1 s1.2
  have e2 := sorted_unique_holds swo8 anti e _ s2.1 s2.2
  have tr : ∀ a b c : UInt8, (!lt8 b a) = true → (!lt8 c b) = true → (!lt8 c a) = true := fun a b c h1 h2 => by
    simp only [Bool.not_eq_true'] at *
    exact swo8.ntrans _ _ _ h2 h1
  have tot : ∀ a b : UInt8, ((!lt8 b a) || !lt8 a b) = true := fun a b => by
    by_cases h : lt8 b a = true
    · have : lt8 a b = false := by
        cases h2 : lt8 a b
        · rfl
        · have := swo8.trans _ _ _ h h2; rw [swo8.irrefl] at this; cases this
      rw [this]; simp
    · simp [h]
  have hp : (d.toList.mergeSort (fun x y => !lt8 y x)) = (e.toList.mergeSort (fun x y => !lt8 y x)) := by
    refine List.Perm.eq_of_pairwise (le := fun x y => (!lt8 y x) = true) ?_ (List.pairwise_mergeSort tr tot _) (List.pairwise_mergeSort tr tot _) ((List.mergeSort_perm _ _).trans (h.trans (List.mergeSort_perm _ _).symm))
    intro a b _ _ h1 h2
    simp only [Bool.not_eq_true'] at h1 h2
    exact anti a b h2 h1
  have : (Sort.sort lt8 d).toList = (Sort.sort lt8 e).toList := by rw [e1, e2, hp]
  exact Array.toList_inj.1 this
end Go.Proofs.Ytpnpalbdlhlnkaa
