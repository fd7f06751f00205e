/- Plain: a code turned around, or with 0 and 1 changed. -/
import Derived.Test.YtafpcekemlgclaaGreatDoorSoleWalk
import Derived.Test.YtafpcekemlgclaaGreatDoorCodeFront
import Derived.Test.YtafpcekemlgclaaGreatDoorReplRun
namespace Go.Proofs.YtafpcekemlgclaaGreatDoor
open Go.RowKit
set_option linter.unusedVariables false

def flipW (w : Wd) : Wd := w.map flipC
theorem flipC_flip (c : UInt8) : flipC (flipC c) = c := by
  unfold flipC
  by_cases h : c = 48
  · subst h; rfl
  · by_cases h1 : c = 49
    · subst h1; rfl
    · rw [if_neg h, if_neg h1, if_neg h, if_neg h1]
theorem flipW_flip (w : Wd) : flipW (flipW w) = w := by
  unfold flipW
  rw [List.map_map]
  exact (List.map_congr_left fun c _ => flipC_flip c).trans (List.map_id w)
theorem flipW_inj {v w : Wd} (h : flipW v = flipW w) : v = w := by rw [← flipW_flip v, h, flipW_flip]
theorem flip_bin (w : Wd) : binB (flipW w) = binB w := by
  unfold binB flipW
  rw [List.all_map]
  have e : ((fun c => c == 48 || c == 49) ∘ flipC : UInt8 → Bool) = fun c => c == 48 || c == 49 := by
    funext c
    show (flipC c == 48 || flipC c == 49) = _
    unfold flipC
    by_cases h : c = 48
    · subst h; rfl
    · by_cases h1 : c = 49
      · subst h1; rfl
      · rw [if_neg h, if_neg h1]
  rw [e]
theorem back_bin (w : Wd) : binB w.reverse = binB w := by unfold binB; rw [List.all_reverse]
theorem check_len {f : Wd → Wd} (h : ∀ r : List Wd, checkW ([].map f) (r.map f) = checkW [] r) (l : List Wd) : checkC (l.map f) = checkC l := by
  unfold checkC
  rw [List.length_map, show checkW [] (l.map f) = checkW [] l from h l]
theorem check_back (l : List Wd) : checkC (l.map List.reverse) = checkC l := check_len (fun r => checkW_map List.reverse (fun w => by simp) (fun w => by simp) back_bin (fun v w h => List.reverse_inj.1 h) r []) l
theorem check_flip (l : List Wd) : checkC (l.map flipW) = checkC l := check_len (fun r => checkW_map flipW (fun w => by simp [flipW]) (fun w => by simp [flipW]) flip_bin (fun v w h => flipW_inj h) r []) l
theorem mem_map_back {l : List Wd} {x : Wd} : x ∈ l.map List.reverse ↔ x.reverse ∈ l := by
  rw [List.mem_map]
  constructor
  · rintro ⟨y, hy, rfl⟩; rw [List.reverse_reverse]; exact hy
  · intro h; exact ⟨x.reverse, h, List.reverse_reverse x⟩
theorem mem_map_flip {l : List Wd} {x : Wd} : x ∈ l.map flipW ↔ flipW x ∈ l := by
  rw [List.mem_map]
  constructor
  · rintro ⟨y, hy, rfl⟩; rw [flipW_flip]; exact hy
  · intro h; exact ⟨flipW x, h, flipW_flip x⟩
theorem ud_back (l : List Wd) : UD (l.map List.reverse) ↔ UD l :=
  ⟨fun h => h.back fun x => by rw [mem_map_back, List.reverse_reverse], fun h => h.back fun x => mem_map_back⟩
theorem flat_flip (p : List Wd) : (p.map flipW).flatten = flipW p.flatten := by unfold flipW; rw [List.map_flatten]
theorem ud_flip (l : List Wd) : UD (l.map flipW) ↔ UD l :=
  ⟨fun h => h.map flipW (fun x hx => List.mem_map.2 ⟨x, hx, rfl⟩) (fun x _ y _ e => flipW_inj e) (fun p q _ _ e => by rw [flat_flip, flat_flip, e]),
    fun h => h.map flipW (fun x hx => mem_map_flip.1 hx) (fun x _ y _ e => flipW_inj e) (fun p q _ _ e => by rw [flat_flip, flat_flip, e])⟩
theorem bool_iff {a b : Bool} (h : a = true ↔ b = true) : a = b := by
  cases a <;> cases b <;> simp_all
theorem sole_back (l : List Wd) : soleB (l.map List.reverse) = soleB l := bool_iff (by rw [soleB_iff, soleB_iff, check_back, ud_back])
theorem sole_flip (l : List Wd) : soleB (l.map flipW) = soleB l := bool_iff (by rw [soleB_iff, soleB_iff, check_flip, ud_flip])
theorem getD_flip (l : List Wd) (i : Nat) : (l.map flipW).getD i [] = flipW (l.getD i []) := by
  rw [List.getD_eq_getElem?_getD, List.getD_eq_getElem?_getD, List.getElem?_map]
  cases l[i]? <;> rfl
theorem pre_flip {v w : Wd} : flipW v <+: flipW w ↔ v <+: w := by
  constructor
  · rintro ⟨t, ht⟩
    refine ⟨flipW t, flipW_inj ?_⟩
    rw [← ht]
    show (v ++ flipW t).map flipC = v.map flipC ++ t
    rw [List.map_append]
    show v.map flipC ++ flipW (flipW t) = _
    rw [flipW_flip]
  · rintro ⟨t, rfl⟩
    exact ⟨flipW t, by unfold flipW; rw [List.map_append]⟩
theorem front_flip (l : List Wd) : frontB (l.map flipW) = frontB l := bool_iff (by
  rw [frontB_iff, frontB_iff, check_flip]
  unfold FrontP
  simp only [List.length_map, getD_flip, pre_flip])
theorem wds_back (l : List ByteArray) : wds (l.map fun s => ⟨s.data.toList.reverse.toArray⟩) = (wds l).map List.reverse := by
  unfold wds
  rw [List.map_map, List.map_map]
  exact List.map_congr_left fun s _ => rfl
theorem wds_flip (l : List ByteArray) : wds (l.map flipS) = (wds l).map flipW := by
  unfold wds
  rw [List.map_map, List.map_map]
  exact List.map_congr_left fun s _ => rfl
end Go.Proofs.YtafpcekemlgclaaGreatDoor
