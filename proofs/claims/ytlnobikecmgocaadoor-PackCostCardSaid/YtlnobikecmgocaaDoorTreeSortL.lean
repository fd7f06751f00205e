/- The sort of tree.Lens, at the piles in the making. -/
import Derived.Test.YtlnobikecmgocaaDoorTreeSt
namespace Go.Proofs.YtlnobikecmgocaaDoor
open Go.RowKit Go.Sort Go.Shelf Go.Lib
set_option linter.unusedVariables false

theorem lensSort {w0 : World} {g : Nat} {W : World} {A : Option Addr} {c : Nat} {L : LP} {o : List Nat} (h : LensSt w0 g W A c L o) (h1 : 0 < L.length) (h12 : L.length ≤ 12) :
    Calls Tryd.prog 17 #[.slice A L.length c, .func (.func 18) #[] #[]] W fun e w' => e = .returned (.tuple #[]) ∧ ∃ M, L.Perm M ∧ (∀ i j, i < j → j < M.length → ((M.map fun x : Pil × List Nat => x.1).getD i default).1.1 ≤ ((M.map fun x : Pil × List Nat => x.1).getD j default).1.1) ∧ LensSt w0 g w' A c M o := by
  obtain ⟨b, off, rfl, hb, _⟩ := h.row.shape h1
  obtain ⟨P, hP⟩ : ∃ P : List Pil, P = L.map fun x => x.1 := ⟨_, rfl⟩
  have hd : P.toArray.size = L.length := by rw [hP]; simp
  have hrw := h.row
  rw [← hP] at hrw
  have e : flatK cPil 2 P.toArray = (P.flatMap cPil).toArray := by
    apply Array.toList_inj.1
    rw [flatK_list cPil 2 cPil_len]
  have hH : HoldsK cPil 2 W b off P.toArray := by
    unfold HoldsK
    rw [e]
    exact hrw.holds
  have hs := pileSort b off c P.toArray W hH hb (by rw [hd]; exact h12)
  rw [hd] at hs
  refine hs.mono fun e w' ⟨he, d', hp, hsort, m, os, hw⟩ => ⟨he, ?_⟩
  obtain ⟨M, hM, hMd⟩ := perm_lift (fun x : Pil × List Nat => x.1) d'.toList L (by rw [← hP]; exact hp.symm)
  have hMl : M.length = L.length := hM.length_eq.symm
  have hdl : d'.size = L.length := by have := hp.length_eq; rw [← hd]; simpa using this
  have hg : W.grownBy w' (some b) := by rw [hw]; exact grownBy_put _
  have hrow : OwnK 42 2 w' (· < w0.heap.size) (some ⟨b, off, none⟩) M.length c ((M.map (·.1)).flatMap cPil) := by
    have h2 := hrw.sorted (F := flatK cPil 2 d') (by simp [hdl]) m os
    rw [flatK_list cPil 2 cPil_len, ← hMd] at h2
    rw [hw, hMl]
    exact h2
  have hkp : KeepI W w' := KeepI.grown hg fun k hk => by
    injection hk with hk
    subst hk
    exact h.row.blkP b rfl
  have hnb : ¬ b < w0.heap.size := (h.row.lt b rfl).1
  refine ⟨M, hM, fun i j hij hj => ?_, hrow, hkp _ _ h.out, fun x hx => (h.of x (hM.mem_iff.2 hx)).keep hkp, h.low.grown hg h.low.size (fun k hk => by injection hk with hk; omega), h.hg⟩
  have h3 := hsort i j (Nat.zero_le _) hij (by omega)
  have hget : ∀ k, k < M.length → d'[k]! = (M.map (·.1)).getD k default := fun k hk => by
    have e : d' = (M.map (·.1)).toArray := by rw [← Array.toList_inj]; exact hMd.symm
    rw [getElem!_pos d' k (by omega), List.getD_eq_getElem?_getD, List.getElem?_eq_getElem (by simpa using hk)]
    simp [e]
  rw [hget i (by omega), hget j hj] at h3
  unfold ltOf cfPil at h3
  have := of_decide_eq_false h3
  omega
end Go.Proofs.YtlnobikecmgocaaDoor
