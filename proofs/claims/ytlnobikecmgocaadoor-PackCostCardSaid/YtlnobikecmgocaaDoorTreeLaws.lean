/- What Lens tells, against Cost and Sum. -/
import Derived.Test.YtlnobikecmgocaaDoorTrees
namespace Go.Proofs.YtlnobikecmgocaaDoor
open Go.RowKit
set_option linter.unusedVariables false

theorem krW_kr (L : Nat) : ∀ (ws q : List Nat), q.length = ws.length → krW L (ws.zip q) = kr L q
  | [], [], _ => rfl
  | w :: ws, x :: q, h => by
    have h' : q.length = ws.length := by simpa using h
    show 2 ^ (L - x) + krW L (ws.zip q) = 2 ^ (L - x) + kr L q
    rw [krW_kr L ws q h']
  | [], _ :: _, h => by simp at h
  | _ :: _, [], h => by simp at h
theorem nats_ikN (o : List Nat) : nats (ikN o) = o := by
  unfold nats ikN
  rw [List.map_map]
  exact (List.map_congr_left fun x _ => by simp).trans (List.map_id o)
theorem nats_len (l : List Int) : (nats l).length = l.length := by unfold nats; rw [List.length_map]
/-- What Lens told is a row of lengths. -/
theorem lens_cost {ws : List Int} {o : List Nat} (hc : checkT ws = 0) (h : LensOk (nats ws) o) : costE ws (ikN o) = 0 ∧ costV ws (ikN o) = ((costO (nats ws) o : Nat) : Int) := by
  have hl := (checkT_zero ws).1 hc
  have hlen : o.length = ws.length := by rw [h.len, nats_len]
  have hs : sumE (ikN o) = 0 := (sumE_zero _).2 ⟨by rw [ikN_len, hlen]; exact hl.1, fun x hx => by
    obtain ⟨k, hk, rfl⟩ := List.getElem_of_mem hx
    rw [ikN_len] at hk
    have hb := h.bd k (by rw [← h.len]; exact hk)
    have e : (ikN o)[k] = ((o.getD k 0 : Nat) : Int) := by
      rw [← ikN_getD, List.getD_eq_getElem?_getD, List.getElem?_eq_getElem (by rw [ikN_len]; exact hk)]; rfl
    rw [e]
    rw [nats_len] at hb
    omega⟩
  have he : costE ws (ikN o) = 0 := by
    unfold costE
    rw [if_neg (fun h => h hc), if_neg (fun h => h hs), if_neg (fun h => h (by rw [ikN_len, hlen]))]
  refine ⟨he, ?_⟩
  unfold costV
  rw [if_pos he, nats_ikN]
theorem lens_least {ws q : List Int} {o : List Nat} (h : LensOk (nats ws) o) (hq : costE ws q = 0) (hk : sumV q ≤ 4096) : ((costO (nats ws) o : Nat) : Int) ≤ costV ws q := by
  obtain ⟨h1, h2, h3⟩ := costE_zero hq
  have hs := (sumE_zero q).1 h2
  have hln : (nats q).length = (nats ws).length := by rw [nats_len, nats_len, h3]
  have hb : ∀ k, k < (nats q).length → 1 ≤ (nats q).getD k 0 ∧ (nats q).getD k 0 ≤ 12 := fun k hk => by
    rw [nats_len] at hk
    rw [nats_getD, List.getD_eq_getElem?_getD, List.getElem?_eq_getElem hk]
    have := hs.2 _ (List.getElem_mem hk)
    show 1 ≤ (q[k]).toNat ∧ (q[k]).toNat ≤ 12
    omega
  have hK : Kr 12 ((nats ws).zip (nats q)) := by
    refine ⟨fun x hx => ?_, ?_⟩
    · obtain ⟨i, hi, rfl⟩ := List.getElem_of_mem hx
      have hi' := hi
      rw [List.length_zip, hln, Nat.min_self] at hi'
      rw [List.getElem_zip]
      have := (hb i (by rw [hln]; exact hi')).2
      rw [List.getD_eq_getElem?_getD, List.getElem?_eq_getElem (by rw [hln]; exact hi')] at this
      exact this
    · rw [krW_kr 12 _ _ hln]
      unfold sumV at hk
      rw [if_pos h2] at hk
      have : (2 : Nat) ^ 12 = 4096 := by decide
      omega
  have := h.least (nats q) 12 hln (fun k hk => (hb k (by rw [hln]; exact hk)).1) hK
  unfold costV
  rw [if_pos hq]
  exact Int.ofNat_le.2 this

end Go.Proofs.YtlnobikecmgocaaDoor
