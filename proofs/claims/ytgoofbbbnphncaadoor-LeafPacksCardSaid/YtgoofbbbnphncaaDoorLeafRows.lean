/- Rows of scripts that came in, one of them at a time. -/
import Derived.Test.YtgoofbbbnphncaaDoorLeaves
namespace Go.Proofs.YtgoofbbbnphncaaDoor
open Go.RowKit
set_option linter.unusedVariables false

/-- A row of scripts, in whatever later world. -/
theorem editss_row {w w' : World} {A : Option Addr} {len cap : Nat} {l : List EdRow} (h : EditssIn w A len cap l) (hb : Below w.heap.size w w') {k : Nat} {X : Option Addr} {n c : Nat} {L : List Ed} (hk : l[k]? = some (X, n, c, L)) : EdsAt w' X n c L := by
  have he := edsAt_of (h.2.2.2.1 _ (List.mem_of_getElem? hk))
  exact he.after hb
theorem editss_at {w w' : World} {A : Option Addr} {len cap : Nat} {l : List EdRow} (h : EditssIn w A len cap l) (hb : Below w.heap.size w w') (k : Nat) (hk : k < len) :
    ∃ b o X n c L, A = some ⟨b, o, none⟩ ∧ w'.cell? ⟨b, o + k, none⟩ = some (.slice X n c) ∧ EdsAt w' X n c L ∧ l[k]? = some (X, n, c, L) := by
  obtain ⟨hll, hrd, hlen, hok, hcap, _, _⟩ := h
  obtain ⟨b, o, rfl, hbB, hc⟩ := (hrd.below hb).2 (by omega)
  have c0 := hc (k * 1 + 0) (by rw [flat_length cRow 1 cRow_len, hll]; omega)
  rw [flat_getD cRow 1 cRow_len (none, 0, 0, []) l k _ (by rw [hll]; exact hk) (by omega)] at c0
  simp only [cRow, List.getD_cons_zero, Nat.mul_one, Nat.add_zero] at c0
  have hm : l.getD k (none, 0, 0, []) ∈ l := by rw [getD_some _ _ _ (by rw [hll]; exact hk)]; exact List.getElem_mem _
  have he := edsAt_of (hok _ hm)
  refine ⟨b, o, _, _, _, _, rfl, c0, he.after hb, ?_⟩
  rw [getElem?_of_getD l (none, 0, 0, []) k (by rw [hll]; exact hk)]
end Go.Proofs.YtgoofbbbnphncaaDoor
