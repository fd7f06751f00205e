/- Plain: the places of a word's Lyndon factors in the order of ends. -/
import Derived.Test.YtpaodbkdmiedfaaSuffixP
namespace Go.Proofs.Ytpaodbkdmiedfaa
set_option linter.unusedVariables false

theorem lle_pre (l a b : List UInt8) : lle (l ++ a) (l ++ b) ↔ lle a b := by unfold lle; rw [llt_app]
theorem lle_same {a b : List UInt8} (hl : a.length = b.length) (h : lle a b) (x : List UInt8) : lle (a ++ x) (b ++ x) := by
  rcases lle_iff.1 h with h | rfl
  · rcases llt_dif h with hd | ⟨c, hc, rfl⟩
    · exact lle_of_lt (hd.app x x).lt
    · have := List.length_pos_iff.2 hc
      rw [List.length_append] at hl; omega
  · exact lle_refl _
theorem lyn_swap {v w : List UInt8} (hv : Lyn v) (hw : Lyn w) (h : lle v w) : lle (v ++ w) (w ++ v) := by
  rcases lle_iff.1 h with h | rfl
  · have h1 := (lyn_join hv hw h).2 v w rfl hv.1 hw.1
    exact lle_trans (lle_of_lt h1) (lle_prefix w v)
  · exact lle_refl _
theorem flat_swap {w : List UInt8} (hw : Lyn w) : ∀ {F : List (List UInt8)}, (∀ f ∈ F, Lyn f ∧ lle f w) → lle (F.flatten ++ w) (w ++ F.flatten)
  | [], _ => by simp [lle_refl]
  | v :: F, h => by
    have h1 := flat_swap hw (F := F) fun f hf => h f (by simp [hf])
    have h2 := h v (by simp)
    rw [List.flatten_cons, List.append_assoc]
    refine lle_trans ((lle_pre v _ _).2 h1) ?_
    rw [← List.append_assoc, ← List.append_assoc]
    exact lle_same (by rw [List.length_append, List.length_append]; omega) (lyn_swap h2.1 hw h2.2) _
/-- What is behind a factor is less than from the factor on. -/
theorem flat_lt {w : List UInt8} (hw : Lyn w) {F : List (List UInt8)} (h : ∀ f ∈ F, Lyn f ∧ lle f w) : llt F.flatten (w ++ F.flatten) = true :=
  llt_of_lt_le (llt_prefix _ _ hw.1) (flat_swap hw h)
/-- Where the first k factors end. -/
def atF (F : List (List UInt8)) (k : Nat) : Nat := (F.take k).flatten.length
theorem atF_succ (F : List (List UInt8)) {k : Nat} (hk : k < F.length) : atF F (k + 1) = atF F k + (F.getD k []).length := by
  unfold atF
  rw [take_succ_getD F k [] hk, List.flatten_append, List.length_append]
  simp
theorem cfl_drop {s : List UInt8} {F : List (List UInt8)} (h : Cfl s F) (k : Nat) : s.drop (atF F k) = (F.drop k).flatten := by
  have : s = (F.take k).flatten ++ (F.drop k).flatten := by rw [← List.flatten_append, List.take_append_drop, h.flat]
  conv => lhs; rw [this]
  exact List.drop_left
theorem cfl_at_lt {s : List UInt8} {F : List (List UInt8)} (h : Cfl s F) {k : Nat} (hk : k < F.length) : atF F k < s.length := by
  have h1 : s.drop (atF F k) ≠ [] := by
    rw [cfl_drop h, drop_getD F k [] hk, List.flatten_cons]
    have := (h.lyn (F.getD k []) (by rw [getD_some _ _ _ hk]; exact List.getElem_mem _)).1
    exact List.append_ne_nil_of_left_ne_nil this _
  have := List.length_pos_iff.2 h1
  rw [List.length_drop] at this; omega
theorem cfl_at_end {s : List UInt8} {F : List (List UInt8)} (h : Cfl s F) : atF F F.length = s.length := by
  unfold atF; rw [List.take_length, h.flat]
/-- The next factor's end is less. -/
theorem cfl_next {s : List UInt8} {F : List (List UInt8)} (h : Cfl s F) {k : Nat} (hk : k + 1 < F.length) : ltS s (atF F (k + 1)) (atF F k) := by
  unfold ltS
  rw [cfl_drop h, cfl_drop h, drop_getD F k [] (by omega), List.flatten_cons]
  have hm : F.getD k [] ∈ F := by rw [getD_some _ _ _ (by omega)]; exact List.getElem_mem _
  refine flat_lt (h.lyn _ hm) fun f hf => ⟨h.lyn f (List.mem_of_mem_drop hf), ?_⟩
  have hp := h.fall.sublist (List.drop_sublist k F)
  rw [drop_getD F k [] (by omega), List.pairwise_cons] at hp
  exact hp.1 f hf
/-- The last factor is the least end. -/
theorem cfl_last {s : List UInt8} {F : List (List UInt8)} (h : Cfl s F) (h0 : 0 < F.length) {j : Nat} (hj : j < s.length) : lle (s.drop (atF F (F.length - 1))) (s.drop j) := by
  obtain ⟨G, f, rfl⟩ : ∃ G f, F = G ++ [f] := by
    rcases List.eq_nil_or_concat F with rfl | ⟨G, f, rfl⟩
    · simp at h0
    · exact ⟨G, f, by simp⟩
  have e : (G ++ [f]).length - 1 = G.length := by simp
  rw [cfl_drop h, e, List.drop_left]
  have := last_least G f (s.take j) (s.drop j) h.lyn h.fall (by rw [h.flat, List.take_append_drop]) (fun e => by have := congrArg List.length e; rw [List.length_drop, List.length_nil] at this; omega)
  simpa using this
/-- The rank of the last factor is 0. -/
theorem cfl_rank {s : List UInt8} {F : List (List UInt8)} {o : List Nat} (h : Cfl s F) (ho : IsSOrd s o) (h0 : 0 < F.length) {r : Nat} (hr : r < s.length) (e : o.getD r 0 = atF F (F.length - 1)) : r = 0 := by
  rcases Nat.eq_zero_or_pos r with h1 | h1
  · exact h1
  · have h2 := ho.at_ h1 hr
    rw [e] at h2
    have h3 := cfl_last h h0 (ho.at_lt (show 0 < s.length by omega))
    unfold ltS at h2
    unfold lle at h3
    rw [h3] at h2; cases h2
/-- Ranks fall. -/
theorem cfl_fall {s : List UInt8} {F : List (List UInt8)} {o : List Nat} (h : Cfl s F) (ho : IsSOrd s o) {k r r' : Nat} (hk : k + 1 < F.length) (hr : r < s.length) (hr' : r' < s.length) (e : o.getD r 0 = atF F k) (e' : o.getD r' 0 = atF F (k + 1)) : r' < r :=
  ho.back hr' hr (by rw [e, e']; exact cfl_next h hk)
end Go.Proofs.Ytpaodbkdmiedfaa
