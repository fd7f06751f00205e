/- Plain: the length of an encoding is the cost for the symbol frequencies. -/
import Derived.Test.YtlnobikecmgocaaDoorTreeMake
import Derived.Test.YtlnobikecmgocaaDoorPackPut
namespace Go.Proofs.YtlnobikecmgocaaDoor
set_option linter.unusedVariables false

/-- How often a number stands in a text. -/
def cntT (t : List Int) (i : Nat) : Nat := t.countP fun x => x == (i : Int)
theorem cntT_snoc (t : List Int) (x i : Nat) : cntT (t ++ [(x : Int)]) i = cntT t i + if i = x then 1 else 0 := by
  unfold cntT
  rw [List.countP_append, List.countP_singleton]
  by_cases h : i = x
  · subst h; simp
  · rw [if_neg h, if_neg (by rw [beq_iff_eq]; omega)]
theorem cntT_le (t : List Int) (i : Nat) : cntT t i ≤ t.length := List.countP_le_length
/-- All frequencies. -/
def oftT (n : Nat) (t : List Int) : List Int := (List.range n).map fun i => ((cntT t i : Nat) : Int)
theorem oftT_len (n : Nat) (t : List Int) : (oftT n t).length = n := by simp [oftT]
theorem oftT_getD {n : Nat} {t : List Int} {i : Nat} (h : i < n) : (oftT n t).getD i 0 = ((cntT t i : Nat) : Int) := by
  unfold oftT
  rw [List.getD_eq_getElem?_getD, List.getElem?_map, List.getElem?_range h]; rfl
theorem oftT_snoc {n : Nat} {t : List Int} {x : Nat} (h : x < n) : oftT n (t ++ [(x : Int)]) = (oftT n t).set x (((cntT t x : Nat) : Int) + 1) := by
  refine ext_getD _ _ 0 (by rw [List.length_set, oftT_len, oftT_len]) fun j hj => ?_
  rw [oftT_len] at hj
  rw [getD_set _ _ _ _ (by rw [oftT_len]; exact h), oftT_getD hj, oftT_getD hj, cntT_snoc]
  by_cases e : j = x
  · subst e; rw [if_pos rfl, if_pos rfl]; omega
  · rw [if_neg e, if_neg e]; omega
theorem sumL_point (f : Nat → Nat) : ∀ {n x : Nat}, x < n → sumL (fun i => (if i = x then 1 else 0) * f i) (List.range n) = f x
  | 0, x, h => absurd h (Nat.not_lt_zero _)
  | n + 1, x, h => by
    rw [List.range_succ, sumL_app]
    by_cases e : x = n
    · subst e
      have h0 : sumL (fun i => (if i = x then 1 else 0) * f i) (List.range x) = 0 := by
        rw [sumL_congr (g := fun _ => 0 * 0) fun k hk => by
          have := List.mem_range.1 hk
          rw [if_neg (by omega), Nat.zero_mul]]
        rw [sumL_mul]; simp
      rw [h0]
      show 0 + ((if x = x then 1 else 0) * f x + 0) = f x
      rw [if_pos rfl]; omega
    · rw [sumL_point f (show x < n by omega)]
      show f x + ((if n = x then 1 else 0) * f n + 0) = f x
      rw [if_neg (by omega)]; omega
theorem join_cost {n : Nat} (L : List ByteArray) : ∀ {t : List Int}, textOk n t → (joinW L t).length = sumL (fun i => cntT t i * (L.getD i ByteArray.empty).size) (List.range n) := by
  intro t
  -- from the end
  induction hk : t.length generalizing t with
  | zero =>
    intro _
    obtain rfl := List.eq_nil_of_length_eq_zero hk
    rw [sumL_congr (g := fun _ => 0 * 0) fun k _ => by simp [cntT], sumL_mul]; simp [joinW]
  | succ m ih =>
    intro ht
    obtain ⟨u, x, rfl⟩ : ∃ u x, t = u ++ [x] := by
      rcases List.eq_nil_or_concat t with e | ⟨u, x, e⟩
      · rw [e] at hk; simp at hk
      · exact ⟨u, x, by rw [e, List.concat_eq_append]⟩
    have hu : textOk n u := fun k hk => ht k (by simp [hk])
    have hx := ht x (by simp)
    obtain ⟨y, rfl⟩ : ∃ y : Nat, x = y := ⟨x.toNat, by omega⟩
    rw [joinW_app, List.length_append, ih (by simpa using hk) hu]
    have e : sumL (fun i => cntT (u ++ [(y : Int)]) i * (L.getD i ByteArray.empty).size) (List.range n) = sumL (fun i => cntT u i * (L.getD i ByteArray.empty).size + (if i = y then 1 else 0) * (L.getD i ByteArray.empty).size) (List.range n) :=
      sumL_congr fun i _ => by rw [cntT_snoc, Nat.add_mul]
    rw [e, sumL_add, sumL_point (fun i => (L.getD i ByteArray.empty).size) (show y < n by omega)]
    congr 1
    show ((wd (L.getD ((y : Int)).toNat ByteArray.empty)) ++ []).length = _
    rw [List.append_nil, Int.toNat_natCast]; rfl
theorem nats_oft (n : Nat) (t : List Int) : nats (oftT n t) = (List.range n).map (cntT t) := by
  unfold nats oftT
  rw [List.map_map]
  exact List.map_congr_left fun i _ => by simp
/-- The law. -/
theorem pack_cost {n : Nat} {t : List Int} {M : List Wd} {o o' : List Nat} (ht : textOk n t) (h : LensOk (nats (oftT n t)) o) (h' : LensOk (nats (oftT n t)) o') (hM : M.map List.length = o') (hMl : M.length = n) : (joinW (M.map strW) t).length = costO (nats (oftT n t)) o := by
  have e1 : costO (nats (oftT n t)) o' = costO (nats (oftT n t)) o := by
    have e : (nats (oftT n t)).map (1 * ·) = nats (oftT n t) := by simp
    have := h.scale (Nat.le_refl 1) (m := o') (by rw [e]; exact h')
    rw [e, Nat.one_mul] at this
    exact this
  rw [← e1, join_cost (n := n) _ ht]
  unfold costO
  have hl : (nats (oftT n t)).length = n := by rw [nats_len, oftT_len]
  rw [hl]
  refine sumL_congr fun i hi => ?_
  have hi := List.mem_range.1 hi
  congr 1
  · rw [nats_oft, List.getD_eq_getElem?_getD, List.getElem?_map, List.getElem?_range hi]; rfl
  · rw [← hM, List.getD_eq_getElem?_getD, List.getD_eq_getElem?_getD, List.getElem?_map, List.getElem?_map, List.getElem?_eq_getElem (by rw [hMl]; exact hi)]; rfl
theorem oft_check {n : Nat} {t : List Int} (hn : n ≤ 12) (h : ∀ i, i < n → 1 ≤ cntT t i) (ht : t.length ≤ 200) : checkT (oftT n t) = 0 := by
  refine (checkT_zero _).2 ⟨by rw [oftT_len]; exact hn, fun x hx => ?_⟩
  obtain ⟨i, hi, rfl⟩ := List.mem_map.1 hx
  have h1 := h i (List.mem_range.1 hi)
  have h2 := cntT_le t i
  omega
/-- Each number once. -/
def idI (n : Nat) : List Int := (List.range n).map fun i : Nat => (i : Int)
theorem idI_succ (n : Nat) : idI (n + 1) = idI n ++ [(n : Int)] := by unfold idI; rw [List.range_succ, List.map_append]; rfl
theorem idI_len (n : Nat) : (idI n).length = n := by simp [idI]
theorem idI_ok (n : Nat) : textOk n (idI n) := fun k hk => by
  obtain ⟨x, hx, rfl⟩ := List.mem_map.1 hk
  have := List.mem_range.1 hx
  omega
theorem cnt_id : ∀ (n i : Nat), cntT (idI n) i = if i < n then 1 else 0
  | 0, i => by simp [cntT, idI]
  | n + 1, i => by
    rw [idI_succ, cntT_snoc, cnt_id n i]
    by_cases h : i < n
    · rw [if_pos h, if_neg (by omega), if_pos (by omega)]
    · rw [if_neg h]
      by_cases e : i = n
      · rw [if_pos e, if_pos (by omega)]
      · rw [if_neg e, if_neg (by omega)]
theorem oft_id (n : Nat) : oftT n (idI n) = List.replicate n 1 := by
  unfold oftT
  refine List.ext_getElem (by simp) fun j h1 h2 => ?_
  have hj : j < n := by simpa using h2
  simp [cnt_id, hj]
theorem cnt_more (a b : List Int) (i : Nat) : cntT (a ++ b) i = cntT a i + cntT b i := by unfold cntT; rw [List.countP_append]
end Go.Proofs.YtlnobikecmgocaaDoor
