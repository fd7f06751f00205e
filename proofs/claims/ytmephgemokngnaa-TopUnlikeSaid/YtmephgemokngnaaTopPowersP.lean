/- Plain: a power's transform, and its least turn's Lyndon factors. -/
import Derived.Test.YtmephgemokngnaaTurnP
import Derived.Test.YtmephgemokngnaaTurnsP
import Derived.Test.YtmephgemokngnaaWordRootP
namespace Go.Proofs.Ytmephgemokngnaa
set_option linter.unusedVariables false

def powL (r : List UInt8) (k : Nat) : List UInt8 := (List.replicate k r).flatten
theorem powL_succ (r : List UInt8) (k : Nat) : powL r (k + 1) = r ++ powL r k := by unfold powL; rw [List.replicate_succ, List.flatten_cons]
theorem powL_len (r : List UInt8) (k : Nat) : (powL r k).length = k * r.length := flat_rep_len r k
theorem powL_add (r : List UInt8) (m k : Nat) : powL r (m + k) = powL r m ++ powL r k := flatten_replicate_add r m k
theorem powL_snoc (r : List UInt8) (k : Nat) : powL r (k + 1) = powL r k ++ r := by rw [powL_add]; congr 1; unfold powL; simp
/-- Turned by a part of it. -/
theorem powL_swap (a b : List UInt8) : ∀ k, powL (a ++ b) (k + 1) = a ++ (powL (b ++ a) k ++ b)
  | 0 => by unfold powL; simp
  | k + 1 => by
    rw [powL_succ, powL_swap a b k, powL_succ]
    simp only [List.append_assoc]
theorem rot_pow {r : List UInt8} {k i q : Nat} (hi : i < r.length) (hq : q < k) : rotL (powL r k) (q * r.length + i) = powL (rotL r i) k := by
  obtain ⟨m, rfl⟩ : ∃ m, k = q + (m + 1) := ⟨k - q - 1, by omega⟩
  have e1 : powL r (q + (m + 1)) = powL r q ++ (r ++ powL r m) := by rw [powL_add, powL_succ]
  have hd : (powL r (q + (m + 1))).drop (q * r.length + i) = r.drop i ++ powL r m := by
    rw [e1, ← powL_len r q, ← List.drop_drop, List.drop_left, List.drop_append_of_le_length (by omega)]
  have ht : (powL r (q + (m + 1))).take (q * r.length + i) = powL r q ++ r.take i := by
    rw [e1, ← powL_len r q, List.take_length_add_append, List.take_append_of_le_length (by omega)]
  unfold rotL
  rw [hd, ht]
  obtain ⟨a, ha⟩ : ∃ a, a = r.take i := ⟨_, rfl⟩
  obtain ⟨b, hb⟩ : ∃ b, b = r.drop i := ⟨_, rfl⟩
  have hr : r = a ++ b := by rw [ha, hb, List.take_append_drop]
  rw [← ha, ← hb]
  have e2 : powL (b ++ a) (q + (m + 1)) = b ++ (powL (a ++ b) (q + m) ++ a) := powL_swap b a (q + m)
  rw [e2, ← hr, Nat.add_comm q m, powL_add]
  simp only [List.append_assoc]
theorem powL_lt {a b : List UInt8} (hl : a.length = b.length) (h : llt a b = true) {k : Nat} (hk : 0 < k) : llt (powL a k) (powL b k) = true := by
  obtain ⟨m, rfl⟩ : ∃ m, k = m + 1 := ⟨k - 1, by omega⟩
  rw [powL_succ, powL_succ]
  rcases llt_dif h with hd | ⟨c, hc, e⟩
  · exact (hd.app _ _).lt
  · have := congrArg List.length e
    have h2 := List.length_pos_iff.2 hc
    rw [List.length_append] at this
    omega
/-- All turns differ. -/
def Prim (r : List UInt8) : Prop := ∀ i k, i < r.length → k < r.length → rotL r i = rotL r k → i = k
/-- The order of a power's turns. -/
def powO (p k : Nat) (o : List Nat) : List Nat := o.flatMap fun i => (List.range k).map fun q => q * p + i
theorem powO_ord {r : List UInt8} {o : List Nat} {k : Nat} (hk : 0 < k) (hp : Prim r) (h : IsOrd r o) : IsOrd (powL r k) (powO r.length k o) := by
  have hlt := fun i hi => h.lt (i := i) hi
  have hn : o.Nodup := h.perm.nodup_iff.2 List.nodup_range
  have hmem : ∀ x, x ∈ powO r.length k o ↔ x < k * r.length := fun x => by
    unfold powO
    rw [List.mem_flatMap]
    constructor
    · rintro ⟨i, hi, hx⟩
      obtain ⟨q, hq, rfl⟩ := List.mem_map.1 hx
      rw [List.mem_range] at hq
      have := hlt i hi
      have h2 : (q + 1) * r.length ≤ k * r.length := Nat.mul_le_mul_right _ hq
      rw [Nat.succ_mul] at h2
      omega
    · intro hx
      have hr : 0 < r.length := Nat.pos_of_ne_zero fun e => by rw [e] at hx; omega
      refine ⟨x % r.length, h.perm.mem_iff.2 (List.mem_range.2 (Nat.mod_lt _ hr)), List.mem_map.2 ⟨x / r.length, List.mem_range.2 (Nat.div_lt_of_lt_mul (by rw [Nat.mul_comm]; exact hx)), ?_⟩⟩
      rw [Nat.mul_comm]; exact Nat.div_add_mod x r.length
  have hsort : (powO r.length k o).Pairwise (ltR (powL r k)) := by
    unfold powO
    rw [List.pairwise_flatMap]
    refine ⟨fun i hi => ?_, ?_⟩
    · rw [List.pairwise_map]
      refine List.Pairwise.imp_of_mem (fun {a b} ha hb hab => ?_) (List.pairwise_lt_range (n := k))
      rw [List.mem_range] at ha hb
      refine .inr ⟨by rw [rot_pow (hlt i hi) ha, rot_pow (hlt i hi) hb], ?_⟩
      have := Nat.mul_lt_mul_of_pos_right hab (show 0 < r.length by have := hlt i hi; omega)
      omega
    · refine List.Pairwise.imp_of_mem (fun {a b} ha hb hab => ?_) (List.Pairwise.and h.sorted hn)
      intro x hx y hy
      obtain ⟨q, hq, rfl⟩ := List.mem_map.1 hx
      obtain ⟨q', hq', rfl⟩ := List.mem_map.1 hy
      rw [List.mem_range] at hq hq'
      left
      rw [rot_pow (hlt a ha) hq, rot_pow (hlt b hb) hq']
      rcases hab.1 with h1 | ⟨h1, _⟩
      · exact powL_lt (by rw [rotL_len, rotL_len]) h1 hk
      · exact absurd (hp a b (hlt a ha) (hlt b hb) h1) hab.2
  refine ⟨?_, hsort⟩
  have hnd : (powO r.length k o).Nodup := by
    rw [List.nodup_iff_pairwise_ne]
    refine hsort.imp fun {a b} hab e => ?_
    subst e
    exact ltR_irrefl _ _ hab
  rw [powL_len]
  exact (List.perm_ext_iff_of_nodup hnd List.nodup_range).2 fun x => by rw [hmem, List.mem_range]
theorem last_app (a b : List UInt8) (hb : 0 < b.length) : (a ++ b).getD ((a ++ b).length - 1) 0 = b.getD (b.length - 1) 0 := by
  rw [List.length_append, show a.length + b.length - 1 = a.length + (b.length - 1) by omega, getD_app_r]
theorem powL_last {r : List UInt8} {k : Nat} (hr : 0 < r.length) (hk : 0 < k) : (powL r k).getD ((powL r k).length - 1) 0 = r.getD (r.length - 1) 0 := by
  obtain ⟨m, rfl⟩ : ∃ m, k = m + 1 := ⟨k - 1, by omega⟩
  rw [powL_snoc]
  exact last_app _ _ hr
/-- The last bytes of a power: each so often. -/
theorem pow_last {r : List UInt8} {o o' : List Nat} {k : Nat} (hk : 0 < k) (hp : Prim r) (h : IsOrd r o) (h' : IsOrd (powL r k) o') : lastB (powL r k) o' = (lastB r o).flatMap fun b => List.replicate k b := by
  obtain rfl := h'.unique (powO_ord hk hp h)
  unfold lastB powO
  rw [List.map_flatMap, List.flatMap_map]
  have key : ∀ i ∈ o, ((List.range k).map fun q => q * r.length + i).map (prevB (powL r k)) = List.replicate k (prevB r i) := fun i hi => by
    have hir := h.lt hi
    rw [List.map_map]
    refine List.eq_replicate_iff.2 ⟨by simp, fun b hb => ?_⟩
    obtain ⟨q, hq, rfl⟩ := List.mem_map.1 hb
    rw [List.mem_range] at hq
    show prevB (powL r k) (q * r.length + i) = prevB r i
    have hle : (q + 1) * r.length ≤ k * r.length := Nat.mul_le_mul_right _ hq
    rw [Nat.succ_mul] at hle
    rw [prevB_last (by rw [powL_len]; omega), rot_pow hir hq, prevB_last hir]
    have e : (powL r k).length = (powL (rotL r i) k).length := by rw [powL_len, powL_len, rotL_len]
    rw [e, powL_last (by rw [rotL_len]; omega) hk, rotL_len]
  have : ∀ l : List Nat, (∀ i ∈ l, i ∈ o) → l.flatMap (fun i => ((List.range k).map fun q => q * r.length + i).map (prevB (powL r k))) = l.flatMap fun i => List.replicate k (prevB r i) := fun l => by
    induction l with
    | nil => intro _; rfl
    | cons i l ih =>
      intro hl
      rw [List.flatMap_cons, List.flatMap_cons, key i (hl i (by simp)), ih fun j hj => hl j (by simp [hj])]
  exact this o fun _ h => h
theorem prim_of {r : List UInt8} (h1 : expOf r = 1) : Prim r := by
  have key : ∀ i k, i < k → k < r.length → rotL r i ≠ rotL r k := fun i k hik hk e => by
    have hr : 0 < r.length := by omega
    obtain ⟨t, ht⟩ : ∃ t, t = rotL r i := ⟨_, rfl⟩
    have htl : t.length = r.length := by rw [ht, rotL_len]
    have het : expOf t = 1 := by rw [ht, ← h1]; exact (root_turn r i (by omega)).2
    have hd : rotL t (k - i) = t := by
      rw [ht, rotL_rotL (by omega) (by omega), show (k - i + i) % r.length = k from by rw [Nat.sub_add_cancel (by omega)]; exact Nat.mod_eq_of_lt hk]
      exact e.symm
    obtain ⟨a, ha⟩ : ∃ a, a = t.take (k - i) := ⟨_, rfl⟩
    obtain ⟨b, hb⟩ : ∃ b, b = t.drop (k - i) := ⟨_, rfl⟩
    have hal : 0 < a.length := by rw [ha, List.length_take]; omega
    have hbl : 0 < b.length := by rw [hb, List.length_drop]; omega
    have hab : t = a ++ b := by rw [ha, hb, List.take_append_drop]
    have hba : t = b ++ a := by rw [ha, hb]; exact hd.symm
    have hro := (commute_iff a b hal hbl).1 (hab.symm.trans hba)
    obtain ⟨a1, a2, _⟩ := root_rep hal
    obtain ⟨b1, b2, _⟩ := root_rep hbl
    obtain ⟨_, c2, c3, _⟩ := root_root hal
    have hpow : t = (List.replicate (expOf a + expOf b) (rootOf a)).flatten := by
      rw [flatten_replicate_add, ← a1, hro, ← b1]; exact hab
    have := (root_power c3 (show 0 < expOf a + expOf b by omega)).2
    rw [← hpow, c2, het] at this
    omega
  intro i k hi hk e
  rcases Nat.lt_trichotomy i k with h | h | h
  · exact absurd e (key i k h hk)
  · exact h
  · exact absurd e.symm (key k i h hi)
/-- A least turn falls into so often its root. -/
theorem least_falls {t : List UInt8} (ht : 0 < t.length) (hmin : ∀ k, k ≤ t.length → lle t (rot k t)) : Cfl t (List.replicate (expOf t) (rootOf t)) := by
  obtain ⟨h1, h2, _⟩ := root_rep ht
  obtain ⟨_, c2, c3, c4⟩ := root_root ht
  have hlyn : Lyn (rootOf t) := (least_lyn c3 fun k hk => by
    rcases Nat.lt_or_ge k (rootOf t).length with hlt | hge
    · have hm := hmin k (by omega)
      have hrk : rot k t = powL (rotL (rootOf t) k) (expOf t) := by
        have := rot_pow (r := rootOf t) (k := expOf t) (i := k) (q := 0) hlt h2
        rw [Nat.zero_mul, Nat.zero_add] at this
        have e : powL (rootOf t) (expOf t) = t := h1.symm
        rw [e] at this
        exact this
      rw [hrk] at hm
      unfold lle
      rw [Bool.eq_false_iff]
      intro hl
      have := powL_lt (show (rotL (rootOf t) k).length = (rootOf t).length from rotL_len _ _) hl h2
      have e : powL (rootOf t) (expOf t) = t := h1.symm
      rw [e] at this
      unfold lle at hm
      rw [hm] at this; cases this
    · have : k = (rootOf t).length := by omega
      rw [this, rot_full]
      exact lle_refl _).2 c2
  refine ⟨h1.symm, fun f hf => ?_, ?_⟩
  · rw [(List.mem_replicate.1 hf).2]; exact hlyn
  · exact List.pairwise_replicate.2 (.inr (lle_refl _))
end Go.Proofs.Ytmephgemokngnaa
