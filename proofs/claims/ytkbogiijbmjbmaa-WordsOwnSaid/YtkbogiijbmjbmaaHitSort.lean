/- slices.SortFunc of hits, in a row of one's own. -/
import Derived.Test.YtkbogiijbmjbmaaLaidHitSort
import Derived.Test.YtkbogiijbmjbmaaSortK
import Derived.Test.YtkbogiijbmjbmaaBfsP
import Derived.IntWalk
namespace Go.Proofs.Ytkbogiijbmjbmaa
open Go.RowKit Go.Sort Go.Shelf Go.Lib
set_option linter.unusedVariables false

/-- A hit, its numbers bounded. -/
abbrev HT := { p : Nat × Nat // p.1 ≤ 1000000 ∧ p.2 ≤ 1000000 }
instance : Inhabited HT := ⟨⟨(0, 0), by decide⟩⟩
def cHt (p : Nat × Nat) : List Value := [.int .i64 (p.1 : Int), .int .i64 (p.2 : Int)]
theorem cHt_len (p : Nat × Nat) : (cHt p).length = 2 := rfl
def cHT (p : HT) : List Value := cHt p.1
theorem cHT_len (p : HT) : (cHT p).length = 2 := rfl
def cfHT (x y : HT) : Int := if x.1.1 ≠ y.1.1 then (x.1.1 : Int) - (y.1.1 : Int) else (x.1.2 : Int) - (y.1.2 : Int)
theorem cfHT_lt (x y : HT) : ltOf cfHT x y = true ↔ ltH x.1 y.1 := by
  unfold ltOf cfHT ltH
  rw [decide_eq_true_iff]
  split <;> omega

set_option maxHeartbeats 1000000 in
theorem hitCmp (x y : HT) (W : World) : Calls Try.prog 32 #[.agg #[.int .i64 (x.1.1 : Int), .int .i64 (x.1.2 : Int)], .agg #[.int .i64 (y.1.1 : Int), .int .i64 (y.1.2 : Int)]] W fun e w' => e = .returned (.int .i64 (cfHT x y)) ∧ ∃ q os', w' = grow (W.drewN q) os' := by
  obtain ⟨⟨a, i⟩, ha1, ha2⟩ := x
  obtain ⟨⟨b, k⟩, hb1, hb2⟩ := y
  unfold cfHT
  simp only at *
  have e1 : wrap64 ((a : Int) - b) = (a : Int) - b := IntWalk.wrap64_in _ (by omega)
  have e2 : IntKind.i64.wrap ((a : Int) - b) = (a : Int) - b := by rw [IntKind.wrap_i64]; omega
  have e3 : wrap64 ((i : Int) - k) = (i : Int) - k := IntWalk.wrap64_in _ (by omega)
  have e4 : IntKind.i64.wrap ((i : Int) - k) = (i : Int) - k := by rw [IntKind.wrap_i64]; omega
  by_cases hab : a = b
  · have q1 : ((a : Int) != (b : Int)) = false := by simp [hab]
    have hn : ¬ (a ≠ b) := fun h => h hab
    rw [if_neg hn]
    clear hn e1 e2
    subst hab
    go_enter Try.func32, Try.ntmps32
    go_wp2
    go_ret
    exact ⟨by first | rfl | simp [e3], 0, _, by rw [alloc_eq_grow, alloc_eq_grow, grow_grow]; rfl⟩
  · have q1 : ((a : Int) != (b : Int)) = true := by rw [bne_iff_ne]; omega
    rw [if_pos hab]
    go_enter Try.func32, Try.ntmps32
    go_wp2
    go_ret
    exact ⟨by first | rfl | simp [e1], 0, _, by rw [alloc_eq_grow, alloc_eq_grow, grow_grow]; rfl⟩
theorem hitLays (blk off size : Nat) (w : World) : CmpLays Try.prog 32 #[] cHT 2 cfHT blk off size w := fun _ _ _ _ x y => hitCmp x y _
theorem hitSwo : SWO (ltOf cfHT) := by
  have e : ∀ x y, ltOf cfHT x y = false ↔ ¬ ltH x.1 y.1 := fun x y => by rw [← cfHT_lt]; simp
  refine ⟨fun x => ?_, fun x y z h1 h2 => ?_, fun x y z h1 h2 => ?_⟩
  · rw [e]; exact ltH_irrefl _
  · rw [cfHT_lt] at *; exact ltH_trans h1 h2
  · rw [e] at *
    unfold ltH at *
    omega
theorem hits_lift (H : List (Nat × Nat)) (h : ∀ x ∈ H, x.1 ≤ 1000000 ∧ x.2 ≤ 1000000) : ∃ d : List HT, d.map (·.1) = H := ⟨H.attach.map fun x => ⟨x.1, h x.1 x.2⟩, by rw [List.map_map]; exact List.attach_map_subtype_val H⟩
/-- Hits that lie in a row of one's own are sorted. -/
theorem hitSort_any (K : Nat → Prop) (A : Option Addr) (n c : Nat) (H : List (Nat × Nat)) (w : World) (hn : H.length = n) (hb : ∀ x ∈ H, x.1 ≤ 1000000 ∧ x.2 ≤ 1000000) (hB : OwnK 35 2 w K A n c (H.flatMap cHt)) (hsz : n ≤ 1000000) :
    Calls Try.prog 31 #[.slice A n c, .func (.func 32) #[] #[]] w fun e w' => e = .returned (.tuple #[]) ∧
      ∃ H' : List (Nat × Nat), H'.Perm H ∧ H'.Pairwise (fun x y => ¬ ltH y x) ∧ OwnK 35 2 w' K A n c (H'.flatMap cHt) ∧ w.grownBy w' (Value.slice A n c).ownBlock := by
  rcases Nat.eq_zero_or_pos n with h0 | h0
  · subst h0
    have hH : H = [] := List.eq_nil_of_length_eq_zero hn
    have h := AnyF.slices_SortFunc_none layHitSort A c (.func (.func 32) #[] #[]) w
    change Calls Try.prog 31 _ _ _ at h
    refine h.mono fun e w' ⟨he, hw⟩ => ⟨he, H, List.Perm.refl _, by rw [hH]; exact List.Pairwise.nil, by rw [hw]; exact hB, by rw [hw]; exact ⟨rfl, rfl, rfl, Nat.le_refl _, fun k hk _ => rfl⟩⟩
  obtain ⟨d, hd⟩ := hits_lift H hb
  obtain ⟨blk, o, rfl, hlt, _⟩ := hB.shape h0
  have hdl : d.toArray.size = n := by rw [← hn, ← hd]; simp
  have hfm : ∀ d : List HT, d.flatMap cHT = (d.map (·.1)).flatMap cHt := fun d => by rw [List.flatMap_map]; rfl
  have e : flatK cHT 2 d.toArray = (H.flatMap cHt).toArray := by
    apply Array.toList_inj.1
    rw [flatK_list cHT 2 cHT_len, hfm, hd]
  have hH : HoldsK cHT 2 w blk o d.toArray := by
    unfold HoldsK
    rw [e]
    exact hB.holds
  have eg : ∀ args w, (callFunc 32 args).run Try.prog w = .ok (.enter 32 args) w := enters_of Try.func32 (by kernel_rfl) rfl
  have h := AnyQ.slices_SortFunc layHitSort 2 Try.isAgg35 Try.sizeOf35 cHT cHT_len (fun x v hv => by simp [cHT, cHt] at hv; rcases hv with rfl | rfl <;> rfl) cfHT hitSwo 32 #[] blk o c d.toArray w eg (hitLays blk o _ w) hH hlt (by rw [hdl]; omega)
  change Calls Try.prog 31 _ _ _ at h
  rw [hdl] at h
  refine h.mono fun e w' ⟨he, d', m, os, ⟨hs, _, hp⟩, hsort, hw⟩ => ⟨he, d'.toList.map (·.1), ?_, ?_, ?_, ?_⟩
  · have e1 : ∀ x : Array HT, x.size = n → (x.extract 0 n).toList = x.toList := fun x hx => by rw [← hx, Array.extract_size]
    have h3 : d'.toList.Perm d := by
      have := hp
      rw [e1 _ (by rw [hs, hdl]), e1 _ hdl] at this
      simpa using this
    rw [← hd]
    exact h3.map _
  · rw [List.pairwise_map]
    refine List.pairwise_iff_getElem.2 fun i j hi hj hij => ?_
    have h3 := hsort i j (Nat.zero_le _) hij (by rw [← hdl, ← hs]; simpa using hj)
    rw [getElem!_pos d' j (by simpa using hj), getElem!_pos d' i (by simpa using hi)] at h3
    intro hlt
    have := (cfHT_lt _ _).2 hlt
    have h4 : ltOf cfHT d'[j] d'[i] = false := h3
    rw [show (d'.toList[j]) = d'[j] from Array.getElem_toList _, show (d'.toList[i]) = d'[i] from Array.getElem_toList _] at this
    rw [this] at h4; cases h4
  · have h2 := hB.sorted (F := flatK cHT 2 d') (by simp [hs, hdl]) m os
    rw [flatK_list cHT 2 cHT_len, hfm] at h2
    rw [hw]
    exact h2
  · rw [hw]; exact grownBy_put _
end Go.Proofs.Ytkbogiijbmjbmaa
