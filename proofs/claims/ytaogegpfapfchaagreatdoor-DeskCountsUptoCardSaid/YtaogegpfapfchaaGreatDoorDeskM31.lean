import Derived.Test.YtaogegpfapfchaaGreatDoorDeskM30
/- Several texts in one: XHousePut XHouseCrash XHouseDrop XHouseDo1 XHouseDo2 XHouseDo3 XHouseDo4 XHouseDo5. -/
/- What a page's operation makes of its house. -/
namespace Go.Proofs.YtaogegpfapfchaaGreatDoor
open Go.RowKit
set_option linter.unusedVariables false

theorem flat_pair {α : Type} (f : α → List Nat) : ∀ (Q : List α), (Q.flatMap f).Nodup → ∀ i k (hi : i < Q.length) (hk : k < Q.length), i < k → ∀ a ∈ f Q[i], ∀ b ∈ f Q[k], a ≠ b
  | [], _, i, k, hi, _, _ => absurd hi (Nat.not_lt_zero _)
  | x :: Q, h, 0, k + 1, _, hk, _ => fun a ha b hb => by
    rw [List.flatMap_cons, List.nodup_append] at h
    exact h.2.2 a ha b (List.mem_flatMap.2 ⟨Q[k]'(by simpa using hk), List.getElem_mem _, hb⟩)
  | x :: Q, h, i + 1, k + 1, hi, hk, hik => fun a ha b hb => by
    rw [List.flatMap_cons, List.nodup_append] at h
    exact flat_pair f Q h.2.1 i k (by simpa using hi) (by simpa using hk) (by omega) a ha b hb
theorem ids_pair {gh : Nat} {Q : List (Pl × Pg)} (h : (idsH gh Q).Nodup) {i k : Nat} (hi : i < Q.length) (hk : k < Q.length) (hik : i ≠ k) : ¬ ofPl Q[k].1 Q[i].1.ge ∧ ¬ ofPl Q[k].1 Q[i].1.gl := by
  have h2 := (List.nodup_cons.1 h).2
  have key : ∀ a ∈ [Q[i].1.ge, Q[i].1.gl], ∀ b ∈ [Q[k].1.ge, Q[k].1.gl], a ≠ b := by
    rcases Nat.lt_or_gt_of_ne hik with h | h
    · exact flat_pair (fun y : Pl × Pg => [y.1.ge, y.1.gl]) Q h2 i k hi hk h
    · exact fun a ha b hb e => flat_pair (fun y : Pl × Pg => [y.1.ge, y.1.gl]) Q h2 k i hk hi h b hb a ha e.symm
  refine ⟨fun e => ?_, fun e => ?_⟩
  · rcases e with e | e
    · exact key _ (by simp) _ (by simp) e
    · exact key _ (by simp) _ (by simp) e
  · rcases e with e | e
    · exact key _ (by simp) _ (by simp) e
    · exact key _ (by simp) _ (by simp) e
/-- The cells of the k-th page in the row. -/
theorem row_page {own : Nat → Nat} {w : World} {gh : Nat} {Q : List (Pl × Pg)} {g o n c k : Nat} (hpg : ∀ y ∈ Q, PageAt own w y.1 y.2) (hids : (idsH gh Q).Nodup) (hrow : OwnK 66 3 w (fun k => k < w.heap.size ∧ own k ≠ gh) (some ⟨g, o, none⟩) n c (Q.flatMap cPage)) (hQ : Q.length = n) (hk : k < n) :
    own g = gh ∧ g < w.heap.size ∧ RowAt own w g (o + k * 3) (Q[k]'(by omega)).1 (Q[k]'(by omega)).2.name := by
  have hlt := hrow.lt g rfl
  have hog : own g = gh := by
    by_cases e : own g = gh
    · exact e
    · exact absurd ⟨hlt.2, e⟩ hlt.1
  have hn := ids_ne hids (List.getElem_mem (l := Q) (n := k) (by omega))
  have hc := fun j (hj : j < 3) => hrow.cell (k * 3 + j) (by omega)
  have hx : ∀ j, j < 3 → (Q.flatMap cPage)[k * 3 + j]? = (cPage (Q[k]'(by omega)))[j]? := fun j hj => by
    have hl : (Q.flatMap cPage).length = n * 3 := by rw [flat_length cPage 3 cPage_len, hQ]
    have := flat_getD cPage 3 cPage_len y0 Q k j (by omega) hj
    rw [List.getD_eq_getElem?_getD, List.getElem?_eq_getElem (by rw [hl]; omega), getD_some _ _ _ (show k < Q.length by omega), List.getD_eq_getElem?_getD, List.getElem?_eq_getElem (by exact hj)] at this
    rw [List.getElem?_eq_getElem (by rw [hl]; omega), List.getElem?_eq_getElem (by exact hj)]
    exact congrArg some this
  have e0 := (hc 0 (by omega)).1
  have e1 := (hc 1 (by omega)).1
  have e2 := (hc 2 (by omega)).1
  have f1 := (hc 1 (by omega)).2
  rw [hx 0 (by omega)] at e0
  rw [hx 1 (by omega)] at e1
  rw [hx 2 (by omega)] at e2
  rw [← Nat.add_assoc] at e0 e1 e2 f1
  exact ⟨hog, hlt.2, hlt.2, e0, e1, e2, f1, by rw [hog]; exact fun e => hn.1 e.symm, by rw [hog]; exact fun e => hn.2 e.symm⟩
theorem nodup_set : ∀ (L : List Nat) (i a : Nat), L.Nodup → a ∉ L → (L.set i a).Nodup
  | [], _, _, h, _ => by simp
  | x :: L, 0, a, h, ha => by
    rw [List.set_cons_zero]
    exact List.nodup_cons.2 ⟨fun h2 => ha (List.mem_cons_of_mem _ h2), (List.nodup_cons.1 h).2⟩
  | x :: L, i + 1, a, h, ha => by
    rw [List.set_cons_succ]
    refine List.nodup_cons.2 ⟨fun h2 => ?_, nodup_set L i a (List.nodup_cons.1 h).2 fun h2 => ha (List.mem_cons_of_mem _ h2)⟩
    rcases List.mem_or_eq_of_mem_set h2 with h3 | h3
    · exact (List.nodup_cons.1 h).1 h3
    · exact ha (by rw [h3]; exact List.mem_cons_self ..)
theorem ids_set : ∀ (Q : List (Pl × Pg)) (k : Nat) (hk : k < Q.length) (y : Pl × Pg), y.1.gl = Q[k].1.gl → (Q.set k y).flatMap (fun y => [y.1.ge, y.1.gl]) = (Q.flatMap fun y => [y.1.ge, y.1.gl]).set (k * 2) y.1.ge
  | x :: Q, 0, _, y, h => by
    have h' : y.1.gl = x.1.gl := h
    simp [h']
  | x :: Q, k + 1, hk, y, h => by
    rw [List.set_cons_succ, List.flatMap_cons, List.flatMap_cons, ids_set Q k (by simpa using hk) y h, List.set_append_right _ _ (by simp; omega)]
    congr 2
    simp
    omega
theorem flat_same {α β : Type} (f : α → List β) : ∀ (Q : List α) (k : Nat) (hk : k < Q.length) (y : α), f y = f Q[k] → (Q.set k y).flatMap f = Q.flatMap f
  | x :: Q, 0, _, y, h => by
    have h' : f y = f x := h
    simp [h']
  | x :: Q, k + 1, hk, y, h => by
    rw [List.set_cons_succ, List.flatMap_cons, List.flatMap_cons, flat_same f Q k (by simpa using hk) y h]
theorem house_put {own : Nat → Nat} {w w' : World} {gh : Nat} {Q : List (Pl × Pg)} {g o n c k : Nat} (hB : Blk w gh 42 #[.slice (some ⟨g, o, none⟩) n c]) (hrow : OwnK 66 3 w (fun k => k < w.heap.size ∧ own k ≠ gh) (some ⟨g, o, none⟩) n c (Q.flatMap cPage)) (hQ : Q.length = n)
    (how : own gh = gh) (hpg : ∀ y ∈ Q, PageAt own w y.1 y.2) (hids : (idsH gh Q).Nodup) (hlt : ∀ i ∈ idsH gh Q, i < w.heap.size) (hk : k < Q.length) {p' : Pg} (hname : p'.name = Q[k].2.name) (h : PageTo own w g (o + k * 3) Q[k].1 p' w') : HouseTo own w gh Q ((Q.map (·.2)).set k p') w' := by
  obtain ⟨hog, hgl, hra⟩ := row_page (k := k) hpg hids hrow hQ (by omega)
  obtain ⟨own', x', w1, hp, hg, hxl, hcase⟩ := h
  have hne := ids_ne hids (List.getElem_mem (l := Q) (n := k) hk)
  have hgh : ¬ ofPl Q[k].1 gh := fun e => by rcases e with e | e; exact hne.1 e.symm; exact hne.2 e.symm
  have hbk : ∀ b, b < w.heap.size → own b = gh → w1.heap[b]? = w.heap[b]? := fun b hb e => hg.block b hb (by rw [e]; exact hgh)
  have hgg : g ≠ gh := fun e => hrow.ne_blk hB (by decide) (by rw [← e]; rfl)
  have hB1 : Blk w1 gh 42 #[.slice (some ⟨g, o, none⟩) n c] := by unfold Blk; rw [hbk gh hB.lt how]; exact hB
  have hown1 : ∀ b, b < w.heap.size → own b = gh → own' b = gh := fun b hb e => (hg.same b hb).trans e
  have hrow1 : OwnK 66 3 w1 (fun k => k < w1.heap.size ∧ own' k ≠ gh) (some ⟨g, o, none⟩) n c (Q.flatMap cPage) := by
    refine (hrow.keep fun b hb hq hl => ?_).weak fun b hq => ?_
    · injection hq with hq; subst hq; exact hbk g hgl hog
    · injection hq with hq; subst hq; exact fun hh => hh.2 (hown1 g hgl hog)
  have hmem : ∀ y ∈ Q.set k (x', p'), y = (x', p') ∨ ∃ i, ∃ (hi : i < Q.length), i ≠ k ∧ y = Q[i] := fun y hy => by
    obtain ⟨i, hi, rfl⟩ := List.mem_iff_getElem.1 hy
    have hi' : i < Q.length := by simpa using hi
    by_cases e : i = k
    · subst e; exact .inl (by rw [List.getElem_set_self])
    · exact .inr ⟨i, hi', e, by rw [List.getElem_set_ne (fun h => e h.symm)]⟩
  have hmap : (Q.set k (x', p')).map (·.2) = (Q.map (·.2)).set k p' := by rw [List.map_set]
  have hwide : Goes own own' (fun k => k ∈ idsH gh Q) w w1 := hg.wide fun i hi => List.mem_cons_of_mem _ (List.mem_flatMap.2 ⟨Q[k], List.getElem_mem _, by rcases hi with rfl | rfl <;> simp⟩)
  have hset := ids_set Q k hk (x', p') hxl
  have hnb : (Value.slice (some ⟨g, o, none⟩) n c).ownBlock ≠ some gh := fun e => hgg (by injection e)
  have hog1 : own' gh = gh := hown1 gh hB.lt how
  rcases hcase with ⟨rfl, hge⟩ | ⟨rfl, hge⟩
  · have hfl : (Q.set k (x', p')).flatMap cPage = Q.flatMap cPage := flat_same cPage Q k hk _ (by simp [cPage, hname, hge, hxl])
    have hid : idsH gh (Q.set k (x', p')) = idsH gh Q := by unfold idsH; rw [flat_same (fun y : Pl × Pg => [y.1.ge, y.1.gl]) Q k hk _ (by simp [hge, hxl])]
    refine ⟨own', Q.set k (x', p'), ⟨⟨some ⟨g, o, none⟩, n, c, hB1, by rw [hfl]; exact hrow1, by rw [List.length_set]; exact hQ, hnb⟩, hog1, fun y hy => ?_, by rw [hid]; exact hids⟩, hmap, hwide, fun i hi => .inl (by rw [← hid]; exact hi)⟩
    rcases hmem y hy with rfl | ⟨i, hi, hik, rfl⟩
    · exact hp
    · exact (hpg _ (List.getElem_mem _)).apart hg (ids_pair hids hi hk hik).1 (ids_pair hids hi hk hik).2
  · have hfl := flat_set cPage 3 cPage_len Q k 1 Q[k] (x', p') (.pointer (some ⟨x'.ge, 0, none⟩)) (List.getElem?_eq_getElem hk) (by omega) (by simp [cPage, hname, hxl])
    have hog' : own' g = gh := hown1 g hgl hog
    have hs := Goes.set_ (own := own') (w := w1) ⟨g, o + k * 3 + 1, none⟩ (.pointer (some ⟨x'.ge, 0, none⟩))
    have hst := hrow1.store (k * 3 + 1) (by omega) (.pointer (some ⟨x'.ge, 0, none⟩))
    rw [← hfl, ← Nat.add_assoc] at hst
    have hfresh : x'.ge ∉ idsH gh Q := fun h => by have := hlt _ h; omega
    have hid : idsH gh (Q.set k (x', p')) = gh :: (Q.flatMap fun y => [y.1.ge, y.1.gl]).set (k * 2) x'.ge := by unfold idsH; rw [hset]
    have hin : ∀ i ∈ idsH gh (Q.set k (x', p')), i ∈ idsH gh Q ∨ w.heap.size ≤ i := fun i hi => by
      rw [hid] at hi
      rcases List.mem_cons.1 hi with rfl | hi
      · exact .inl (List.mem_cons_self ..)
      · rcases List.mem_or_eq_of_mem_set hi with h | h
        · exact .inl (List.mem_cons_of_mem _ h)
        · exact .inr (by rw [h]; exact hge)
    have hlast : Goes own own' (fun k => k ∈ idsH gh Q) w (w1.setCell ⟨g, o + k * 3 + 1, none⟩ (.pointer (some ⟨x'.ge, 0, none⟩))) := ⟨hwide.os, hwide.tape, hwide.output, by rw [size_setCell]; exact hwide.size, fun b hb hn => (Below.heap_setCell w1 ⟨g, o + k * 3 + 1, none⟩ _ b (fun e => hn (by rw [e]; show own g ∈ _; rw [hog]; exact List.mem_cons_self ..))).trans (hwide.block b hb hn), hwide.same⟩
    refine ⟨own', Q.set k (x', p'), ⟨⟨some ⟨g, o, none⟩, n, c, hB1.far (by exact fun e => hgg e.symm) _, ?_, by rw [List.length_set]; exact hQ, hnb⟩, hog1, fun y hy => ?_, ?_⟩, hmap, hlast, hin⟩
    · refine hst.weak fun b hq => ?_
      injection hq with hq; subst hq; exact fun hh => hh.2 hog'
    · rcases hmem y hy with rfl | ⟨i, hi, hik, rfl⟩
      · exact hp
      · have hni := ids_ne hids (List.getElem_mem (l := Q) (n := i) hi)
        exact ((hpg _ (List.getElem_mem _)).apart hg (ids_pair hids hi hk hik).1 (ids_pair hids hi hk hik).2).apart hs (fun e => hni.1 (e.trans hog')) (fun e => hni.2 (e.trans hog'))
    · rw [hid]
      have h2 := List.nodup_cons.1 hids
      refine List.nodup_cons.2 ⟨fun h => ?_, nodup_set _ _ _ h2.2 fun h => hfresh (List.mem_cons_of_mem _ h)⟩
      rcases List.mem_or_eq_of_mem_set h with h | h
      · exact h2.1 h
      · have := hlt gh (List.mem_cons_self ..)
        omega
end Go.Proofs.YtaogegpfapfchaaGreatDoor

/- A leaf's crash, as a page's deed. -/
namespace Go.Proofs.YtaogegpfapfchaaGreatDoor
open Go.RowKit
set_option linter.unusedVariables false

/-- The records that a crash leaves. -/
noncomputable def crashI (p : Pg) (n : Int) : Nat := wholeI p.H (safeN p + n.toNat)
def crashNo (p : Pg) (n : Int) : Prop := n < 0 ∨ ((framesL (recs p.H)).length : Int) - (safeN p : Int) < n
theorem pcrash_no (own : Nat → Nat) (w : World) (x : Pl) (p : Pg) (n : Int) (hn : -9223372036854775808 ≤ n ∧ n ≤ 9223372036854775807) (h : PageAt own w x p) (hb : crashNo p n) :
    Calls Tryz.prog 61 #[.pointer (some ⟨x.gl, 0, none⟩), .int .i64 n] w fun e w' => e = .returned (.int .i64 1) ∧ LeafIn own w' x.gl x.g p.t p.H p.j ∧ Goes own own (· = x.gl) w w' ∧ Only2 x.gl x.g w w' := by
  refine (leafCrash_no x.gl x.g p.j p.t p.H n hn w h.leaf.at_ hb).mono ?_
  rintro e w' ⟨rfl, hl, ho⟩
  exact ⟨rfl, (h.leaf.goes hl ho).1, (h.leaf.goes hl ho).2, ho⟩
theorem pcrash_yes (own : Nat → Nat) (w : World) (x : Pl) (p : Pg) (n : Int) (hn : -9223372036854775808 ≤ n ∧ n ≤ 9223372036854775807) (h : PageAt own w x p) (hb : ¬ crashNo p n) :
    Calls Tryz.prog 61 #[.pointer (some ⟨x.gl, 0, none⟩), .int .i64 n] w fun e w' => e = .returned (.int .i64 0) ∧ LeafIn own w' x.gl x.g (endT ⟨#[]⟩ (p.H.take (crashI p n))) (p.H.take (crashI p n)) (crashI p n) ∧ Goes own own (· = x.gl) w w' ∧ Only2 x.gl x.g w w' := by
  have hb' := hb
  unfold crashNo at hb'
  obtain ⟨m, rfl⟩ : ∃ m : Nat, n = (m : Int) := ⟨n.toNat, by omega⟩
  have hw := wholeI_to p.H (safeN p + m)
  have hc := leafCrash_ok x.gl x.g p.j m (wholeI p.H (safeN p + m)) p.t p.H w h.leaf.at_ (by unfold safeN at hb'; omega) hw
  refine hc.mono ?_
  rintro e w' ⟨rfl, hl, ho⟩
  exact ⟨rfl, (h.leaf.goes hl ho).1, (h.leaf.goes hl ho).2, ho⟩
end Go.Proofs.YtaogegpfapfchaaGreatDoor

/- A page out of its house. -/
namespace Go.Proofs.YtaogegpfapfchaaGreatDoor
open Go.RowKit
set_option linter.unusedVariables false

theorem ids_erase_sub : ∀ (Q : List (Pl × Pg)) (k : Nat), ((Q.eraseIdx k).flatMap fun y => [y.1.ge, y.1.gl]).Sublist (Q.flatMap fun y => [y.1.ge, y.1.gl])
  | [], _ => by simp
  | x :: Q, 0 => by
    rw [List.eraseIdx_cons_zero, List.flatMap_cons]
    exact List.sublist_append_right _ _
  | x :: Q, k + 1 => by
    rw [List.eraseIdx_cons_succ, List.flatMap_cons, List.flatMap_cons]
    exact (List.Sublist.refl _).append (ids_erase_sub Q k)
theorem house_drop {own : Nat → Nat} {w w1 : World} {gh : Nat} {Q : List (Pl × Pg)} {g o n c k : Nat} (hB : Blk w gh 42 #[.slice (some ⟨g, o, none⟩) n c]) (hrow : OwnK 66 3 w (fun k => k < w.heap.size ∧ own k ≠ gh) (some ⟨g, o, none⟩) n c (Q.flatMap cPage)) (hQ : Q.length = n)
    (how : own gh = gh) (hpg : ∀ y ∈ Q, PageAt own w y.1 y.2) (hids : (idsH gh Q).Nodup) (hk : k < Q.length)
    (hrow1 : OwnK 66 3 w1 (fun k => k < w.heap.size ∧ own k ≠ gh) (some ⟨g, o, none⟩) (n - 1) c ((Q.eraseIdx k).flatMap cPage)) (hg1 : w.grownBy w1 (some g)) :
    HouseTo own w gh Q ((Q.map (·.2)).eraseIdx k) (w1.setCell ⟨gh, 0, none⟩ (.slice (some ⟨g, o, none⟩) (n - 1) c)) := by
  have hlt := hrow.lt g rfl
  have hog : own g = gh := by
    by_cases e : own g = gh
    · exact e
    · exact absurd ⟨hlt.2, e⟩ hlt.1
  have hgg : g ≠ gh := fun e => hrow.ne_blk hB (by decide) (by rw [← e]; rfl)
  have hB1 : Blk w1 gh 42 #[.slice (some ⟨g, o, none⟩) n c] := hB.grown hg1 (fun e => hgg (by injection e))
  have hG : Goes own own (· = gh) w (w1.setCell ⟨gh, 0, none⟩ (.slice (some ⟨g, o, none⟩) (n - 1) c)) := by
    refine ⟨hg1.os, hg1.tape, hg1.output, by rw [size_setCell]; exact hg1.size, fun b hb hn => ?_, fun _ _ => rfl⟩
    exact (Below.heap_setCell w1 ⟨gh, 0, none⟩ _ b (fun e => hn (by rw [e]; exact how))).trans (hg1.block b hb (fun e => hn (by injection e with e; rw [← hog, e])))
  have hnb : (Value.slice (some ⟨g, o, none⟩) (n - 1) c).ownBlock ≠ some gh := fun e => hgg (by injection e)
  have hsub : (idsH gh (Q.eraseIdx k)).Sublist (idsH gh Q) := (List.Sublist.refl [gh]).append (ids_erase_sub Q k)
  refine ⟨own, Q.eraseIdx k, ⟨⟨some ⟨g, o, none⟩, n - 1, c, hB1.set_ 0 _, ?_, by rw [List.length_eraseIdx, if_pos hk, hQ], hnb⟩, how, fun y hy => ?_, hids.sublist hsub⟩, by rw [List.eraseIdx_eq_take_drop_succ, List.eraseIdx_eq_take_drop_succ, List.map_append, List.map_take, List.map_drop], hG.wide fun i hi => by rw [hi]; exact List.mem_cons_self .., fun i hi => .inl (hsub.subset hi)⟩
  · refine (hrow1.far hnb 0 _).weak fun b hq => ?_
    injection hq with hq; subst hq; exact fun hh => hh.2 hog
  · have hyQ := List.mem_of_mem_eraseIdx hy
    exact (hpg y hyQ).apart hG (ids_ne hids hyQ).1 (ids_ne hids hyQ).2
end Go.Proofs.YtaogegpfapfchaaGreatDoor

/- The walk of a house's Do: deeds that are refused ahead of any page. -/
namespace Go.Proofs.YtaogegpfapfchaaGreatDoor
open Go.RowKit
set_option linter.unusedVariables false

set_option maxHeartbeats 1000000 in
theorem do_kind (own : Nat → Nat) (w : World) (gh : Nat) (Q : List (Pl × Pg)) (h : HouseAt own w gh Q) (d : Dd) (Ad : Option Addr) (cd : Nat) (hk : d.kind < 1 ∨ 10 < d.kind) :
    Calls Tryz.prog 32 #[.pointer (some ⟨gh, 0, none⟩), .agg (cDeed d Ad cd)] w fun e w' => e = .returned (.tuple #[.string ⟨#[]⟩, .int .i64 1]) ∧ HouseTo own w gh Q (Q.map (·.2)) w' := by
  have hba : Below w.heap.size w (w.alloc (Obj.cells (cDeed d Ad cd) 70)) := (Below.refl _ _).alloc (Nat.le_refl _) _
  have hbd := Blk.new w 70 (cDeed d Ad cd)
  have HS := Lib.hid (HouseTo.stay h hba)
  have b0 := hbd.cell 0
  unfold cDeed at b0 HS hba ⊢
  clear hbd h
  by_cases h1 : d.kind < 1
  · have q1 : decide (d.kind < 1) = true := decide_eq_true h1
    go_enter Tryz.func32, Tryz.ntmps32
    go_wp2
    go_ret2
    exact ⟨rfl, HS.out⟩
  · have q1 : decide (d.kind < 1) = false := decide_eq_false h1
    have q2 : decide (10 < d.kind) = true := decide_eq_true (by omega)
    go_enter Tryz.func32, Tryz.ntmps32
    go_wp2
    go_ret2
    exact ⟨rfl, HS.out⟩

set_option maxHeartbeats 1000000 in
theorem do_name (own : Nat → Nat) (w : World) (gh : Nat) (Q : List (Pl × Pg)) (h : HouseAt own w gh Q) (d : Dd) (Ad : Option Addr) (cd : Nat) (hk : 1 ≤ d.kind ∧ d.kind ≤ 10) (hn : nameE d.name ≠ 0) (hs : d.name.size ≤ 140737488351232) :
    Calls Tryz.prog 32 #[.pointer (some ⟨gh, 0, none⟩), .agg (cDeed d Ad cd)] w fun e w' => e = .returned (.tuple #[.string ⟨#[]⟩, .int .i64 (nameE d.name)]) ∧ HouseTo own w gh Q (Q.map (·.2)) w' := by
  have hba : Below w.heap.size w (w.alloc (Obj.cells (cDeed d Ad cd) 70)) := (Below.refl _ _).alloc (Nat.le_refl _) _
  have hbd := Blk.new w 70 (cDeed d Ad cd)
  have HS := Lib.hid (fun w' hb => HouseTo.stay (w' := w') h hb)
  have N := Lib.hid (name_any d.name hs)
  have b0 := hbd.cell 0
  have b2 := hbd.cell 2
  unfold cDeed at b0 b2 hba ⊢
  have q1 : decide (d.kind < 1) = false := decide_eq_false (by omega)
  have q2 : decide (10 < d.kind) = false := decide_eq_false (by omega)
  have q3 : (nameE d.name != 0) = true := by simpa using hn
  clear hbd h hk hn
  generalize nameE d.name = E at *
  go_enter Tryz.func32, Tryz.ntmps32
  go_wp2_with fail
  refine (N.out _).mono ?_
  rintro e w1 ⟨rfl, hb1⟩
  go_wp2
  go_ret2
  exact ⟨rfl, HS.out _ (chain hb1 hba)⟩
end Go.Proofs.YtaogegpfapfchaaGreatDoor

/- The walk of a house's Do: a new text, and a name that is not there. -/
namespace Go.Proofs.YtaogegpfapfchaaGreatDoor
open Go.RowKit
set_option linter.unusedVariables false

theorem HouseTo.before {own : Nat → Nat} {w w1 w' : World} {gh : Nat} {Q : List (Pl × Pg)} {P' : List Pg} (hb : Below w.heap.size w w1) (h : HouseTo own w1 gh Q P' w') : HouseTo own w gh Q P' w' := by
  obtain ⟨own', Q', h1, h2, h3, h4⟩ := h
  exact ⟨own', Q', h1, h2, (Goes.of_below hb).trans h3, fun i hi => (h4 i hi).imp id fun h => Nat.le_trans hb.size h⟩
theorem placeN_bd (s : ByteArray) : ∀ (P : List Pg) (k : Nat), -1 ≤ placeN s P k ∧ placeN s P k < (k : Int) + (P.length : Int) ∨ P = [] ∧ placeN s P k = -1
  | [], _ => .inr ⟨rfl, rfl⟩
  | x :: P, k => by
    left
    unfold placeN
    by_cases h : x.name = s
    · rw [if_pos h]; simp only [List.length_cons]; omega
    · rw [if_neg h]
      simp only [List.length_cons]
      rcases placeN_bd s P (k + 1) with h | ⟨rfl, h⟩
      · omega
      · rw [h]; simp; omega

set_option maxHeartbeats 1000000 in
theorem do_begin (own : Nat → Nat) (w : World) (gh : Nat) (Q : List (Pl × Pg)) (h : HouseAt own w gh Q) (hQ : Q.length ≤ 6) (d : Dd) (Ad : Option Addr) (cd : Nat) (hk : d.kind = 1) (hn : nameE d.name = 0) (hs : d.name.size ≤ 140737488351232) :
    Calls Tryz.prog 32 #[.pointer (some ⟨gh, 0, none⟩), .agg (cDeed d Ad cd)] w fun e w' => e = .returned (.tuple #[.string ⟨#[]⟩, .int .i64 (beginE (placeN d.name (Q.map (·.2)) 0) (Q.map (·.2)) d)]) ∧ HouseTo own w gh Q (beginP (placeN d.name (Q.map (·.2)) 0) (Q.map (·.2)) d) w' := by
  have hba : Below w.heap.size w (w.alloc (Obj.cells (cDeed d Ad cd) 70)) := (Below.refl _ _).alloc (Nat.le_refl _) _
  have hbd := Blk.new w 70 (cDeed d Ad cd)
  have N := Lib.hid (name_any d.name hs)
  rw [hn] at N
  have b0 := hbd.cell 0
  have b2 := hbd.cell 2
  have hpl := placeN_bd d.name (Q.map (·.2)) 0
  have hlen : (Q.map (·.2)).length = Q.length := List.length_map ..
  have hk64 : -9223372036854775808 ≤ placeN d.name (Q.map (·.2)) 0 ∧ placeN d.name (Q.map (·.2)) 0 ≤ 9223372036854775807 := by
    rcases hpl with h | ⟨_, h⟩ <;> omega
  have BG := Lib.hid (fun W (hh : HouseAt own W gh Q) => begin_any own W gh Q hh _ hk64 hQ d Ad cd)
  have HH := Lib.hid h
  unfold cDeed at b0 b2
  have qa : decide (d.kind < 1) = false := decide_eq_false (by omega)
  have qb : decide (10 < d.kind) = false := decide_eq_false (by omega)
  have q1 : (d.kind == 1) = true := by rw [hk]; rfl
  clear hpl hlen hk64 h hk hn
  go_enter Tryz.func32, Tryz.ntmps32
  unfold cDeed at hba hbd BG ⊢
  go_wp2_with fail
  refine (N.out _).mono ?_
  rintro e w1 ⟨rfl, hb1⟩
  have hbd1 := hbd.after hb1
  have hb1 := chain hb1 hba
  have hh1 := HH.out.apart (Goes.of_below (own := own) (S := fun _ => False) hb1) (fun _ _ h => h)
  obtain ⟨⟨A, n, c, hB, hrow, hQl, _⟩, _⟩ := hh1
  have d0 := hB.cell 0
  have e0 := hbd1.cell 0
  have I := Lib.hid (indexPage w.heap.size d Ad cd A n c w1.heap.size Q hQl (by omega) w1 hrow.toReads (Nat.le_refl _) hbd1)
  clear hbd N b0 b2 hrow hB hba
  go_wp2_with fail
  refine I.out.mono ?_
  rintro e w2 ⟨rfl, hb2⟩
  have hbd2 := hbd1.after hb2
  have hb2 := chain hb2 hb1
  have hh2 := HH.out.apart (Goes.of_below (own := own) (S := fun _ => False) hb2) (fun _ _ h => h)
  have c0 := hbd2.cell 0
  have c1 := hbd2.cell 1
  have c2 := hbd2.cell 2
  have c3 := hbd2.cell 3
  have c4 := hbd2.cell 4
  have BG2 := Lib.hid (BG.out w2 hh2)
  clear I hbd1 d0 e0 BG HH hh2 hbd2
  go_wp2_with fail
  refine BG2.out.mono ?_
  rintro e w3 ⟨rfl, ht⟩
  go_wp2
  go_ret2
  exact ⟨rfl, ht.before hb2⟩
set_option maxHeartbeats 1000000 in
theorem do_none (own : Nat → Nat) (w : World) (gh : Nat) (Q : List (Pl × Pg)) (h : HouseAt own w gh Q) (hQ : Q.length ≤ 6) (d : Dd) (Ad : Option Addr) (cd : Nat) (hk : 2 ≤ d.kind ∧ d.kind ≤ 10) (hp : placeN d.name (Q.map (·.2)) 0 < 0) (hn : nameE d.name = 0) (hs : d.name.size ≤ 140737488351232) :
    Calls Tryz.prog 32 #[.pointer (some ⟨gh, 0, none⟩), .agg (cDeed d Ad cd)] w fun e w' => e = .returned (.tuple #[.string ⟨#[]⟩, .int .i64 4]) ∧ HouseTo own w gh Q (Q.map (·.2)) w' := by
  have hba : Below w.heap.size w (w.alloc (Obj.cells (cDeed d Ad cd) 70)) := (Below.refl _ _).alloc (Nat.le_refl _) _
  have hbd := Blk.new w 70 (cDeed d Ad cd)
  have N := Lib.hid (name_any d.name hs)
  rw [hn] at N
  have b0 := hbd.cell 0
  have b2 := hbd.cell 2
  have hpl := placeN_bd d.name (Q.map (·.2)) 0
  have hlen : (Q.map (·.2)).length = Q.length := List.length_map ..
  have hk64 : -9223372036854775808 ≤ placeN d.name (Q.map (·.2)) 0 ∧ placeN d.name (Q.map (·.2)) 0 ≤ 9223372036854775807 := by
    rcases hpl with h | ⟨_, h⟩ <;> omega
  have HH := Lib.hid h
  unfold cDeed at b0 b2
  have qa : decide (d.kind < 1) = false := decide_eq_false (by omega)
  have qb : decide (10 < d.kind) = false := decide_eq_false (by omega)
  have q1 : (d.kind == 1) = false := by rw [beq_eq_false_iff_ne]; omega
  have q2 : decide (placeN d.name (Q.map (·.2)) 0 < 0) = true := decide_eq_true hp
  clear hpl hlen hk64 h hk hn hp
  go_enter Tryz.func32, Tryz.ntmps32
  unfold cDeed at hba hbd ⊢
  go_wp2_with fail
  refine (N.out _).mono ?_
  rintro e w1 ⟨rfl, hb1⟩
  have hbd1 := hbd.after hb1
  have hb1 := chain hb1 hba
  have hh1 := HH.out.apart (Goes.of_below (own := own) (S := fun _ => False) hb1) (fun _ _ h => h)
  obtain ⟨⟨A, n, c, hB, hrow, hQl, _⟩, _⟩ := hh1
  have d0 := hB.cell 0
  have e0 := hbd1.cell 0
  have I := Lib.hid (indexPage w.heap.size d Ad cd A n c w1.heap.size Q hQl (by omega) w1 hrow.toReads (Nat.le_refl _) hbd1)
  clear hbd N b0 b2 hrow hB hba
  go_wp2_with fail
  refine I.out.mono ?_
  rintro e w2 ⟨rfl, hb2⟩
  have hbd2 := hbd1.after hb2
  have hb2 := chain hb2 hb1
  have HT := Lib.hid (HouseTo.stay HH.out hb2)
  have c0 := hbd2.cell 0
  have c1 := hbd2.cell 1
  have c2 := hbd2.cell 2
  have c3 := hbd2.cell 3
  have c4 := hbd2.cell 4
  clear I hbd1 d0 e0 HH hbd2
  go_wp2
  go_ret2
  exact ⟨rfl, HT.out⟩
end Go.Proofs.YtaogegpfapfchaaGreatDoor

/- The walk of a house's Do: a page's text. -/
namespace Go.Proofs.YtaogegpfapfchaaGreatDoor
open Go.RowKit
set_option linter.unusedVariables false

set_option maxHeartbeats 1000000 in
theorem do_text (own : Nat → Nat) (w : World) (gh : Nat) (Q : List (Pl × Pg)) (h : HouseAt own w gh Q) (hQ : Q.length ≤ 6) (d : Dd) (Ad : Option Addr) (cd : Nat) (hk : d.kind = 8) (k : Nat) (hkl : k < Q.length) (hp : placeN d.name (Q.map (·.2)) 0 = (k : Int)) (hn : nameE d.name = 0) (hs : d.name.size ≤ 140737488351232) :
    Calls Tryz.prog 32 #[.pointer (some ⟨gh, 0, none⟩), .agg (cDeed d Ad cd)] w fun e w' => e = .returned (.tuple #[.string Q[k].2.t, .int .i64 0]) ∧ HouseTo own w gh Q (Q.map (·.2)) w' := by
  have hba : Below w.heap.size w (w.alloc (Obj.cells (cDeed d Ad cd) 70)) := (Below.refl _ _).alloc (Nat.le_refl _) _
  have hbd := Blk.new w 70 (cDeed d Ad cd)
  have N := Lib.hid (name_any d.name hs)
  rw [hn] at N
  have b0 := hbd.cell 0
  have b2 := hbd.cell 2
  have HH := Lib.hid h
  unfold cDeed at b0 b2
  have qa : decide (d.kind < 1) = false := decide_eq_false (by omega)
  have qb : decide (10 < d.kind) = false := decide_eq_false (by omega)
  have q1 : (d.kind == 1) = false := by rw [hk]; rfl
  have q2 : (d.kind == 2) = false := by rw [hk]; rfl
  have q10 : (d.kind == 10) = false := by rw [hk]; rfl
  have q3 : (d.kind == 3) = false := by rw [hk]; rfl
  have q4 : (d.kind == 4) = false := by rw [hk]; rfl
  have q5 : (d.kind == 5) = false := by rw [hk]; rfl
  have q6 : (d.kind == 6) = false := by rw [hk]; rfl
  have q7 : (d.kind == 7) = false := by rw [hk]; rfl
  have q8 : (d.kind == 8) = true := by rw [hk]; rfl
  have Hp := Lib.hid hp
  clear h hk hn hp
  go_enter Tryz.func32, Tryz.ntmps32
  unfold cDeed at hba hbd ⊢
  go_wp2_with fail
  refine (N.out _).mono ?_
  rintro e w1 ⟨rfl, hb1⟩
  have hbd1 := hbd.after hb1
  have hb1 := chain hb1 hba
  have hh1 := HH.out.apart (Goes.of_below (own := own) (S := fun _ => False) hb1) (fun _ _ h => h)
  obtain ⟨⟨A, n, c, hB, hrow, hQl, _⟩, how, hpg, hids⟩ := hh1
  have d0 := hB.cell 0
  have e0 := hbd1.cell 0
  have I := Lib.hid (indexPage w.heap.size d Ad cd A n c w1.heap.size Q hQl (by omega) w1 hrow.toReads (Nat.le_refl _) hbd1)
  rw [Hp.out] at I
  clear hbd N b0 b2 hba
  go_wp2_with fail
  refine I.out.mono ?_
  rintro e w2 ⟨rfl, hb2⟩
  have hbd2 := hbd1.after hb2
  obtain ⟨g, o, rfl, _⟩ := hrow.shape (by omega)
  obtain ⟨hog, hgl, hra⟩ := row_page (k := k) hpg hids hrow hQl (by omega)
  have hra2 := hra.after hb2
  have p1 := hra2.c1
  have hP := (hpg Q[k] (List.getElem_mem _)).apart (Goes.of_below (own := own) (S := fun _ => False) hb2) (fun h => h) (fun h => h)
  have T := Lib.hid (text_any Q[k].1.ge Q[k].2.t Q[k].2.B Q[k].2.O _ w2 hP.ed)
  have hB2 := hB.after hb2
  have g0 := hB2.cell 0
  have c0 := hbd2.cell 0
  have hkn : k < n := by omega
  have hb2 := chain hb2 hb1
  have HT := Lib.hid (HouseTo.stay HH.out hb2)
  clear I hbd1 d0 e0 HH hbd2 hB hB2 hrow hpg hids hra hra2 hP
  go_wp2_with fail
  refine T.out.mono ?_
  rintro e w3 ⟨rfl, rfl⟩
  go_wp2
  go_ret2
  exact ⟨rfl, HT.out⟩
end Go.Proofs.YtaogegpfapfchaaGreatDoor

/- The walk of a house's Do: a page out. -/
namespace Go.Proofs.YtaogegpfapfchaaGreatDoor
open Go.RowKit
set_option linter.unusedVariables false

set_option maxHeartbeats 1000000 in
theorem do_drop (own : Nat → Nat) (w : World) (gh : Nat) (Q : List (Pl × Pg)) (h : HouseAt own w gh Q) (hQ : Q.length ≤ 6) (d : Dd) (Ad : Option Addr) (cd : Nat) (hk : d.kind = 9) (k : Nat) (hkl : k < Q.length) (hp : placeN d.name (Q.map (·.2)) 0 = (k : Int)) (hn : nameE d.name = 0) (hs : d.name.size ≤ 140737488351232) :
    Calls Tryz.prog 32 #[.pointer (some ⟨gh, 0, none⟩), .agg (cDeed d Ad cd)] w fun e w' => e = .returned (.tuple #[.string ⟨#[]⟩, .int .i64 0]) ∧ HouseTo own w gh Q ((Q.map (·.2)).eraseIdx k) w' := by
  have hba : Below w.heap.size w (w.alloc (Obj.cells (cDeed d Ad cd) 70)) := (Below.refl _ _).alloc (Nat.le_refl _) _
  have hbd := Blk.new w 70 (cDeed d Ad cd)
  have N := Lib.hid (name_any d.name hs)
  rw [hn] at N
  have b0 := hbd.cell 0
  have b2 := hbd.cell 2
  have HH := Lib.hid h
  unfold cDeed at b0 b2
  have qa : decide (d.kind < 1) = false := decide_eq_false (by omega)
  have qb : decide (10 < d.kind) = false := decide_eq_false (by omega)
  have q1 : (d.kind == 1) = false := by rw [hk]; rfl
  have q2 : (d.kind == 2) = false := by rw [hk]; rfl
  have q10 : (d.kind == 10) = false := by rw [hk]; rfl
  have q3 : (d.kind == 3) = false := by rw [hk]; rfl
  have q4 : (d.kind == 4) = false := by rw [hk]; rfl
  have q5 : (d.kind == 5) = false := by rw [hk]; rfl
  have q6 : (d.kind == 6) = false := by rw [hk]; rfl
  have q7 : (d.kind == 7) = false := by rw [hk]; rfl
  have q8 : (d.kind == 8) = false := by rw [hk]; rfl
  have q9 : (d.kind == 9) = true := by rw [hk]; rfl
  have Hp := Lib.hid hp
  clear h hk hn hp
  go_enter Tryz.func32, Tryz.ntmps32
  unfold cDeed at hba hbd ⊢
  go_wp2_with fail
  refine (N.out _).mono ?_
  rintro e w1 ⟨rfl, hb1⟩
  have hbd1 := hbd.after hb1
  have hb1 := chain hb1 hba
  have hh1 := HH.out.apart (Goes.of_below (own := own) (S := fun _ => False) hb1) (fun _ _ h => h)
  obtain ⟨⟨A, n, c, hB, hrow, hQl, _⟩, how, hpg, hids⟩ := hh1
  have d0 := hB.cell 0
  have e0 := hbd1.cell 0
  have I := Lib.hid (indexPage w.heap.size d Ad cd A n c w1.heap.size Q hQl (by omega) w1 hrow.toReads (Nat.le_refl _) hbd1)
  rw [Hp.out] at I
  clear hbd N b0 b2 hba
  go_wp2_with fail
  refine I.out.mono ?_
  rintro e w2 ⟨rfl, hb2⟩
  have hbd2 := hbd1.after hb2
  obtain ⟨g, o, rfl, _⟩ := hrow.shape (by omega)
  have hh2 := HH.out.apart (Goes.of_below (own := own) (S := fun _ => False) (chain hb2 hb1)) (fun _ _ h => h)
  have hB2 := hB.after hb2
  have g0 := hB2.cell 0
  have gf := hB2.frozen 0
  have c0 := hbd2.cell 0
  have hkn : k < n := by omega
  have hrow2 : OwnK 66 3 w2 (fun k => k < w2.heap.size ∧ own k ≠ gh) (some ⟨g, o, none⟩) n c (Q.flatMap cPage) := by
    refine (hrow.after hb2).weak fun b hq hh => ?_
    have := hrow.lt b hq
    exact this.1 ⟨this.2, hh.2⟩
  have hpg2 : ∀ y ∈ Q, PageAt own w2 y.1 y.2 := hh2.page
  have D := Lib.hid (deletePage _ g o n c k Q hQl hkn (by omega) w2 hrow2)
  have hb2 := chain hb2 hb1
  clear I hbd1 d0 e0 HH hbd2 hB hrow hpg hh2
  go_wp2_with fail
  refine D.out.mono ?_
  rintro e w3 ⟨rfl, hr3, hg3⟩
  have hgg : g ≠ gh := fun e => hrow2.ne_blk hB2 (by decide) (by rw [← e]; rfl)
  have hB3 := hB2.grown hg3 (fun e => hgg (by injection e))
  have z0 := hB3.cell 0
  have zf := hB3.frozen 0
  have HT := Lib.hid (house_drop hB2 hrow2 hQl how hpg2 hids hkl hr3 hg3)
  clear D
  go_wp2
  go_ret2
  exact ⟨rfl, HT.out.before hb2⟩
end Go.Proofs.YtaogegpfapfchaaGreatDoor

/- The walk of a house's Do: edits of a page. -/
namespace Go.Proofs.YtaogegpfapfchaaGreatDoor
open Go.RowKit
set_option linter.unusedVariables false

theorem editP_name (p : Pg) (l : List Ed) : (editP p l).2.name = p.name := by
  unfold editP
  by_cases h1 : l = []
  · rw [if_pos h1]
  · rw [if_neg h1]
    by_cases h2 : leafE p.t p.H l ≠ 0
    · rw [if_pos h2]
    · rw [if_neg h2]

set_option maxHeartbeats 1000000 in
theorem do_edit (own : Nat → Nat) (w : World) (gh : Nat) (Q : List (Pl × Pg)) (h : HouseAt own w gh Q) (hQ : Q.length ≤ 6) (d : Dd) (Ad : Option Addr) (cd : Nat) (hk : d.kind = 2) (ht : Tab w) (hle : EdsAt w Ad d.edits.length cd d.edits) (k : Nat) (hkl : k < Q.length) (hp : placeN d.name (Q.map (·.2)) 0 = (k : Int)) (hn : nameE d.name = 0) (hs : d.name.size ≤ 140737488351232) :
    Calls Tryz.prog 32 #[.pointer (some ⟨gh, 0, none⟩), .agg (cDeed d Ad cd)] w fun e w' => e = .returned (.tuple #[.string ⟨#[]⟩, .int .i64 (editP Q[k].2 d.edits).1]) ∧ HouseTo own w gh Q ((Q.map (·.2)).set k (editP Q[k].2 d.edits).2) w' := by
  have hba : Below w.heap.size w (w.alloc (Obj.cells (cDeed d Ad cd) 70)) := (Below.refl _ _).alloc (Nat.le_refl _) _
  have hbd := Blk.new w 70 (cDeed d Ad cd)
  have N := Lib.hid (name_any d.name hs)
  rw [hn] at N
  have b0 := hbd.cell 0
  have b2 := hbd.cell 2
  have HH := Lib.hid h
  unfold cDeed at b0 b2
  have qa : decide (d.kind < 1) = false := decide_eq_false (by omega)
  have qb : decide (10 < d.kind) = false := decide_eq_false (by omega)
  have q1 : (d.kind == 1) = false := by rw [hk]; rfl
  have q2 : (d.kind == 2) = true := by rw [hk]; rfl
  have q10 : (d.kind == 10) = false := by rw [hk]; rfl
  have q3 : (d.kind == 3) = false := by rw [hk]; rfl
  have q4 : (d.kind == 4) = false := by rw [hk]; rfl
  have q5 : (d.kind == 5) = false := by rw [hk]; rfl
  have q6 : (d.kind == 6) = false := by rw [hk]; rfl
  have q7 : (d.kind == 7) = false := by rw [hk]; rfl
  have q8 : (d.kind == 8) = false := by rw [hk]; rfl
  have Hp := Lib.hid hp
  have Hle := Lib.hid hle
  clear h hk hn hp hle
  go_enter Tryz.func32, Tryz.ntmps32
  unfold cDeed at hba hbd ⊢
  go_wp2_with fail
  refine (N.out _).mono ?_
  rintro e w1 ⟨rfl, hb1⟩
  have hbd1 := hbd.after hb1
  have hb1 := chain hb1 hba
  have hh1 := HH.out.apart (Goes.of_below (own := own) (S := fun _ => False) hb1) (fun _ _ h => h)
  obtain ⟨⟨A, n, c, hB, hrow, hQl, _⟩, how, hpg, hids⟩ := hh1
  have d0 := hB.cell 0
  have e0 := hbd1.cell 0
  have I := Lib.hid (indexPage w.heap.size d Ad cd A n c w1.heap.size Q hQl (by omega) w1 hrow.toReads (Nat.le_refl _) hbd1)
  rw [Hp.out] at I
  clear hbd N b0 b2 hba
  go_wp2_with fail
  refine I.out.mono ?_
  rintro e w2 ⟨rfl, hb2⟩
  have hbd2 := hbd1.after hb2
  obtain ⟨g, o, rfl, _⟩ := hrow.shape (by omega)
  obtain ⟨hog, hgl, hra⟩ := row_page (k := k) hpg hids hrow hQl (by omega)
  have hra2 := hra.after hb2
  have hh2 := HH.out.apart (Goes.of_below (own := own) (S := fun _ => False) (chain hb2 hb1)) (fun _ _ h => h)
  have hpg2 : ∀ y ∈ Q, PageAt own w2 y.1 y.2 := hh2.page
  have hlt2 := hh2.lt
  have hB2 := hB.after hb2
  have g0 := hB2.cell 0
  have c0 := hbd2.cell 0
  have c4 := hbd2.cell 4
  have hkn : k < n := by omega
  have hrow2 : OwnK 66 3 w2 (fun k => k < w2.heap.size ∧ own k ≠ gh) (some ⟨g, o, none⟩) n c (Q.flatMap cPage) := by
    refine (hrow.after hb2).weak fun b hq hh => ?_
    have := hrow.lt b hq
    exact this.1 ⟨this.2, hh.2⟩
  have hb2 := chain hb2 hb1
  have E := Lib.hid (pageEdit own w2 Q[k].1 Q[k].2 g (o + k * 3) hra2 (hpg2 _ (List.getElem_mem _)) (ht.after hb2) Ad _ cd d.edits (Hle.out.after hb2))
  clear I hbd1 d0 e0 HH hbd2 hB hrow hpg hra hh2
  go_wp2_with fail
  refine E.out.mono ?_
  rintro e w3 ⟨own', rfl, hp3, hg3⟩
  have HT := Lib.hid (house_put hB2 hrow2 hQl how hpg2 hids hlt2 hkl (editP_name _ _) (PageTo.stay hp3 hg3))
  clear E
  go_wp2
  go_ret2
  exact ⟨rfl, HT.out.before hb2⟩
end Go.Proofs.YtaogegpfapfchaaGreatDoor

