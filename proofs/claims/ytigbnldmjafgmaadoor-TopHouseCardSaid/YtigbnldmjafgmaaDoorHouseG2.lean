import Derived.Test.YtigbnldmjafgmaaDoorHouseG1
import Derived.BigRegion
import Derived.Deep.RegionLaw
import Derived.Shelf.Sort.Plain
import Derived.Test.YtigbnldmjafgmaaDoorProg
import Derived.Shelf.Slices.CompactS
import Derived.Sort.OwnSorted
import Derived.Shelf.SlSortCmp.InsertionK
import Derived.Shelf.Slices.In.SortNone
import Derived.Test.YtigbnldmjafgmaaDoorRows
import Derived.Test.YtigbnldmjafgmaaDoorLib
import Derived.Test.YtigbnldmjafgmaaDoorPlain
import Derived.Test.YtigbnldmjafgmaaDoorStruct
import Derived.Test.YtigbnldmjafgmaaDoorSlice
import Derived.Test.YtigbnldmjafgmaaDoorArgs
import Derived.Test.YtigbnldmjafgmaaDoorGood
import Derived.Test.YtigbnldmjafgmaaDoorEqual
/- Several texts in one: XHouseDelete XHouseNew XHousePut XHouseCrash XHouseDrop XHouseDo1 XHouseDo2 XHouseDo3 XHouseDo4 XHouseDo5 XHouseDo6 XHouseDo7 XHouseDo8 XHouseDo9 XHouseDo10 XHouseOne XHouseDo XHouseLaw XLaidStrSort XLaidCompactStr XSortK XStrSort XContains XStrs XHouseNames XDeeds XHouseWork XHouseKeep XHouses XLyndon XNamesP. -/
/- The walk of slices.Delete over pages: one page out. -/
namespace Go.Proofs.YtigbnldmjafgmaaDoor
open Go.RowKit
set_option linter.unusedVariables false

/-- append of the back part of a row over the place of one of its elements. -/
theorem run_append_over {P : Program} {T : TypeId} {s : Nat} {K : Nat → Prop} (z : Value) (by_ : Nat) (w : World) (t : TypeId) (ht : P.underlying t = some (.slice T)) (hinfo : (P.info? T).map (fun i => (i.zero, i.size, i.bytes)) = some (some z, s, by_))
    (g o n c i c2 : Nat) (a2 : Addr) (ha2 : i + 1 < n → a2 = ⟨g, o + (i + 1) * s, none⟩) (xs : List Value) (h : OwnK T s w K (some ⟨g, o, none⟩) n c xs) (hi : i < n) (hone : ∀ u ∈ xs, u.oneCell' = true) :
    ∃ w', (∀ ty, (Builtin.append_ #[t, t] ty #[.slice (some ⟨g, o, none⟩) i c, .slice (some a2) (n - (i + 1)) c2]).run P w = .ok (.slice (some ⟨g, o, none⟩) (n - 1) c) w') ∧
      OwnK T s w' K (some ⟨g, o, none⟩) n c (xs.take (i * s) ++ xs.drop ((i + 1) * s) ++ xs.drop ((n - 1) * s)) ∧ w.grownBy w' (some g) := by
  obtain ⟨f, hf, hz, hs1, hby⟩ := info_parts hinfo
  obtain ⟨hlen, h2⟩ := h
  have hcell := fun j (hj : j < n * s) => (OwnK.cell (⟨hlen, h2⟩ : OwnK T s w K (some ⟨g, o, none⟩) n c xs) j hj).1
  rcases h2 with ⟨h0, _⟩ | ⟨g', o', cur, hv', hb, hg, hnc, hcm, hcs, hx⟩
  · cases h0
  injection hv' with hv'
  injection hv' with e1 e2
  subst e1; subst e2
  have e1 : (i + 1) * s + (n - (i + 1)) * s = n * s := by rw [← Nat.add_mul]; congr 1; omega
  have e2 : i * s + (n - (i + 1)) * s = (n - 1) * s := by rw [← Nat.add_mul]; congr 1; omega
  have e3 : (n - 1) * s + s = n * s := by rw [← Nat.succ_mul]; congr 1; omega
  have e4 : n * s ≤ c * s := Nat.mul_le_mul_right _ hnc
  have hdl : (xs.drop ((i + 1) * s)).length = (n - (i + 1)) * s := by rw [List.length_drop, hlen]; omega
  have hnews : ∀ j u, (xs.drop ((i + 1) * s))[j]? = some u → w.cell? (a2.add j) = some u := fun j u hj => by
    have hj' := (List.getElem?_eq_some_iff.1 hj).1
    rw [hdl] at hj'
    have hin : i + 1 < n := by
      rcases Nat.lt_or_ge (i + 1) n with h | h
      · exact h
      · rw [show n - (i + 1) = 0 by omega, Nat.zero_mul] at hj'; exact absurd hj' (Nat.not_lt_zero _)
    rw [ha2 hin, add_at, Nat.add_assoc, hcell _ (by omega), ← List.getElem?_drop]
    exact hj
  have hfc := run_firstCells_some (P := P) w s (n - (i + 1)) a2 (n - (i + 1)) c2 (xs.drop ((i + 1) * s)) hdl hnews
  have hst := run_storeCells_T P g (o + i * s) T (0, 0) (xs.drop ((i + 1) * s)) 0 cur w hg (fun i _ hh => by omega) (by rw [hdl]; omega) (fun v hv => hone v (List.mem_of_mem_drop hv))
  simp only [Nat.add_zero] at hst
  have hroom : n ≤ c + 1 := by omega
  have hsum : i + (n - (i + 1)) = n - 1 := by omega
  have hrow := setRow_heap w g cur (cur.toList.take (o + i * s) ++ xs.drop ((i + 1) * s) ++ cur.toList.drop (o + i * s + (xs.drop ((i + 1) * s)).length)).toArray T (0, 0) hg
  refine ⟨_, fun ty => ?_, ⟨?_, .inr ⟨g, o, _, rfl, hb, hrow, hnc, hcm, ?_, ?_⟩⟩, ⟨rfl, rfl, rfl, by simp [World.setRow], fun k _ hk => setRow_other w g k _ (fun e => hk (by rw [e]))⟩⟩
  · simp [Builtin.append_, run_underlying ht, sizeOf, typeInfo, hf, Builtin.lenOf, hroom, hfc, add_at, hs1, hst, hsum]
  · rw [List.length_append, List.length_append, List.length_take, hdl, List.length_drop, hlen]; omega
  · simp only [List.size_toArray, List.length_append, List.length_take, List.length_drop, Array.length_toList, hlen]; omega
  · have hlt : (cur.toList.take (o + i * s)).length = o + i * s := by rw [List.length_take, Array.length_toList]; omega
    rw [hdl, List.append_assoc, List.drop_append_of_le_length (by omega), List.drop_take, show o + i * s - o = i * s by omega, ← hx]
    have hl2 : ((cur.toList.drop o).take (i * s)).length = i * s := by rw [List.length_take, List.length_drop, Array.length_toList]; omega
    have hl3 : ((cur.toList.drop o).take (n * s)).length = n * s := by rw [hx]; exact hlen
    rw [List.take_take, Nat.min_eq_left (by omega), List.append_assoc]
    rw [List.take_append, hl2, List.take_of_length_le (by omega)]
    congr 1
    rw [List.take_append, List.length_drop, hl3, List.take_of_length_le (by rw [List.length_drop, hl3]; omega)]
    congr 1
    have e5 : (i + 1) * s = i * s + s := Nat.succ_mul ..
    rw [List.drop_take, List.drop_drop, show o + (n - 1) * s = o + i * s + (n - (i + 1)) * s by omega]
    congr 1
    omega
theorem zeroPage (w : World) : (zeroValue 64).run Tryd.prog w = .ok (.agg #[.string ⟨#[]⟩, .pointer none, .pointer none]) w := by
  obtain ⟨i, hi, hz, hs, hb⟩ := info_parts infoPage
  simp [zeroValue, typeInfo, hi, hz]
theorem pages_one (Q : List (Pl × Pg)) : ∀ u ∈ Q.flatMap cPage, u.oneCell' = true := fun u hu => by
  obtain ⟨y, _, hm⟩ := List.mem_flatMap.1 hu
  simp only [cPage, List.mem_cons, List.not_mem_nil, or_false] at hm
  rcases hm with rfl | rfl | rfl <;> rfl
theorem pages_take (Q : List (Pl × Pg)) (i : Nat) (h : i ≤ Q.length) : (Q.flatMap cPage).take (i * 3) = (Q.take i).flatMap cPage := by
  conv => lhs; rw [← List.take_append_drop i Q, List.flatMap_append]
  rw [List.take_append_of_le_length (by rw [flat_length cPage 3 cPage_len, List.length_take]; omega), List.take_of_length_le (by rw [flat_length cPage 3 cPage_len, List.length_take]; omega)]
theorem pages_drop (Q : List (Pl × Pg)) (i : Nat) (h : i ≤ Q.length) : (Q.flatMap cPage).drop (i * 3) = (Q.drop i).flatMap cPage := by
  conv => lhs; rw [← List.take_append_drop i Q, List.flatMap_append]
  rw [List.drop_append_of_le_length (by rw [flat_length cPage 3 cPage_len, List.length_take]; omega), List.drop_eq_nil_of_le (by rw [flat_length cPage 3 cPage_len, List.length_take]; omega), List.nil_append]

theorem erased_row (Q : List (Pl × Pg)) (i n : Nat) (hQ : Q.length = n) (hi : i < n) : ((Q.flatMap cPage).take (i * 3) ++ (Q.flatMap cPage).drop ((i + 1) * 3) ++ (Q.flatMap cPage).drop ((n - 1) * 3)).take ((n - 1) * 3) = (Q.eraseIdx i).flatMap cPage := by
  have hl : (Q.flatMap cPage).length = n * 3 := by rw [flat_length cPage 3 cPage_len, hQ]
  rw [List.take_append_of_le_length (by rw [List.length_append, List.length_take, List.length_drop, hl]; omega), List.take_of_length_le (by rw [List.length_append, List.length_take, List.length_drop, hl]; omega), pages_take Q i (by omega), pages_drop Q (i + 1) (by omega), List.eraseIdx_eq_take_drop_succ, List.flatMap_append]
theorem step_app_eq {P : Program} {w w' : World} {ops : Array Oper} {op : Oper} {a : Act} {Kq : Act → World → Prop} {Q : Exit → Act → World → Prop} {E : Prop} (hgd : op.guard = none) (s x : Operand) (t u : TypeId)
    (ho : op.op = .call { callee := .builtin .append, args := #[s, x], argTypes := #[t, u] }) (v1 v2 v : Value) (hs : a.eval s = v1) (hx : a.eval x = v2) (hr : (Builtin.append_ #[t, u] op.type #[v1, v2]).run P w = .ok v w')
    (h : Kq (a.put op.dst v) w') : if Region.wanted op (yielded ops a.tmps) = true then Oper.wp P op a w Kq Q else E := by
  rw [if_pos (by simp [Region.wanted, hgd])]
  unfold Oper.wp execOp
  simp only [ho, resolve, invoke, builtin, Sem.run_bind, Sem.run_pure, Result.andThen_ok, List.map_toArray, List.map_cons, List.map_nil, hs, hx, hr]
  exact h

set_option maxHeartbeats 1000000 in
theorem deletePage (K : Nat → Prop) (g o n c i : Nat) (Q : List (Pl × Pg)) (hQ : Q.length = n) (hi : i < n) (hn : n ≤ 1000000) (w : World) (h : OwnK 64 3 w K (some ⟨g, o, none⟩) n c (Q.flatMap cPage)) :
    Calls Tryd.prog 46 #[.slice (some ⟨g, o, none⟩) n c, .int .i64 i, .int .i64 ((i : Int) + 1)] w fun e w' => e = .returned (.slice (some ⟨g, o, none⟩) (n - 1) c) ∧ OwnK 64 3 w' K (some ⟨g, o, none⟩) (n - 1) c ((Q.eraseIdx i).flatMap cPage) ∧ w.grownBy w' (some g) := by
  have hcap := h.cap
  unfold maxLen at hcap
  obtain ⟨a2, ha2, hif⟩ : ∃ a2 : Addr, (i + 1 < n → a2 = ⟨g, o + (i + 1) * 3, none⟩) ∧ (if c = i + 1 then some (⟨g, o, none⟩ : Addr) else some ⟨g, o + (i + 1) * 3, none⟩) = some a2 := by
    by_cases hc : c = i + 1
    · exact ⟨⟨g, o, none⟩, fun h => by omega, by rw [if_pos hc]⟩
    · exact ⟨⟨g, o + (i + 1) * 3, none⟩, fun _ => rfl, by rw [if_neg hc]⟩
  obtain ⟨w1, hap, how1, hg1⟩ := run_append_over (s := 3) (.agg #[.string ⟨#[]⟩, .pointer none, .pointer none]) 32 w.drew 61 Tryd.underlying61 infoPage g o n c i (c - (i + 1)) a2 ha2 _ h.drew hi (pages_one Q)
  obtain ⟨w2, hcl, how2, -, hg2⟩ := run_clear_K (s := 3) w1 61 (.agg #[.string ⟨#[]⟩, .pointer none, .pointer none]) Tryd.underlying61 zeroPage rfl (fun j hj => by rcases j with _ | _ | _ | j <;> first | rfl | omega) (by decide) g o n c (n - 1) _ how1 (by omega)
  have hlast : n - (n - 1) = 1 := by omega
  rw [hlast] at hcl
  have hcc : (i : Int) + 1 ≤ (n : Int) := by omega
  have hic : i ≤ c := by omega
  have hi0 : (0 : Int) ≤ (i : Int) + 1 := by omega
  have hic2 : i + 1 ≤ n := by omega
  have hcn : ¬ c = n - 1 := by omega
  go_enter Tryd.func46, Tryd.ntmps46
  go_wp2
  go_region_law ((refine step_app_eq rfl (.tmp 22) (.tmp 25) 61 61 rfl _ _ _ rfl rfl (hap _) ?_))
  go_wp2
  go_ret
  exact ⟨rfl, by rw [← erased_row Q i n hQ hi]; exact how2, hg2.os.trans hg1.os, hg2.tape.trans hg1.tape, hg2.output.trans hg1.output, Nat.le_trans hg1.size hg2.size, fun k hk hn => (hg2.block k (Nat.lt_of_lt_of_le hk hg1.size) hn).trans (hg1.block k hk hn)⟩
end Go.Proofs.YtigbnldmjafgmaaDoor

/- The walk of house.New. -/
namespace Go.Proofs.YtigbnldmjafgmaaDoor
open Go.RowKit
set_option linter.unusedVariables false

theorem newHouse (own : Nat → Nat) (w : World) : Calls Tryd.prog 26 #[] w fun e w' => e = .returned (.pointer (some ⟨w.heap.size, 0, none⟩)) ∧ HouseAt (updO own w.heap.size w.heap.size) w' w.heap.size [] ∧ Below w.heap.size w w' := by
  have hbh : ∀ w' : World, (Instr.build 66 #[]).run Tryd.prog w' = .ok (.agg #[.slice none 0 0]) w' := fun w' => run_build w' 66 _ _ (by kernel_rfl)
  go_enter Tryd.func26, Tryd.ntmps26
  go_wp2
  go_ret
  exact ⟨rfl, ⟨⟨none, 0, 0, Blk.new w _ _, OwnK.nil _ _ _ _, rfl, fun h => (by cases h)⟩, updO_ge own (Nat.le_refl _), fun y hy => (by cases hy), by simp [idsH]⟩, (Below.refl _ _).alloc (Nat.le_refl _) _⟩
end Go.Proofs.YtigbnldmjafgmaaDoor

/- What a page's operation makes of its house. -/
namespace Go.Proofs.YtigbnldmjafgmaaDoor
open Go.RowKit
set_option linter.unusedVariables false

theorem flat_pair {α : Type} (f : α → List Nat) : ∀ (Q : List α), (Q.flatMap f).Nodup → ∀ i k (hi : i < Q.length) (hk : k < Q.length), i < k → ∀ a ∈ f Q[i], ∀ b ∈ f Q[k], a ≠ b
  | [], _, i, k, hi, _, _ => absurd hi (Nat.not_lt_zero _)
  | x :: Q, h, 0, k + 1, _, hk, _ => fun a ha b hb => by
    rw [List.flatMap_cons, List.nodup_append] at h
    exact h.2.2 a ha b (List.mem_flatMap.2 ⟨Q[k]'(by simpa using hk), List.getElem_mem _, hb⟩)
  | x :: Q, h, i + 1, k + 1, hi, hk, hik => fun a ha b hb => by
    rw [List.flatMap_cons, List.nodup_append] at h
    exact flat_pair f Q h.2.1 i k (by simpa using hi) (by simpa using hk) (by omega) a ha b hb
theorem ids_pair {gh : Nat} {Q : List (Pl × Pg)} (h : (idsH gh Q).Nodup) {i k : Nat} (hi : i < Q.length) (hk : k < Q.length) (hik : i ≠ k) : ¬ ofPl Q[k].1 Q[i].1.ge ∧ ¬ ofPl Q[k].1 Q[i].1.gl := by
  have h2 := (List.nodup_cons.1 h).2
  have key : ∀ a ∈ [Q[i].1.ge, Q[i].1.gl], ∀ b ∈ [Q[k].1.ge, Q[k].1.gl], a ≠ b := by
    rcases Nat.lt_or_gt_of_ne hik with h | h
    · exact flat_pair (fun y : Pl × Pg => [y.1.ge, y.1.gl]) Q h2 i k hi hk h
    · exact fun a ha b hb e => flat_pair (fun y : Pl × Pg => [y.1.ge, y.1.gl]) Q h2 k i hk hi h b hb a ha e.symm
  refine ⟨fun e => ?_, fun e => ?_⟩
  · rcases e with e | e
    · exact key _ (by simp) _ (by simp) e
    · exact key _ (by simp) _ (by simp) e
  · rcases e with e | e
    · exact key _ (by simp) _ (by simp) e
    · exact key _ (by simp) _ (by simp) e
/-- The cells of the k-th page in the row. -/
theorem row_page {own : Nat → Nat} {w : World} {gh : Nat} {Q : List (Pl × Pg)} {g o n c k : Nat} (hpg : ∀ y ∈ Q, PageAt own w y.1 y.2) (hids : (idsH gh Q).Nodup) (hrow : OwnK 64 3 w (fun k => k < w.heap.size ∧ own k ≠ gh) (some ⟨g, o, none⟩) n c (Q.flatMap cPage)) (hQ : Q.length = n) (hk : k < n) :
    own g = gh ∧ g < w.heap.size ∧ RowAt own w g (o + k * 3) (Q[k]'(by omega)).1 (Q[k]'(by omega)).2.name := by
  have hlt := hrow.lt g rfl
  have hog : own g = gh := by
    by_cases e : own g = gh
    · exact e
    · exact absurd ⟨hlt.2, e⟩ hlt.1
  have hn := ids_ne hids (List.getElem_mem (l := Q) (n := k) (by omega))
  have hc := fun j (hj : j < 3) => hrow.cell (k * 3 + j) (by omega)
  have hx : ∀ j, j < 3 → (Q.flatMap cPage)[k * 3 + j]? = (cPage (Q[k]'(by omega)))[j]? := fun j hj => by
    have hl : (Q.flatMap cPage).length = n * 3 := by rw [flat_length cPage 3 cPage_len, hQ]
    have := flat_getD cPage 3 cPage_len y0 Q k j (by omega) hj
    rw [List.getD_eq_getElem?_getD, List.getElem?_eq_getElem (by rw [hl]; omega), getD_some _ _ _ (show k < Q.length by omega), List.getD_eq_getElem?_getD, List.getElem?_eq_getElem (by exact hj)] at this
    rw [List.getElem?_eq_getElem (by rw [hl]; omega), List.getElem?_eq_getElem (by exact hj)]
    exact congrArg some this
  have e0 := (hc 0 (by omega)).1
  have e1 := (hc 1 (by omega)).1
  have e2 := (hc 2 (by omega)).1
  have f1 := (hc 1 (by omega)).2
  rw [hx 0 (by omega)] at e0
  rw [hx 1 (by omega)] at e1
  rw [hx 2 (by omega)] at e2
  rw [← Nat.add_assoc] at e0 e1 e2 f1
  exact ⟨hog, hlt.2, hlt.2, e0, e1, e2, f1, by rw [hog]; exact fun e => hn.1 e.symm, by rw [hog]; exact fun e => hn.2 e.symm⟩
theorem nodup_set : ∀ (L : List Nat) (i a : Nat), L.Nodup → a ∉ L → (L.set i a).Nodup
  | [], _, _, h, _ => by simp
  | x :: L, 0, a, h, ha => by
    rw [List.set_cons_zero]
    exact List.nodup_cons.2 ⟨fun h2 => ha (List.mem_cons_of_mem _ h2), (List.nodup_cons.1 h).2⟩
  | x :: L, i + 1, a, h, ha => by
    rw [List.set_cons_succ]
    refine List.nodup_cons.2 ⟨fun h2 => ?_, nodup_set L i a (List.nodup_cons.1 h).2 fun h2 => ha (List.mem_cons_of_mem _ h2)⟩
    rcases List.mem_or_eq_of_mem_set h2 with h3 | h3
    · exact (List.nodup_cons.1 h).1 h3
    · exact ha (by rw [h3]; exact List.mem_cons_self ..)
theorem ids_set : ∀ (Q : List (Pl × Pg)) (k : Nat) (hk : k < Q.length) (y : Pl × Pg), y.1.gl = Q[k].1.gl → (Q.set k y).flatMap (fun y => [y.1.ge, y.1.gl]) = (Q.flatMap fun y => [y.1.ge, y.1.gl]).set (k * 2) y.1.ge
  | x :: Q, 0, _, y, h => by
    have h' : y.1.gl = x.1.gl := h
    simp [h']
  | x :: Q, k + 1, hk, y, h => by
    rw [List.set_cons_succ, List.flatMap_cons, List.flatMap_cons, ids_set Q k (by simpa using hk) y h, List.set_append_right _ _ (by simp; omega)]
    congr 2
    simp
    omega
theorem flat_same {α β : Type} (f : α → List β) : ∀ (Q : List α) (k : Nat) (hk : k < Q.length) (y : α), f y = f Q[k] → (Q.set k y).flatMap f = Q.flatMap f
  | x :: Q, 0, _, y, h => by
    have h' : f y = f x := h
    simp [h']
  | x :: Q, k + 1, hk, y, h => by
    rw [List.set_cons_succ, List.flatMap_cons, List.flatMap_cons, flat_same f Q k (by simpa using hk) y h]
theorem house_put {own : Nat → Nat} {w w' : World} {gh : Nat} {Q : List (Pl × Pg)} {g o n c k : Nat} (hB : Blk w gh 66 #[.slice (some ⟨g, o, none⟩) n c]) (hrow : OwnK 64 3 w (fun k => k < w.heap.size ∧ own k ≠ gh) (some ⟨g, o, none⟩) n c (Q.flatMap cPage)) (hQ : Q.length = n)
    (how : own gh = gh) (hpg : ∀ y ∈ Q, PageAt own w y.1 y.2) (hids : (idsH gh Q).Nodup) (hlt : ∀ i ∈ idsH gh Q, i < w.heap.size) (hk : k < Q.length) {p' : Pg} (hname : p'.name = Q[k].2.name) (h : PageTo own w g (o + k * 3) Q[k].1 p' w') : HouseTo own w gh Q ((Q.map (·.2)).set k p') w' := by
  obtain ⟨hog, hgl, hra⟩ := row_page (k := k) hpg hids hrow hQ (by omega)
  obtain ⟨own', x', w1, hp, hg, hxl, hcase⟩ := h
  have hne := ids_ne hids (List.getElem_mem (l := Q) (n := k) hk)
  have hgh : ¬ ofPl Q[k].1 gh := fun e => by rcases e with e | e; exact hne.1 e.symm; exact hne.2 e.symm
  have hbk : ∀ b, b < w.heap.size → own b = gh → w1.heap[b]? = w.heap[b]? := fun b hb e => hg.block b hb (by rw [e]; exact hgh)
  have hgg : g ≠ gh := fun e => hrow.ne_blk hB (by decide) (by rw [← e]; rfl)
  have hB1 : Blk w1 gh 66 #[.slice (some ⟨g, o, none⟩) n c] := by unfold Blk; rw [hbk gh hB.lt how]; exact hB
  have hown1 : ∀ b, b < w.heap.size → own b = gh → own' b = gh := fun b hb e => (hg.same b hb).trans e
  have hrow1 : OwnK 64 3 w1 (fun k => k < w1.heap.size ∧ own' k ≠ gh) (some ⟨g, o, none⟩) n c (Q.flatMap cPage) := by
    refine (hrow.keep fun b hb hq hl => ?_).weak fun b hq => ?_
    · injection hq with hq; subst hq; exact hbk g hgl hog
    · injection hq with hq; subst hq; exact fun hh => hh.2 (hown1 g hgl hog)
  have hmem : ∀ y ∈ Q.set k (x', p'), y = (x', p') ∨ ∃ i, ∃ (hi : i < Q.length), i ≠ k ∧ y = Q[i] := fun y hy => by
    obtain ⟨i, hi, rfl⟩ := List.mem_iff_getElem.1 hy
    have hi' : i < Q.length := by simpa using hi
    by_cases e : i = k
    · subst e; exact .inl (by rw [List.getElem_set_self])
    · exact .inr ⟨i, hi', e, by rw [List.getElem_set_ne (fun h => e h.symm)]⟩
  have hmap : (Q.set k (x', p')).map (·.2) = (Q.map (·.2)).set k p' := by rw [List.map_set]
  have hwide : Goes own own' (fun k => k ∈ idsH gh Q) w w1 := hg.wide fun i hi => List.mem_cons_of_mem _ (List.mem_flatMap.2 ⟨Q[k], List.getElem_mem _, by rcases hi with rfl | rfl <;> simp⟩)
  have hset := ids_set Q k hk (x', p') hxl
  have hnb : (Value.slice (some ⟨g, o, none⟩) n c).ownBlock ≠ some gh := fun e => hgg (by injection e)
  have hog1 : own' gh = gh := hown1 gh hB.lt how
  rcases hcase with ⟨rfl, hge⟩ | ⟨rfl, hge⟩
  · have hfl : (Q.set k (x', p')).flatMap cPage = Q.flatMap cPage := flat_same cPage Q k hk _ (by simp [cPage, hname, hge, hxl])
    have hid : idsH gh (Q.set k (x', p')) = idsH gh Q := by unfold idsH; rw [flat_same (fun y : Pl × Pg => [y.1.ge, y.1.gl]) Q k hk _ (by simp [hge, hxl])]
    refine ⟨own', Q.set k (x', p'), ⟨⟨some ⟨g, o, none⟩, n, c, hB1, by rw [hfl]; exact hrow1, by rw [List.length_set]; exact hQ, hnb⟩, hog1, fun y hy => ?_, by rw [hid]; exact hids⟩, hmap, hwide, fun i hi => .inl (by rw [← hid]; exact hi)⟩
    rcases hmem y hy with rfl | ⟨i, hi, hik, rfl⟩
    · exact hp
    · exact (hpg _ (List.getElem_mem _)).apart hg (ids_pair hids hi hk hik).1 (ids_pair hids hi hk hik).2
  · have hfl := flat_set cPage 3 cPage_len Q k 1 Q[k] (x', p') (.pointer (some ⟨x'.ge, 0, none⟩)) (List.getElem?_eq_getElem hk) (by omega) (by simp [cPage, hname, hxl])
    have hog' : own' g = gh := hown1 g hgl hog
    have hs := Goes.set_ (own := own') (w := w1) ⟨g, o + k * 3 + 1, none⟩ (.pointer (some ⟨x'.ge, 0, none⟩))
    have hst := hrow1.store (k * 3 + 1) (by omega) (.pointer (some ⟨x'.ge, 0, none⟩))
    rw [← hfl, ← Nat.add_assoc] at hst
    have hfresh : x'.ge ∉ idsH gh Q := fun h => by have := hlt _ h; omega
    have hid : idsH gh (Q.set k (x', p')) = gh :: (Q.flatMap fun y => [y.1.ge, y.1.gl]).set (k * 2) x'.ge := by unfold idsH; rw [hset]
    have hin : ∀ i ∈ idsH gh (Q.set k (x', p')), i ∈ idsH gh Q ∨ w.heap.size ≤ i := fun i hi => by
      rw [hid] at hi
      rcases List.mem_cons.1 hi with rfl | hi
      · exact .inl (List.mem_cons_self ..)
      · rcases List.mem_or_eq_of_mem_set hi with h | h
        · exact .inl (List.mem_cons_of_mem _ h)
        · exact .inr (by rw [h]; exact hge)
    have hlast : Goes own own' (fun k => k ∈ idsH gh Q) w (w1.setCell ⟨g, o + k * 3 + 1, none⟩ (.pointer (some ⟨x'.ge, 0, none⟩))) := ⟨hwide.os, hwide.tape, hwide.output, by rw [size_setCell]; exact hwide.size, fun b hb hn => (Below.heap_setCell w1 ⟨g, o + k * 3 + 1, none⟩ _ b (fun e => hn (by rw [e]; show own g ∈ _; rw [hog]; exact List.mem_cons_self ..))).trans (hwide.block b hb hn), hwide.same⟩
    refine ⟨own', Q.set k (x', p'), ⟨⟨some ⟨g, o, none⟩, n, c, hB1.far (by exact fun e => hgg e.symm) _, ?_, by rw [List.length_set]; exact hQ, hnb⟩, hog1, fun y hy => ?_, ?_⟩, hmap, hlast, hin⟩
    · refine hst.weak fun b hq => ?_
      injection hq with hq; subst hq; exact fun hh => hh.2 hog'
    · rcases hmem y hy with rfl | ⟨i, hi, hik, rfl⟩
      · exact hp
      · have hni := ids_ne hids (List.getElem_mem (l := Q) (n := i) hi)
        exact ((hpg _ (List.getElem_mem _)).apart hg (ids_pair hids hi hk hik).1 (ids_pair hids hi hk hik).2).apart hs (fun e => hni.1 (e.trans hog')) (fun e => hni.2 (e.trans hog'))
    · rw [hid]
      have h2 := List.nodup_cons.1 hids
      refine List.nodup_cons.2 ⟨fun h => ?_, nodup_set _ _ _ h2.2 fun h => hfresh (List.mem_cons_of_mem _ h)⟩
      rcases List.mem_or_eq_of_mem_set h with h | h
      · exact h2.1 h
      · have := hlt gh (List.mem_cons_self ..)
        omega
end Go.Proofs.YtigbnldmjafgmaaDoor

/- A leaf's crash, as a page's deed. -/
namespace Go.Proofs.YtigbnldmjafgmaaDoor
open Go.RowKit
set_option linter.unusedVariables false

/-- The records that a crash leaves. -/
noncomputable def crashI (p : Pg) (n : Int) : Nat := wholeI p.H (safeN p + n.toNat)
def crashNo (p : Pg) (n : Int) : Prop := n < 0 ∨ ((framesL (recs p.H)).length : Int) - (safeN p : Int) < n
theorem pcrash_no (own : Nat → Nat) (w : World) (x : Pl) (p : Pg) (n : Int) (hn : -9223372036854775808 ≤ n ∧ n ≤ 9223372036854775807) (h : PageAt own w x p) (hb : crashNo p n) :
    Calls Tryd.prog 44 #[.pointer (some ⟨x.gl, 0, none⟩), .int .i64 n] w fun e w' => e = .returned (.int .i64 1) ∧ LeafIn own w' x.gl x.g p.t p.H p.j ∧ Goes own own (· = x.gl) w w' ∧ Only2 x.gl x.g w w' := by
  refine (leafCrash_no x.gl x.g p.j p.t p.H n hn w h.leaf.at_ hb).mono ?_
  rintro e w' ⟨rfl, hl, ho⟩
  exact ⟨rfl, (h.leaf.goes hl ho).1, (h.leaf.goes hl ho).2, ho⟩
theorem pcrash_yes (own : Nat → Nat) (w : World) (x : Pl) (p : Pg) (n : Int) (hn : -9223372036854775808 ≤ n ∧ n ≤ 9223372036854775807) (h : PageAt own w x p) (hb : ¬ crashNo p n) :
    Calls Tryd.prog 44 #[.pointer (some ⟨x.gl, 0, none⟩), .int .i64 n] w fun e w' => e = .returned (.int .i64 0) ∧ LeafIn own w' x.gl x.g (endT ⟨#[]⟩ (p.H.take (crashI p n))) (p.H.take (crashI p n)) (crashI p n) ∧ Goes own own (· = x.gl) w w' ∧ Only2 x.gl x.g w w' := by
  have hb' := hb
  unfold crashNo at hb'
  obtain ⟨m, rfl⟩ : ∃ m : Nat, n = (m : Int) := ⟨n.toNat, by omega⟩
  have hw := wholeI_to p.H (safeN p + m)
  have hc := leafCrash_ok x.gl x.g p.j m (wholeI p.H (safeN p + m)) p.t p.H w h.leaf.at_ (by unfold safeN at hb'; omega) hw
  refine hc.mono ?_
  rintro e w' ⟨rfl, hl, ho⟩
  exact ⟨rfl, (h.leaf.goes hl ho).1, (h.leaf.goes hl ho).2, ho⟩
end Go.Proofs.YtigbnldmjafgmaaDoor

/- A page out of its house. -/
namespace Go.Proofs.YtigbnldmjafgmaaDoor
open Go.RowKit
set_option linter.unusedVariables false

theorem ids_erase_sub : ∀ (Q : List (Pl × Pg)) (k : Nat), ((Q.eraseIdx k).flatMap fun y => [y.1.ge, y.1.gl]).Sublist (Q.flatMap fun y => [y.1.ge, y.1.gl])
  | [], _ => by simp
  | x :: Q, 0 => by
    rw [List.eraseIdx_cons_zero, List.flatMap_cons]
    exact List.sublist_append_right _ _
  | x :: Q, k + 1 => by
    rw [List.eraseIdx_cons_succ, List.flatMap_cons, List.flatMap_cons]
    exact (List.Sublist.refl _).append (ids_erase_sub Q k)
theorem house_drop {own : Nat → Nat} {w w1 : World} {gh : Nat} {Q : List (Pl × Pg)} {g o n c k : Nat} (hB : Blk w gh 66 #[.slice (some ⟨g, o, none⟩) n c]) (hrow : OwnK 64 3 w (fun k => k < w.heap.size ∧ own k ≠ gh) (some ⟨g, o, none⟩) n c (Q.flatMap cPage)) (hQ : Q.length = n)
    (how : own gh = gh) (hpg : ∀ y ∈ Q, PageAt own w y.1 y.2) (hids : (idsH gh Q).Nodup) (hk : k < Q.length)
    (hrow1 : OwnK 64 3 w1 (fun k => k < w.heap.size ∧ own k ≠ gh) (some ⟨g, o, none⟩) (n - 1) c ((Q.eraseIdx k).flatMap cPage)) (hg1 : w.grownBy w1 (some g)) :
    HouseTo own w gh Q ((Q.map (·.2)).eraseIdx k) (w1.setCell ⟨gh, 0, none⟩ (.slice (some ⟨g, o, none⟩) (n - 1) c)) := by
  have hlt := hrow.lt g rfl
  have hog : own g = gh := by
    by_cases e : own g = gh
    · exact e
    · exact absurd ⟨hlt.2, e⟩ hlt.1
  have hgg : g ≠ gh := fun e => hrow.ne_blk hB (by decide) (by rw [← e]; rfl)
  have hB1 : Blk w1 gh 66 #[.slice (some ⟨g, o, none⟩) n c] := hB.grown hg1 (fun e => hgg (by injection e))
  have hG : Goes own own (· = gh) w (w1.setCell ⟨gh, 0, none⟩ (.slice (some ⟨g, o, none⟩) (n - 1) c)) := by
    refine ⟨hg1.os, hg1.tape, hg1.output, by rw [size_setCell]; exact hg1.size, fun b hb hn => ?_, fun _ _ => rfl⟩
    exact (Below.heap_setCell w1 ⟨gh, 0, none⟩ _ b (fun e => hn (by rw [e]; exact how))).trans (hg1.block b hb (fun e => hn (by injection e with e; rw [← hog, e])))
  have hnb : (Value.slice (some ⟨g, o, none⟩) (n - 1) c).ownBlock ≠ some gh := fun e => hgg (by injection e)
  have hsub : (idsH gh (Q.eraseIdx k)).Sublist (idsH gh Q) := (List.Sublist.refl [gh]).append (ids_erase_sub Q k)
  refine ⟨own, Q.eraseIdx k, ⟨⟨some ⟨g, o, none⟩, n - 1, c, hB1.set_ 0 _, ?_, by rw [List.length_eraseIdx, if_pos hk, hQ], hnb⟩, how, fun y hy => ?_, hids.sublist hsub⟩, by rw [List.eraseIdx_eq_take_drop_succ, List.eraseIdx_eq_take_drop_succ, List.map_append, List.map_take, List.map_drop], hG.wide fun i hi => by rw [hi]; exact List.mem_cons_self .., fun i hi => .inl (hsub.subset hi)⟩
  · refine (hrow1.far hnb 0 _).weak fun b hq => ?_
    injection hq with hq; subst hq; exact fun hh => hh.2 hog
  · have hyQ := List.mem_of_mem_eraseIdx hy
    exact (hpg y hyQ).apart hG (ids_ne hids hyQ).1 (ids_ne hids hyQ).2
end Go.Proofs.YtigbnldmjafgmaaDoor

/- The walk of a house's Do: deeds that are refused ahead of any page. -/
namespace Go.Proofs.YtigbnldmjafgmaaDoor
open Go.RowKit
set_option linter.unusedVariables false

set_option maxHeartbeats 1000000 in
theorem do_kind (own : Nat → Nat) (w : World) (gh : Nat) (Q : List (Pl × Pg)) (h : HouseAt own w gh Q) (d : Dd) (Ad : Option Addr) (cd : Nat) (hk : d.kind < 1 ∨ 10 < d.kind) :
    Calls Tryd.prog 12 #[.pointer (some ⟨gh, 0, none⟩), .agg (cDeed d Ad cd)] w fun e w' => e = .returned (.tuple #[.string ⟨#[]⟩, .int .i64 1]) ∧ HouseTo own w gh Q (Q.map (·.2)) w' := by
  have hba : Below w.heap.size w (w.alloc (Obj.cells (cDeed d Ad cd) 25)) := (Below.refl _ _).alloc (Nat.le_refl _) _
  have hbd := Blk.new w 25 (cDeed d Ad cd)
  have HS := Lib.hid (HouseTo.stay h hba)
  have b0 := hbd.cell 0
  unfold cDeed at b0 HS hba ⊢
  clear hbd h
  by_cases h1 : d.kind < 1
  · have q1 : decide (d.kind < 1) = true := decide_eq_true h1
    go_enter Tryd.func12, Tryd.ntmps12
    go_wp2
    go_ret2
    exact ⟨rfl, HS.out⟩
  · have q1 : decide (d.kind < 1) = false := decide_eq_false h1
    have q2 : decide (10 < d.kind) = true := decide_eq_true (by omega)
    go_enter Tryd.func12, Tryd.ntmps12
    go_wp2
    go_ret2
    exact ⟨rfl, HS.out⟩

set_option maxHeartbeats 1000000 in
theorem do_name (own : Nat → Nat) (w : World) (gh : Nat) (Q : List (Pl × Pg)) (h : HouseAt own w gh Q) (d : Dd) (Ad : Option Addr) (cd : Nat) (hk : 1 ≤ d.kind ∧ d.kind ≤ 10) (hn : nameE d.name ≠ 0) (hs : d.name.size ≤ 140737488351232) :
    Calls Tryd.prog 12 #[.pointer (some ⟨gh, 0, none⟩), .agg (cDeed d Ad cd)] w fun e w' => e = .returned (.tuple #[.string ⟨#[]⟩, .int .i64 (nameE d.name)]) ∧ HouseTo own w gh Q (Q.map (·.2)) w' := by
  have hba : Below w.heap.size w (w.alloc (Obj.cells (cDeed d Ad cd) 25)) := (Below.refl _ _).alloc (Nat.le_refl _) _
  have hbd := Blk.new w 25 (cDeed d Ad cd)
  have HS := Lib.hid (fun w' hb => HouseTo.stay (w' := w') h hb)
  have N := Lib.hid (name_any d.name hs)
  have b0 := hbd.cell 0
  have b2 := hbd.cell 2
  unfold cDeed at b0 b2 hba ⊢
  have q1 : decide (d.kind < 1) = false := decide_eq_false (by omega)
  have q2 : decide (10 < d.kind) = false := decide_eq_false (by omega)
  have q3 : (nameE d.name != 0) = true := by simpa using hn
  clear hbd h hk hn
  generalize nameE d.name = E at *
  go_enter Tryd.func12, Tryd.ntmps12
  go_wp2_with fail
  refine (N.out _).mono ?_
  rintro e w1 ⟨rfl, hb1⟩
  go_wp2
  go_ret2
  exact ⟨rfl, HS.out _ (chain hb1 hba)⟩
end Go.Proofs.YtigbnldmjafgmaaDoor

/- The walk of a house's Do: a new text, and a name that is not there. -/
namespace Go.Proofs.YtigbnldmjafgmaaDoor
open Go.RowKit
set_option linter.unusedVariables false

theorem HouseTo.before {own : Nat → Nat} {w w1 w' : World} {gh : Nat} {Q : List (Pl × Pg)} {P' : List Pg} (hb : Below w.heap.size w w1) (h : HouseTo own w1 gh Q P' w') : HouseTo own w gh Q P' w' := by
  obtain ⟨own', Q', h1, h2, h3, h4⟩ := h
  exact ⟨own', Q', h1, h2, (Goes.of_below hb).trans h3, fun i hi => (h4 i hi).imp id fun h => Nat.le_trans hb.size h⟩
theorem placeN_bd (s : ByteArray) : ∀ (P : List Pg) (k : Nat), -1 ≤ placeN s P k ∧ placeN s P k < (k : Int) + (P.length : Int) ∨ P = [] ∧ placeN s P k = -1
  | [], _ => .inr ⟨rfl, rfl⟩
  | x :: P, k => by
    left
    unfold placeN
    by_cases h : x.name = s
    · rw [if_pos h]; simp only [List.length_cons]; omega
    · rw [if_neg h]
      simp only [List.length_cons]
      rcases placeN_bd s P (k + 1) with h | ⟨rfl, h⟩
      · omega
      · rw [h]; simp; omega

set_option maxHeartbeats 1000000 in
theorem do_begin (own : Nat → Nat) (w : World) (gh : Nat) (Q : List (Pl × Pg)) (h : HouseAt own w gh Q) (hQ : Q.length ≤ 6) (d : Dd) (Ad : Option Addr) (cd : Nat) (hk : d.kind = 1) (hn : nameE d.name = 0) (hs : d.name.size ≤ 140737488351232) :
    Calls Tryd.prog 12 #[.pointer (some ⟨gh, 0, none⟩), .agg (cDeed d Ad cd)] w fun e w' => e = .returned (.tuple #[.string ⟨#[]⟩, .int .i64 (beginE (placeN d.name (Q.map (·.2)) 0) (Q.map (·.2)) d)]) ∧ HouseTo own w gh Q (beginP (placeN d.name (Q.map (·.2)) 0) (Q.map (·.2)) d) w' := by
  have hba : Below w.heap.size w (w.alloc (Obj.cells (cDeed d Ad cd) 25)) := (Below.refl _ _).alloc (Nat.le_refl _) _
  have hbd := Blk.new w 25 (cDeed d Ad cd)
  have N := Lib.hid (name_any d.name hs)
  rw [hn] at N
  have b0 := hbd.cell 0
  have b2 := hbd.cell 2
  have hpl := placeN_bd d.name (Q.map (·.2)) 0
  have hlen : (Q.map (·.2)).length = Q.length := List.length_map ..
  have hk64 : -9223372036854775808 ≤ placeN d.name (Q.map (·.2)) 0 ∧ placeN d.name (Q.map (·.2)) 0 ≤ 9223372036854775807 := by
    rcases hpl with h | ⟨_, h⟩ <;> omega
  have BG := Lib.hid (fun W (hh : HouseAt own W gh Q) => begin_any own W gh Q hh _ hk64 hQ d Ad cd)
  have HH := Lib.hid h
  unfold cDeed at b0 b2
  have qa : decide (d.kind < 1) = false := decide_eq_false (by omega)
  have qb : decide (10 < d.kind) = false := decide_eq_false (by omega)
  have q1 : (d.kind == 1) = true := by rw [hk]; rfl
  clear hpl hlen hk64 h hk hn
  go_enter Tryd.func12, Tryd.ntmps12
  unfold cDeed at hba hbd BG ⊢
  go_wp2_with fail
  refine (N.out _).mono ?_
  rintro e w1 ⟨rfl, hb1⟩
  have hbd1 := hbd.after hb1
  have hb1 := chain hb1 hba
  have hh1 := HH.out.apart (Goes.of_below (own := own) (S := fun _ => False) hb1) (fun _ _ h => h)
  obtain ⟨⟨A, n, c, hB, hrow, hQl, _⟩, _⟩ := hh1
  have d0 := hB.cell 0
  have e0 := hbd1.cell 0
  have I := Lib.hid (indexPage w.heap.size d Ad cd A n c w1.heap.size Q hQl (by omega) w1 hrow.toReads (Nat.le_refl _) hbd1)
  clear hbd N b0 b2 hrow hB hba
  go_wp2_with fail
  refine I.out.mono ?_
  rintro e w2 ⟨rfl, hb2⟩
  have hbd2 := hbd1.after hb2
  have hb2 := chain hb2 hb1
  have hh2 := HH.out.apart (Goes.of_below (own := own) (S := fun _ => False) hb2) (fun _ _ h => h)
  have c0 := hbd2.cell 0
  have c1 := hbd2.cell 1
  have c2 := hbd2.cell 2
  have c3 := hbd2.cell 3
  have c4 := hbd2.cell 4
  have BG2 := Lib.hid (BG.out w2 hh2)
  clear I hbd1 d0 e0 BG HH hh2 hbd2
  go_wp2_with fail
  refine BG2.out.mono ?_
  rintro e w3 ⟨rfl, ht⟩
  go_wp2
  go_ret2
  exact ⟨rfl, ht.before hb2⟩
set_option maxHeartbeats 1000000 in
theorem do_none (own : Nat → Nat) (w : World) (gh : Nat) (Q : List (Pl × Pg)) (h : HouseAt own w gh Q) (hQ : Q.length ≤ 6) (d : Dd) (Ad : Option Addr) (cd : Nat) (hk : 2 ≤ d.kind ∧ d.kind ≤ 10) (hp : placeN d.name (Q.map (·.2)) 0 < 0) (hn : nameE d.name = 0) (hs : d.name.size ≤ 140737488351232) :
    Calls Tryd.prog 12 #[.pointer (some ⟨gh, 0, none⟩), .agg (cDeed d Ad cd)] w fun e w' => e = .returned (.tuple #[.string ⟨#[]⟩, .int .i64 4]) ∧ HouseTo own w gh Q (Q.map (·.2)) w' := by
  have hba : Below w.heap.size w (w.alloc (Obj.cells (cDeed d Ad cd) 25)) := (Below.refl _ _).alloc (Nat.le_refl _) _
  have hbd := Blk.new w 25 (cDeed d Ad cd)
  have N := Lib.hid (name_any d.name hs)
  rw [hn] at N
  have b0 := hbd.cell 0
  have b2 := hbd.cell 2
  have hpl := placeN_bd d.name (Q.map (·.2)) 0
  have hlen : (Q.map (·.2)).length = Q.length := List.length_map ..
  have hk64 : -9223372036854775808 ≤ placeN d.name (Q.map (·.2)) 0 ∧ placeN d.name (Q.map (·.2)) 0 ≤ 9223372036854775807 := by
    rcases hpl with h | ⟨_, h⟩ <;> omega
  have HH := Lib.hid h
  unfold cDeed at b0 b2
  have qa : decide (d.kind < 1) = false := decide_eq_false (by omega)
  have qb : decide (10 < d.kind) = false := decide_eq_false (by omega)
  have q1 : (d.kind == 1) = false := by rw [beq_eq_false_iff_ne]; omega
  have q2 : decide (placeN d.name (Q.map (·.2)) 0 < 0) = true := decide_eq_true hp
  clear hpl hlen hk64 h hk hn hp
  go_enter Tryd.func12, Tryd.ntmps12
  unfold cDeed at hba hbd ⊢
  go_wp2_with fail
  refine (N.out _).mono ?_
  rintro e w1 ⟨rfl, hb1⟩
  have hbd1 := hbd.after hb1
  have hb1 := chain hb1 hba
  have hh1 := HH.out.apart (Goes.of_below (own := own) (S := fun _ => False) hb1) (fun _ _ h => h)
  obtain ⟨⟨A, n, c, hB, hrow, hQl, _⟩, _⟩ := hh1
  have d0 := hB.cell 0
  have e0 := hbd1.cell 0
  have I := Lib.hid (indexPage w.heap.size d Ad cd A n c w1.heap.size Q hQl (by omega) w1 hrow.toReads (Nat.le_refl _) hbd1)
  clear hbd N b0 b2 hrow hB hba
  go_wp2_with fail
  refine I.out.mono ?_
  rintro e w2 ⟨rfl, hb2⟩
  have hbd2 := hbd1.after hb2
  have hb2 := chain hb2 hb1
  have HT := Lib.hid (HouseTo.stay HH.out hb2)
  have c0 := hbd2.cell 0
  have c1 := hbd2.cell 1
  have c2 := hbd2.cell 2
  have c3 := hbd2.cell 3
  have c4 := hbd2.cell 4
  clear I hbd1 d0 e0 HH hbd2
  go_wp2
  go_ret2
  exact ⟨rfl, HT.out⟩
end Go.Proofs.YtigbnldmjafgmaaDoor

/- The walk of a house's Do: a page's text. -/
namespace Go.Proofs.YtigbnldmjafgmaaDoor
open Go.RowKit
set_option linter.unusedVariables false

set_option maxHeartbeats 1000000 in
theorem do_text (own : Nat → Nat) (w : World) (gh : Nat) (Q : List (Pl × Pg)) (h : HouseAt own w gh Q) (hQ : Q.length ≤ 6) (d : Dd) (Ad : Option Addr) (cd : Nat) (hk : d.kind = 8) (k : Nat) (hkl : k < Q.length) (hp : placeN d.name (Q.map (·.2)) 0 = (k : Int)) (hn : nameE d.name = 0) (hs : d.name.size ≤ 140737488351232) :
    Calls Tryd.prog 12 #[.pointer (some ⟨gh, 0, none⟩), .agg (cDeed d Ad cd)] w fun e w' => e = .returned (.tuple #[.string Q[k].2.t, .int .i64 0]) ∧ HouseTo own w gh Q (Q.map (·.2)) w' := by
  have hba : Below w.heap.size w (w.alloc (Obj.cells (cDeed d Ad cd) 25)) := (Below.refl _ _).alloc (Nat.le_refl _) _
  have hbd := Blk.new w 25 (cDeed d Ad cd)
  have N := Lib.hid (name_any d.name hs)
  rw [hn] at N
  have b0 := hbd.cell 0
  have b2 := hbd.cell 2
  have HH := Lib.hid h
  unfold cDeed at b0 b2
  have qa : decide (d.kind < 1) = false := decide_eq_false (by omega)
  have qb : decide (10 < d.kind) = false := decide_eq_false (by omega)
  have q1 : (d.kind == 1) = false := by rw [hk]; rfl
  have q2 : (d.kind == 2) = false := by rw [hk]; rfl
  have q10 : (d.kind == 10) = false := by rw [hk]; rfl
  have q3 : (d.kind == 3) = false := by rw [hk]; rfl
  have q4 : (d.kind == 4) = false := by rw [hk]; rfl
  have q5 : (d.kind == 5) = false := by rw [hk]; rfl
  have q6 : (d.kind == 6) = false := by rw [hk]; rfl
  have q7 : (d.kind == 7) = false := by rw [hk]; rfl
  have q8 : (d.kind == 8) = true := by rw [hk]; rfl
  have Hp := Lib.hid hp
  clear h hk hn hp
  go_enter Tryd.func12, Tryd.ntmps12
  unfold cDeed at hba hbd ⊢
  go_wp2_with fail
  refine (N.out _).mono ?_
  rintro e w1 ⟨rfl, hb1⟩
  have hbd1 := hbd.after hb1
  have hb1 := chain hb1 hba
  have hh1 := HH.out.apart (Goes.of_below (own := own) (S := fun _ => False) hb1) (fun _ _ h => h)
  obtain ⟨⟨A, n, c, hB, hrow, hQl, _⟩, how, hpg, hids⟩ := hh1
  have d0 := hB.cell 0
  have e0 := hbd1.cell 0
  have I := Lib.hid (indexPage w.heap.size d Ad cd A n c w1.heap.size Q hQl (by omega) w1 hrow.toReads (Nat.le_refl _) hbd1)
  rw [Hp.out] at I
  clear hbd N b0 b2 hba
  go_wp2_with fail
  refine I.out.mono ?_
  rintro e w2 ⟨rfl, hb2⟩
  have hbd2 := hbd1.after hb2
  obtain ⟨g, o, rfl, _⟩ := hrow.shape (by omega)
  obtain ⟨hog, hgl, hra⟩ := row_page (k := k) hpg hids hrow hQl (by omega)
  have hra2 := hra.after hb2
  have p1 := hra2.c1
  have hP := (hpg Q[k] (List.getElem_mem _)).apart (Goes.of_below (own := own) (S := fun _ => False) hb2) (fun h => h) (fun h => h)
  have T := Lib.hid (text_any Q[k].1.ge Q[k].2.t Q[k].2.B Q[k].2.O _ w2 hP.ed)
  have hB2 := hB.after hb2
  have g0 := hB2.cell 0
  have c0 := hbd2.cell 0
  have hkn : k < n := by omega
  have hb2 := chain hb2 hb1
  have HT := Lib.hid (HouseTo.stay HH.out hb2)
  clear I hbd1 d0 e0 HH hbd2 hB hB2 hrow hpg hids hra hra2 hP
  go_wp2_with fail
  refine T.out.mono ?_
  rintro e w3 ⟨rfl, rfl⟩
  go_wp2
  go_ret2
  exact ⟨rfl, HT.out⟩
end Go.Proofs.YtigbnldmjafgmaaDoor

/- The walk of a house's Do: a page out. -/
namespace Go.Proofs.YtigbnldmjafgmaaDoor
open Go.RowKit
set_option linter.unusedVariables false

set_option maxHeartbeats 1000000 in
theorem do_drop (own : Nat → Nat) (w : World) (gh : Nat) (Q : List (Pl × Pg)) (h : HouseAt own w gh Q) (hQ : Q.length ≤ 6) (d : Dd) (Ad : Option Addr) (cd : Nat) (hk : d.kind = 9) (k : Nat) (hkl : k < Q.length) (hp : placeN d.name (Q.map (·.2)) 0 = (k : Int)) (hn : nameE d.name = 0) (hs : d.name.size ≤ 140737488351232) :
    Calls Tryd.prog 12 #[.pointer (some ⟨gh, 0, none⟩), .agg (cDeed d Ad cd)] w fun e w' => e = .returned (.tuple #[.string ⟨#[]⟩, .int .i64 0]) ∧ HouseTo own w gh Q ((Q.map (·.2)).eraseIdx k) w' := by
  have hba : Below w.heap.size w (w.alloc (Obj.cells (cDeed d Ad cd) 25)) := (Below.refl _ _).alloc (Nat.le_refl _) _
  have hbd := Blk.new w 25 (cDeed d Ad cd)
  have N := Lib.hid (name_any d.name hs)
  rw [hn] at N
  have b0 := hbd.cell 0
  have b2 := hbd.cell 2
  have HH := Lib.hid h
  unfold cDeed at b0 b2
  have qa : decide (d.kind < 1) = false := decide_eq_false (by omega)
  have qb : decide (10 < d.kind) = false := decide_eq_false (by omega)
  have q1 : (d.kind == 1) = false := by rw [hk]; rfl
  have q2 : (d.kind == 2) = false := by rw [hk]; rfl
  have q10 : (d.kind == 10) = false := by rw [hk]; rfl
  have q3 : (d.kind == 3) = false := by rw [hk]; rfl
  have q4 : (d.kind == 4) = false := by rw [hk]; rfl
  have q5 : (d.kind == 5) = false := by rw [hk]; rfl
  have q6 : (d.kind == 6) = false := by rw [hk]; rfl
  have q7 : (d.kind == 7) = false := by rw [hk]; rfl
  have q8 : (d.kind == 8) = false := by rw [hk]; rfl
  have q9 : (d.kind == 9) = true := by rw [hk]; rfl
  have Hp := Lib.hid hp
  clear h hk hn hp
  go_enter Tryd.func12, Tryd.ntmps12
  unfold cDeed at hba hbd ⊢
  go_wp2_with fail
  refine (N.out _).mono ?_
  rintro e w1 ⟨rfl, hb1⟩
  have hbd1 := hbd.after hb1
  have hb1 := chain hb1 hba
  have hh1 := HH.out.apart (Goes.of_below (own := own) (S := fun _ => False) hb1) (fun _ _ h => h)
  obtain ⟨⟨A, n, c, hB, hrow, hQl, _⟩, how, hpg, hids⟩ := hh1
  have d0 := hB.cell 0
  have e0 := hbd1.cell 0
  have I := Lib.hid (indexPage w.heap.size d Ad cd A n c w1.heap.size Q hQl (by omega) w1 hrow.toReads (Nat.le_refl _) hbd1)
  rw [Hp.out] at I
  clear hbd N b0 b2 hba
  go_wp2_with fail
  refine I.out.mono ?_
  rintro e w2 ⟨rfl, hb2⟩
  have hbd2 := hbd1.after hb2
  obtain ⟨g, o, rfl, _⟩ := hrow.shape (by omega)
  have hh2 := HH.out.apart (Goes.of_below (own := own) (S := fun _ => False) (chain hb2 hb1)) (fun _ _ h => h)
  have hB2 := hB.after hb2
  have g0 := hB2.cell 0
  have gf := hB2.frozen 0
  have c0 := hbd2.cell 0
  have hkn : k < n := by omega
  have hrow2 : OwnK 64 3 w2 (fun k => k < w2.heap.size ∧ own k ≠ gh) (some ⟨g, o, none⟩) n c (Q.flatMap cPage) := by
    refine (hrow.after hb2).weak fun b hq hh => ?_
    have := hrow.lt b hq
    exact this.1 ⟨this.2, hh.2⟩
  have hpg2 : ∀ y ∈ Q, PageAt own w2 y.1 y.2 := hh2.page
  have D := Lib.hid (deletePage _ g o n c k Q hQl hkn (by omega) w2 hrow2)
  have hb2 := chain hb2 hb1
  clear I hbd1 d0 e0 HH hbd2 hB hrow hpg hh2
  go_wp2_with fail
  refine D.out.mono ?_
  rintro e w3 ⟨rfl, hr3, hg3⟩
  have hgg : g ≠ gh := fun e => hrow2.ne_blk hB2 (by decide) (by rw [← e]; rfl)
  have hB3 := hB2.grown hg3 (fun e => hgg (by injection e))
  have z0 := hB3.cell 0
  have zf := hB3.frozen 0
  have HT := Lib.hid (house_drop hB2 hrow2 hQl how hpg2 hids hkl hr3 hg3)
  clear D
  go_wp2
  go_ret2
  exact ⟨rfl, HT.out.before hb2⟩
end Go.Proofs.YtigbnldmjafgmaaDoor

/- The walk of a house's Do: edits of a page. -/
namespace Go.Proofs.YtigbnldmjafgmaaDoor
open Go.RowKit
set_option linter.unusedVariables false

theorem editP_name (p : Pg) (l : List Ed) : (editP p l).2.name = p.name := by
  unfold editP
  by_cases h1 : l = []
  · rw [if_pos h1]
  · rw [if_neg h1]
    by_cases h2 : leafE p.t p.H l ≠ 0
    · rw [if_pos h2]
    · rw [if_neg h2]

set_option maxHeartbeats 1000000 in
theorem do_edit (own : Nat → Nat) (w : World) (gh : Nat) (Q : List (Pl × Pg)) (h : HouseAt own w gh Q) (hQ : Q.length ≤ 6) (d : Dd) (Ad : Option Addr) (cd : Nat) (hk : d.kind = 2) (ht : Tab w) (hle : EdsAt w Ad d.edits.length cd d.edits) (k : Nat) (hkl : k < Q.length) (hp : placeN d.name (Q.map (·.2)) 0 = (k : Int)) (hn : nameE d.name = 0) (hs : d.name.size ≤ 140737488351232) :
    Calls Tryd.prog 12 #[.pointer (some ⟨gh, 0, none⟩), .agg (cDeed d Ad cd)] w fun e w' => e = .returned (.tuple #[.string ⟨#[]⟩, .int .i64 (editP Q[k].2 d.edits).1]) ∧ HouseTo own w gh Q ((Q.map (·.2)).set k (editP Q[k].2 d.edits).2) w' := by
  have hba : Below w.heap.size w (w.alloc (Obj.cells (cDeed d Ad cd) 25)) := (Below.refl _ _).alloc (Nat.le_refl _) _
  have hbd := Blk.new w 25 (cDeed d Ad cd)
  have N := Lib.hid (name_any d.name hs)
  rw [hn] at N
  have b0 := hbd.cell 0
  have b2 := hbd.cell 2
  have HH := Lib.hid h
  unfold cDeed at b0 b2
  have qa : decide (d.kind < 1) = false := decide_eq_false (by omega)
  have qb : decide (10 < d.kind) = false := decide_eq_false (by omega)
  have q1 : (d.kind == 1) = false := by rw [hk]; rfl
  have q2 : (d.kind == 2) = true := by rw [hk]; rfl
  have q10 : (d.kind == 10) = false := by rw [hk]; rfl
  have q3 : (d.kind == 3) = false := by rw [hk]; rfl
  have q4 : (d.kind == 4) = false := by rw [hk]; rfl
  have q5 : (d.kind == 5) = false := by rw [hk]; rfl
  have q6 : (d.kind == 6) = false := by rw [hk]; rfl
  have q7 : (d.kind == 7) = false := by rw [hk]; rfl
  have q8 : (d.kind == 8) = false := by rw [hk]; rfl
  have Hp := Lib.hid hp
  have Hle := Lib.hid hle
  clear h hk hn hp hle
  go_enter Tryd.func12, Tryd.ntmps12
  unfold cDeed at hba hbd ⊢
  go_wp2_with fail
  refine (N.out _).mono ?_
  rintro e w1 ⟨rfl, hb1⟩
  have hbd1 := hbd.after hb1
  have hb1 := chain hb1 hba
  have hh1 := HH.out.apart (Goes.of_below (own := own) (S := fun _ => False) hb1) (fun _ _ h => h)
  obtain ⟨⟨A, n, c, hB, hrow, hQl, _⟩, how, hpg, hids⟩ := hh1
  have d0 := hB.cell 0
  have e0 := hbd1.cell 0
  have I := Lib.hid (indexPage w.heap.size d Ad cd A n c w1.heap.size Q hQl (by omega) w1 hrow.toReads (Nat.le_refl _) hbd1)
  rw [Hp.out] at I
  clear hbd N b0 b2 hba
  go_wp2_with fail
  refine I.out.mono ?_
  rintro e w2 ⟨rfl, hb2⟩
  have hbd2 := hbd1.after hb2
  obtain ⟨g, o, rfl, _⟩ := hrow.shape (by omega)
  obtain ⟨hog, hgl, hra⟩ := row_page (k := k) hpg hids hrow hQl (by omega)
  have hra2 := hra.after hb2
  have hh2 := HH.out.apart (Goes.of_below (own := own) (S := fun _ => False) (chain hb2 hb1)) (fun _ _ h => h)
  have hpg2 : ∀ y ∈ Q, PageAt own w2 y.1 y.2 := hh2.page
  have hlt2 := hh2.lt
  have hB2 := hB.after hb2
  have g0 := hB2.cell 0
  have c0 := hbd2.cell 0
  have c4 := hbd2.cell 4
  have hkn : k < n := by omega
  have hrow2 : OwnK 64 3 w2 (fun k => k < w2.heap.size ∧ own k ≠ gh) (some ⟨g, o, none⟩) n c (Q.flatMap cPage) := by
    refine (hrow.after hb2).weak fun b hq hh => ?_
    have := hrow.lt b hq
    exact this.1 ⟨this.2, hh.2⟩
  have hb2 := chain hb2 hb1
  have E := Lib.hid (pageEdit own w2 Q[k].1 Q[k].2 g (o + k * 3) hra2 (hpg2 _ (List.getElem_mem _)) (ht.after hb2) Ad _ cd d.edits (Hle.out.after hb2))
  clear I hbd1 d0 e0 HH hbd2 hB hrow hpg hra hh2
  go_wp2_with fail
  refine E.out.mono ?_
  rintro e w3 ⟨own', rfl, hp3, hg3⟩
  have HT := Lib.hid (house_put hB2 hrow2 hQl how hpg2 hids hlt2 hkl (editP_name _ _) (PageTo.stay hp3 hg3))
  clear E
  go_wp2
  go_ret2
  exact ⟨rfl, HT.out.before hb2⟩
end Go.Proofs.YtigbnldmjafgmaaDoor

/- The walk of a house's Do: a page's steps. -/
namespace Go.Proofs.YtigbnldmjafgmaaDoor
open Go.RowKit
set_option linter.unusedVariables false

theorem backP_name (p : Pg) : (backP p).2.name = p.name := by
  unfold backP
  by_cases h1 : p.B = []
  · rw [if_pos h1]
  · rw [if_neg h1]
    by_cases h2 : fits p.H (p.B.getLastD ⟨#[]⟩)
    · rw [if_pos h2]
    · rw [if_neg h2]
theorem onP_name (p : Pg) : (onP p).2.name = p.name := by
  unfold onP
  by_cases h1 : p.O = []
  · rw [if_pos h1]
  · rw [if_neg h1]
    by_cases h2 : fits p.H (p.O.getLastD ⟨#[]⟩)
    · rw [if_pos h2]
    · rw [if_neg h2]

set_option maxHeartbeats 1000000 in
theorem do_back (own : Nat → Nat) (w : World) (gh : Nat) (Q : List (Pl × Pg)) (h : HouseAt own w gh Q) (hQ : Q.length ≤ 6) (d : Dd) (Ad : Option Addr) (cd : Nat) (hk : d.kind = 3) (k : Nat) (hkl : k < Q.length) (hp : placeN d.name (Q.map (·.2)) 0 = (k : Int)) (hn : nameE d.name = 0) (hs : d.name.size ≤ 140737488351232) :
    Calls Tryd.prog 12 #[.pointer (some ⟨gh, 0, none⟩), .agg (cDeed d Ad cd)] w fun e w' => e = .returned (.tuple #[.string ⟨#[]⟩, .int .i64 (backP Q[k].2).1]) ∧ HouseTo own w gh Q ((Q.map (·.2)).set k (backP Q[k].2).2) w' := by
  have hba : Below w.heap.size w (w.alloc (Obj.cells (cDeed d Ad cd) 25)) := (Below.refl _ _).alloc (Nat.le_refl _) _
  have hbd := Blk.new w 25 (cDeed d Ad cd)
  have N := Lib.hid (name_any d.name hs)
  rw [hn] at N
  have b0 := hbd.cell 0
  have b2 := hbd.cell 2
  have HH := Lib.hid h
  unfold cDeed at b0 b2
  have qa : decide (d.kind < 1) = false := decide_eq_false (by omega)
  have qb : decide (10 < d.kind) = false := decide_eq_false (by omega)
  have q1 : (d.kind == 1) = false := by rw [hk]; rfl
  have q2 : (d.kind == 2) = false := by rw [hk]; rfl
  have q10 : (d.kind == 10) = false := by rw [hk]; rfl
  have q3 : (d.kind == 3) = true := by rw [hk]; rfl
  have q4 : (d.kind == 4) = false := by rw [hk]; rfl
  have q5 : (d.kind == 5) = false := by rw [hk]; rfl
  have q6 : (d.kind == 6) = false := by rw [hk]; rfl
  have q7 : (d.kind == 7) = false := by rw [hk]; rfl
  have q8 : (d.kind == 8) = false := by rw [hk]; rfl
  have Hp := Lib.hid hp
  clear h hk hn hp
  go_enter Tryd.func12, Tryd.ntmps12
  unfold cDeed at hba hbd ⊢
  go_wp2_with fail
  refine (N.out _).mono ?_
  rintro e w1 ⟨rfl, hb1⟩
  have hbd1 := hbd.after hb1
  have hb1 := chain hb1 hba
  have hh1 := HH.out.apart (Goes.of_below (own := own) (S := fun _ => False) hb1) (fun _ _ h => h)
  obtain ⟨⟨A, n, c, hB, hrow, hQl, _⟩, how, hpg, hids⟩ := hh1
  have d0 := hB.cell 0
  have e0 := hbd1.cell 0
  have I := Lib.hid (indexPage w.heap.size d Ad cd A n c w1.heap.size Q hQl (by omega) w1 hrow.toReads (Nat.le_refl _) hbd1)
  rw [Hp.out] at I
  clear hbd N b0 b2 hba
  go_wp2_with fail
  refine I.out.mono ?_
  rintro e w2 ⟨rfl, hb2⟩
  have hbd2 := hbd1.after hb2
  obtain ⟨g, o, rfl, _⟩ := hrow.shape (by omega)
  obtain ⟨hog, hgl, hra⟩ := row_page (k := k) hpg hids hrow hQl (by omega)
  have hra2 := hra.after hb2
  have hh2 := HH.out.apart (Goes.of_below (own := own) (S := fun _ => False) (chain hb2 hb1)) (fun _ _ h => h)
  have hpg2 : ∀ y ∈ Q, PageAt own w2 y.1 y.2 := hh2.page
  have hlt2 := hh2.lt
  have hB2 := hB.after hb2
  have g0 := hB2.cell 0
  have c0 := hbd2.cell 0
  have c4 := hbd2.cell 4
  have hkn : k < n := by omega
  have hrow2 : OwnK 64 3 w2 (fun k => k < w2.heap.size ∧ own k ≠ gh) (some ⟨g, o, none⟩) n c (Q.flatMap cPage) := by
    refine (hrow.after hb2).weak fun b hq hh => ?_
    have := hrow.lt b hq
    exact this.1 ⟨this.2, hh.2⟩
  have hb2 := chain hb2 hb1
  have E := Lib.hid (pageBack own w2 Q[k].1 Q[k].2 g (o + k * 3) hra2 (hpg2 _ (List.getElem_mem _)))
  clear I hbd1 d0 e0 HH hbd2 hB hrow hpg hra hh2
  go_wp2_with fail
  refine E.out.mono ?_
  rintro e w3 ⟨own', rfl, hp3, hg3⟩
  have HT := Lib.hid (house_put hB2 hrow2 hQl how hpg2 hids hlt2 hkl (backP_name _) (PageTo.stay hp3 hg3))
  clear E
  go_wp2
  go_ret2
  exact ⟨rfl, HT.out.before hb2⟩

set_option maxHeartbeats 1000000 in
theorem do_on (own : Nat → Nat) (w : World) (gh : Nat) (Q : List (Pl × Pg)) (h : HouseAt own w gh Q) (hQ : Q.length ≤ 6) (d : Dd) (Ad : Option Addr) (cd : Nat) (hk : d.kind = 4) (k : Nat) (hkl : k < Q.length) (hp : placeN d.name (Q.map (·.2)) 0 = (k : Int)) (hn : nameE d.name = 0) (hs : d.name.size ≤ 140737488351232) :
    Calls Tryd.prog 12 #[.pointer (some ⟨gh, 0, none⟩), .agg (cDeed d Ad cd)] w fun e w' => e = .returned (.tuple #[.string ⟨#[]⟩, .int .i64 (onP Q[k].2).1]) ∧ HouseTo own w gh Q ((Q.map (·.2)).set k (onP Q[k].2).2) w' := by
  have hba : Below w.heap.size w (w.alloc (Obj.cells (cDeed d Ad cd) 25)) := (Below.refl _ _).alloc (Nat.le_refl _) _
  have hbd := Blk.new w 25 (cDeed d Ad cd)
  have N := Lib.hid (name_any d.name hs)
  rw [hn] at N
  have b0 := hbd.cell 0
  have b2 := hbd.cell 2
  have HH := Lib.hid h
  unfold cDeed at b0 b2
  have qa : decide (d.kind < 1) = false := decide_eq_false (by omega)
  have qb : decide (10 < d.kind) = false := decide_eq_false (by omega)
  have q1 : (d.kind == 1) = false := by rw [hk]; rfl
  have q2 : (d.kind == 2) = false := by rw [hk]; rfl
  have q10 : (d.kind == 10) = false := by rw [hk]; rfl
  have q3 : (d.kind == 3) = false := by rw [hk]; rfl
  have q4 : (d.kind == 4) = true := by rw [hk]; rfl
  have q5 : (d.kind == 5) = false := by rw [hk]; rfl
  have q6 : (d.kind == 6) = false := by rw [hk]; rfl
  have q7 : (d.kind == 7) = false := by rw [hk]; rfl
  have q8 : (d.kind == 8) = false := by rw [hk]; rfl
  have Hp := Lib.hid hp
  clear h hk hn hp
  go_enter Tryd.func12, Tryd.ntmps12
  unfold cDeed at hba hbd ⊢
  go_wp2_with fail
  refine (N.out _).mono ?_
  rintro e w1 ⟨rfl, hb1⟩
  have hbd1 := hbd.after hb1
  have hb1 := chain hb1 hba
  have hh1 := HH.out.apart (Goes.of_below (own := own) (S := fun _ => False) hb1) (fun _ _ h => h)
  obtain ⟨⟨A, n, c, hB, hrow, hQl, _⟩, how, hpg, hids⟩ := hh1
  have d0 := hB.cell 0
  have e0 := hbd1.cell 0
  have I := Lib.hid (indexPage w.heap.size d Ad cd A n c w1.heap.size Q hQl (by omega) w1 hrow.toReads (Nat.le_refl _) hbd1)
  rw [Hp.out] at I
  clear hbd N b0 b2 hba
  go_wp2_with fail
  refine I.out.mono ?_
  rintro e w2 ⟨rfl, hb2⟩
  have hbd2 := hbd1.after hb2
  obtain ⟨g, o, rfl, _⟩ := hrow.shape (by omega)
  obtain ⟨hog, hgl, hra⟩ := row_page (k := k) hpg hids hrow hQl (by omega)
  have hra2 := hra.after hb2
  have hh2 := HH.out.apart (Goes.of_below (own := own) (S := fun _ => False) (chain hb2 hb1)) (fun _ _ h => h)
  have hpg2 : ∀ y ∈ Q, PageAt own w2 y.1 y.2 := hh2.page
  have hlt2 := hh2.lt
  have hB2 := hB.after hb2
  have g0 := hB2.cell 0
  have c0 := hbd2.cell 0
  have c4 := hbd2.cell 4
  have hkn : k < n := by omega
  have hrow2 : OwnK 64 3 w2 (fun k => k < w2.heap.size ∧ own k ≠ gh) (some ⟨g, o, none⟩) n c (Q.flatMap cPage) := by
    refine (hrow.after hb2).weak fun b hq hh => ?_
    have := hrow.lt b hq
    exact this.1 ⟨this.2, hh.2⟩
  have hb2 := chain hb2 hb1
  have E := Lib.hid (pageOn own w2 Q[k].1 Q[k].2 g (o + k * 3) hra2 (hpg2 _ (List.getElem_mem _)))
  clear I hbd1 d0 e0 HH hbd2 hB hrow hpg hra hh2
  go_wp2_with fail
  refine E.out.mono ?_
  rintro e w3 ⟨own', rfl, hp3, hg3⟩
  have HT := Lib.hid (house_put hB2 hrow2 hQl how hpg2 hids hlt2 hkl (onP_name _) (PageTo.stay hp3 hg3))
  clear E
  go_wp2
  go_ret2
  exact ⟨rfl, HT.out.before hb2⟩
end Go.Proofs.YtigbnldmjafgmaaDoor

/- The walk of a house's Do: a page's pack. -/
namespace Go.Proofs.YtigbnldmjafgmaaDoor
open Go.RowKit
set_option linter.unusedVariables false

theorem packP_name (p : Pg) (n : Int) : (packP p n).2.name = p.name := by
  unfold packP
  split
  · rfl
  · split
    · rfl
    · split <;> rfl

set_option maxHeartbeats 1000000 in
theorem do_pack (own : Nat → Nat) (w : World) (gh : Nat) (Q : List (Pl × Pg)) (h : HouseAt own w gh Q) (hQ : Q.length ≤ 6) (d : Dd) (Ad : Option Addr) (cd : Nat) (hk : d.kind = 6) (k : Nat) (hkl : k < Q.length) (hp : placeN d.name (Q.map (·.2)) 0 = (k : Int)) (hn : nameE d.name = 0) (hs : d.name.size ≤ 140737488351232) :
    Calls Tryd.prog 12 #[.pointer (some ⟨gh, 0, none⟩), .agg (cDeed d Ad cd)] w fun e w' => e = .returned (.tuple #[.string ⟨#[]⟩, .int .i64 (packP Q[k].2 d.n).1]) ∧ HouseTo own w gh Q ((Q.map (·.2)).set k (packP Q[k].2 d.n).2) w' := by
  have hba : Below w.heap.size w (w.alloc (Obj.cells (cDeed d Ad cd) 25)) := (Below.refl _ _).alloc (Nat.le_refl _) _
  have hbd := Blk.new w 25 (cDeed d Ad cd)
  have N := Lib.hid (name_any d.name hs)
  rw [hn] at N
  have b0 := hbd.cell 0
  have b2 := hbd.cell 2
  have HH := Lib.hid h
  unfold cDeed at b0 b2
  have qa : decide (d.kind < 1) = false := decide_eq_false (by omega)
  have qb : decide (10 < d.kind) = false := decide_eq_false (by omega)
  have q1 : (d.kind == 1) = false := by rw [hk]; rfl
  have q2 : (d.kind == 2) = false := by rw [hk]; rfl
  have q10 : (d.kind == 10) = false := by rw [hk]; rfl
  have q3 : (d.kind == 3) = false := by rw [hk]; rfl
  have q4 : (d.kind == 4) = false := by rw [hk]; rfl
  have q5 : (d.kind == 5) = false := by rw [hk]; rfl
  have q6 : (d.kind == 6) = true := by rw [hk]; rfl
  have q7 : (d.kind == 7) = false := by rw [hk]; rfl
  have q8 : (d.kind == 8) = false := by rw [hk]; rfl
  have Hp := Lib.hid hp
  clear h hk hn hp
  go_enter Tryd.func12, Tryd.ntmps12
  unfold cDeed at hba hbd ⊢
  go_wp2_with fail
  refine (N.out _).mono ?_
  rintro e w1 ⟨rfl, hb1⟩
  have hbd1 := hbd.after hb1
  have hb1 := chain hb1 hba
  have hh1 := HH.out.apart (Goes.of_below (own := own) (S := fun _ => False) hb1) (fun _ _ h => h)
  obtain ⟨⟨A, n, c, hB, hrow, hQl, _⟩, how, hpg, hids⟩ := hh1
  have d0 := hB.cell 0
  have e0 := hbd1.cell 0
  have I := Lib.hid (indexPage w.heap.size d Ad cd A n c w1.heap.size Q hQl (by omega) w1 hrow.toReads (Nat.le_refl _) hbd1)
  rw [Hp.out] at I
  clear hbd N b0 b2 hba
  go_wp2_with fail
  refine I.out.mono ?_
  rintro e w2 ⟨rfl, hb2⟩
  have hbd2 := hbd1.after hb2
  obtain ⟨g, o, rfl, _⟩ := hrow.shape (by omega)
  obtain ⟨hog, hgl, hra⟩ := row_page (k := k) hpg hids hrow hQl (by omega)
  have hra2 := hra.after hb2
  have hh2 := HH.out.apart (Goes.of_below (own := own) (S := fun _ => False) (chain hb2 hb1)) (fun _ _ h => h)
  have hpg2 : ∀ y ∈ Q, PageAt own w2 y.1 y.2 := hh2.page
  have hlt2 := hh2.lt
  have hB2 := hB.after hb2
  have g0 := hB2.cell 0
  have c0 := hbd2.cell 0
  have c1 := hbd2.cell 1
  have hkn : k < n := by omega
  have hrow2 : OwnK 64 3 w2 (fun k => k < w2.heap.size ∧ own k ≠ gh) (some ⟨g, o, none⟩) n c (Q.flatMap cPage) := by
    refine (hrow.after hb2).weak fun b hq hh => ?_
    have := hrow.lt b hq
    exact this.1 ⟨this.2, hh.2⟩
  have hb2 := chain hb2 hb1
  have E := Lib.hid (pagePack own w2 Q[k].1 Q[k].2 g (o + k * 3) d.n hra2 (by rw [hog]; exact hB2.lt) (hpg2 _ (List.getElem_mem _)))
  clear I hbd1 d0 e0 HH hbd2 hB hrow hpg hra hh2
  go_wp2_with fail
  refine E.out.mono ?_
  rintro e w3 ⟨rfl, hp3⟩
  have HT := Lib.hid (house_put hB2 hrow2 hQl how hpg2 hids hlt2 hkl (packP_name _ _) hp3)
  clear E
  go_wp2
  go_ret2
  exact ⟨rfl, HT.out.before hb2⟩

end Go.Proofs.YtigbnldmjafgmaaDoor

/- The walk of a house's Do: a page saved. -/
namespace Go.Proofs.YtigbnldmjafgmaaDoor
open Go.RowKit
set_option linter.unusedVariables false

set_option maxHeartbeats 1000000 in
theorem do_save (own : Nat → Nat) (w : World) (gh : Nat) (Q : List (Pl × Pg)) (h : HouseAt own w gh Q) (hQ : Q.length ≤ 6) (d : Dd) (Ad : Option Addr) (cd : Nat) (hk : d.kind = 5) (k : Nat) (hkl : k < Q.length) (hp : placeN d.name (Q.map (·.2)) 0 = (k : Int)) (hn : nameE d.name = 0) (hs : d.name.size ≤ 140737488351232) :
    Calls Tryd.prog 12 #[.pointer (some ⟨gh, 0, none⟩), .agg (cDeed d Ad cd)] w fun e w' => e = .returned (.tuple #[.string ⟨#[]⟩, .int .i64 0]) ∧ HouseTo own w gh Q ((Q.map (·.2)).set k (saveP Q[k].2)) w' := by
  have hba : Below w.heap.size w (w.alloc (Obj.cells (cDeed d Ad cd) 25)) := (Below.refl _ _).alloc (Nat.le_refl _) _
  have hbd := Blk.new w 25 (cDeed d Ad cd)
  have N := Lib.hid (name_any d.name hs)
  rw [hn] at N
  have b0 := hbd.cell 0
  have b2 := hbd.cell 2
  have HH := Lib.hid h
  unfold cDeed at b0 b2
  have qa : decide (d.kind < 1) = false := decide_eq_false (by omega)
  have qb : decide (10 < d.kind) = false := decide_eq_false (by omega)
  have q1 : (d.kind == 1) = false := by rw [hk]; rfl
  have q2 : (d.kind == 2) = false := by rw [hk]; rfl
  have q10 : (d.kind == 10) = false := by rw [hk]; rfl
  have q3 : (d.kind == 3) = false := by rw [hk]; rfl
  have q4 : (d.kind == 4) = false := by rw [hk]; rfl
  have q5 : (d.kind == 5) = true := by rw [hk]; rfl
  have q6 : (d.kind == 6) = false := by rw [hk]; rfl
  have q7 : (d.kind == 7) = false := by rw [hk]; rfl
  have q8 : (d.kind == 8) = false := by rw [hk]; rfl
  have Hp := Lib.hid hp
  clear h hk hn hp
  go_enter Tryd.func12, Tryd.ntmps12
  unfold cDeed at hba hbd ⊢
  go_wp2_with fail
  refine (N.out _).mono ?_
  rintro e w1 ⟨rfl, hb1⟩
  have hbd1 := hbd.after hb1
  have hb1 := chain hb1 hba
  have hh1 := HH.out.apart (Goes.of_below (own := own) (S := fun _ => False) hb1) (fun _ _ h => h)
  obtain ⟨⟨A, n, c, hB, hrow, hQl, _⟩, how, hpg, hids⟩ := hh1
  have d0 := hB.cell 0
  have e0 := hbd1.cell 0
  have I := Lib.hid (indexPage w.heap.size d Ad cd A n c w1.heap.size Q hQl (by omega) w1 hrow.toReads (Nat.le_refl _) hbd1)
  rw [Hp.out] at I
  clear hbd N b0 b2 hba
  go_wp2_with fail
  refine I.out.mono ?_
  rintro e w2 ⟨rfl, hb2⟩
  have hbd2 := hbd1.after hb2
  obtain ⟨g, o, rfl, _⟩ := hrow.shape (by omega)
  obtain ⟨hog, hgl, hra⟩ := row_page (k := k) hpg hids hrow hQl (by omega)
  have hra2 := hra.after hb2
  have hh2 := HH.out.apart (Goes.of_below (own := own) (S := fun _ => False) (chain hb2 hb1)) (fun _ _ h => h)
  have hpg2 : ∀ y ∈ Q, PageAt own w2 y.1 y.2 := hh2.page
  have hlt2 := hh2.lt
  have hB2 := hB.after hb2
  have g0 := hB2.cell 0
  have c0 := hbd2.cell 0
  have c1 := hbd2.cell 1
  have hkn : k < n := by omega
  have hrow2 : OwnK 64 3 w2 (fun k => k < w2.heap.size ∧ own k ≠ gh) (some ⟨g, o, none⟩) n c (Q.flatMap cPage) := by
    refine (hrow.after hb2).weak fun b hq hh => ?_
    have := hrow.lt b hq
    exact this.1 ⟨this.2, hh.2⟩
  have hb2 := chain hb2 hb1
  have hP := hpg2 _ (List.getElem_mem (l := Q) (n := k) hkl)
  have p2 := hra2.c2
  have E := Lib.hid (leafSave Q[k].1.gl Q[k].1.g Q[k].2.j Q[k].2.t Q[k].2.H w2 hP.leaf.at_)
  clear I hbd1 d0 e0 HH hbd2 hB hrow hpg hra hh2
  go_wp2_with fail
  refine E.out.mono ?_
  rintro e w3 ⟨rfl, hl3, ho3⟩
  obtain ⟨hlf3, hg3⟩ := hP.leaf.goes hl3 ho3
  have hp3 : PageAt own w3 Q[k].1 (saveP Q[k].2) := ⟨hP.ed.apart hg3 hP.ne, hlf3, hP.ne, okOf (p := saveP Q[k].2) hlf3.at_ hP.ok.few hP.ok.back hP.ok.onward⟩
  have HT := Lib.hid (house_put (p' := saveP Q[k].2) hB2 hrow2 hQl how hpg2 hids hlt2 hkl rfl (PageTo.stay hp3 (hg3.wide fun k hk => .inr hk)))
  clear E
  go_wp2
  go_ret2
  exact ⟨rfl, HT.out.before hb2⟩

end Go.Proofs.YtigbnldmjafgmaaDoor

/- The walk of a house's Do: a page's crash. -/
namespace Go.Proofs.YtigbnldmjafgmaaDoor
open Go.RowKit
set_option linter.unusedVariables false

set_option maxHeartbeats 1000000 in
theorem do_crash_no (own : Nat → Nat) (w : World) (gh : Nat) (Q : List (Pl × Pg)) (h : HouseAt own w gh Q) (hQ : Q.length ≤ 6) (d : Dd) (Ad : Option Addr) (cd : Nat) (hk : d.kind = 7) (hdn : -9223372036854775808 ≤ d.n ∧ d.n ≤ 9223372036854775807) (k : Nat) (hkl : k < Q.length) (hcr : crashNo Q[k].2 d.n) (hp : placeN d.name (Q.map (·.2)) 0 = (k : Int)) (hn : nameE d.name = 0) (hs : d.name.size ≤ 140737488351232) :
    Calls Tryd.prog 12 #[.pointer (some ⟨gh, 0, none⟩), .agg (cDeed d Ad cd)] w fun e w' => e = .returned (.tuple #[.string ⟨#[]⟩, .int .i64 1]) ∧ HouseTo own w gh Q ((Q.map (·.2)).set k Q[k].2) w' := by
  have hba : Below w.heap.size w (w.alloc (Obj.cells (cDeed d Ad cd) 25)) := (Below.refl _ _).alloc (Nat.le_refl _) _
  have hbd := Blk.new w 25 (cDeed d Ad cd)
  have N := Lib.hid (name_any d.name hs)
  rw [hn] at N
  have b0 := hbd.cell 0
  have b2 := hbd.cell 2
  have HH := Lib.hid h
  unfold cDeed at b0 b2
  have qa : decide (d.kind < 1) = false := decide_eq_false (by omega)
  have qb : decide (10 < d.kind) = false := decide_eq_false (by omega)
  have q1 : (d.kind == 1) = false := by rw [hk]; rfl
  have q2 : (d.kind == 2) = false := by rw [hk]; rfl
  have q10 : (d.kind == 10) = false := by rw [hk]; rfl
  have q3 : (d.kind == 3) = false := by rw [hk]; rfl
  have q4 : (d.kind == 4) = false := by rw [hk]; rfl
  have q5 : (d.kind == 5) = false := by rw [hk]; rfl
  have q6 : (d.kind == 6) = false := by rw [hk]; rfl
  have q7 : (d.kind == 7) = true := by rw [hk]; rfl
  have q8 : (d.kind == 8) = false := by rw [hk]; rfl
  have Hp := Lib.hid hp
  clear h hk hn hp
  go_enter Tryd.func12, Tryd.ntmps12
  unfold cDeed at hba hbd ⊢
  go_wp2_with fail
  refine (N.out _).mono ?_
  rintro e w1 ⟨rfl, hb1⟩
  have hbd1 := hbd.after hb1
  have hb1 := chain hb1 hba
  have hh1 := HH.out.apart (Goes.of_below (own := own) (S := fun _ => False) hb1) (fun _ _ h => h)
  obtain ⟨⟨A, n, c, hB, hrow, hQl, _⟩, how, hpg, hids⟩ := hh1
  have d0 := hB.cell 0
  have e0 := hbd1.cell 0
  have I := Lib.hid (indexPage w.heap.size d Ad cd A n c w1.heap.size Q hQl (by omega) w1 hrow.toReads (Nat.le_refl _) hbd1)
  rw [Hp.out] at I
  clear hbd N b0 b2 hba
  go_wp2_with fail
  refine I.out.mono ?_
  rintro e w2 ⟨rfl, hb2⟩
  have hbd2 := hbd1.after hb2
  obtain ⟨g, o, rfl, _⟩ := hrow.shape (by omega)
  obtain ⟨hog, hgl, hra⟩ := row_page (k := k) hpg hids hrow hQl (by omega)
  have hra2 := hra.after hb2
  have hh2 := HH.out.apart (Goes.of_below (own := own) (S := fun _ => False) (chain hb2 hb1)) (fun _ _ h => h)
  have hpg2 : ∀ y ∈ Q, PageAt own w2 y.1 y.2 := hh2.page
  have hlt2 := hh2.lt
  have hB2 := hB.after hb2
  have g0 := hB2.cell 0
  have c0 := hbd2.cell 0
  have c1 : w2.cell? ⟨w.heap.size, 1, none⟩ = some (.int .i64 d.n) := hbd2.cell 1
  have hkn : k < n := by omega
  have hrow2 : OwnK 64 3 w2 (fun k => k < w2.heap.size ∧ own k ≠ gh) (some ⟨g, o, none⟩) n c (Q.flatMap cPage) := by
    refine (hrow.after hb2).weak fun b hq hh => ?_
    have := hrow.lt b hq
    exact this.1 ⟨this.2, hh.2⟩
  have hb2 := chain hb2 hb1
  have hP := hpg2 _ (List.getElem_mem (l := Q) (n := k) hkl)
  have p2 := hra2.c2
  have Hra := Lib.hid hra2
  have Hlt2 := Lib.hid hlt2
  have Hpg := Lib.hid hpg2
  have Hog := Lib.hid hog
  have hgh : gh < w2.heap.size := hB2.lt
  have hgl2 := hP.leaf.at_.lt
  have hglw : Q[k].1.gl < w.heap.size ∧ Q[k].1.g < w.heap.size := (HH.out.page _ (List.getElem_mem (l := Q) (n := k) hkl)).leaf.at_.lt
  have C := fun W (hb : Below w2.heap.size w2 W) => (pcrash_no own W Q[k].1 Q[k].2 d.n hdn (hP.apart (Goes.of_below (own := own) (S := fun _ => False) hb) (fun h => h) (fun h => h)) hcr).mono fun e w' h =>
    (show e = .returned (.int .i64 1) ∧ LeafIn own w' Q[k].1.gl Q[k].1.g Q[k].2.t Q[k].2.H Q[k].2.j ∧ Goes own own (· = Q[k].1.gl) W w' ∧ w'.cell? ⟨g, o + k * 3 + 2, none⟩ = some (.pointer (some ⟨Q[k].1.gl, 0, none⟩)) ∧ w'.cell? ⟨w.heap.size, 1, none⟩ = some (.int .i64 d.n) from by
      have b1 := (h.2.2.2.block g (Nat.lt_of_lt_of_le hra2.lt hb.size) (fun e => hra2.ne2 (by rw [e]; exact hP.leaf.ol)) (fun e => hra2.ne2 (by rw [e]; exact hP.leaf.og))).trans (hb.block g hra2.lt)
      have b2 := (h.2.2.2.block w.heap.size (Nat.lt_of_lt_of_le hbd2.lt hb.size) (fun e => by omega) (fun e => by omega)).trans (hb.block w.heap.size hbd2.lt)
      exact ⟨h.1, h.2.1, h.2.2.1, by rw [← p2]; simp only [World.cell?, b1], by rw [← c1]; simp only [World.cell?, b2]⟩)
  have E := Lib.hid C
  clear I hbd1 d0 e0 HH hbd2 hB hrow hpg hra hh2 C hcr hlt2 hpg2 hra2 hog hgl2 hglw
  go_wp2
  have hbw := Below.refl w2.heap.size w2
  go_region_held3 (fun w' => w'.cell? ⟨g, o + k * 3 + 2, none⟩ = some (.pointer (some ⟨Q[k].1.gl, 0, none⟩)) ∧ w'.cell? ⟨w.heap.size, 1, none⟩ = some (.int .i64 d.n)) (first | exact ⟨p2, c1⟩ | exact ⟨by assumption, by assumption⟩)
    (first | (go_at_call 44; refine (E.out _ (first_drew hbw)).mono ?_; rintro e w3 ⟨rfl, hlf3, hg3, k1, k2⟩))
  have hg3 := (Goes.of_below (own := own) (S := (· = Q[k].1.gl)) (first_drew hbw)).trans hg3
  have hp3 : PageAt own w3 Q[k].1 Q[k].2 := ⟨hP.ed.apart hg3 hP.ne, hlf3, hP.ne, hP.ok⟩
  have HT := Lib.hid (house_put (p' := Q[k].2) hB2 hrow2 hQl how Hpg.out hids Hlt2.out hkl rfl (PageTo.stay hp3 (hg3.wide fun k hk => .inr hk)))
  clear E
  go_wp2
  go_ret2
  exact ⟨rfl, HT.out.before hb2⟩

set_option maxHeartbeats 1000000 in
theorem do_crash_ok (own : Nat → Nat) (w : World) (gh : Nat) (Q : List (Pl × Pg)) (h : HouseAt own w gh Q) (hQ : Q.length ≤ 6) (d : Dd) (Ad : Option Addr) (cd : Nat) (hk : d.kind = 7) (hdn : -9223372036854775808 ≤ d.n ∧ d.n ≤ 9223372036854775807) (k : Nat) (hkl : k < Q.length) (hcr : ¬ crashNo Q[k].2 d.n) (hp : placeN d.name (Q.map (·.2)) 0 = (k : Int)) (hn : nameE d.name = 0) (hs : d.name.size ≤ 140737488351232) :
    Calls Tryd.prog 12 #[.pointer (some ⟨gh, 0, none⟩), .agg (cDeed d Ad cd)] w fun e w' => e = .returned (.tuple #[.string ⟨#[]⟩, .int .i64 0]) ∧ HouseTo own w gh Q ((Q.map (·.2)).set k (fallP Q[k].2 (crashI Q[k].2 d.n))) w' := by
  have hba : Below w.heap.size w (w.alloc (Obj.cells (cDeed d Ad cd) 25)) := (Below.refl _ _).alloc (Nat.le_refl _) _
  have hbd := Blk.new w 25 (cDeed d Ad cd)
  have N := Lib.hid (name_any d.name hs)
  rw [hn] at N
  have b0 := hbd.cell 0
  have b2 := hbd.cell 2
  have HH := Lib.hid h
  unfold cDeed at b0 b2
  have qa : decide (d.kind < 1) = false := decide_eq_false (by omega)
  have qb : decide (10 < d.kind) = false := decide_eq_false (by omega)
  have q1 : (d.kind == 1) = false := by rw [hk]; rfl
  have q2 : (d.kind == 2) = false := by rw [hk]; rfl
  have q10 : (d.kind == 10) = false := by rw [hk]; rfl
  have q3 : (d.kind == 3) = false := by rw [hk]; rfl
  have q4 : (d.kind == 4) = false := by rw [hk]; rfl
  have q5 : (d.kind == 5) = false := by rw [hk]; rfl
  have q6 : (d.kind == 6) = false := by rw [hk]; rfl
  have q7 : (d.kind == 7) = true := by rw [hk]; rfl
  have q8 : (d.kind == 8) = false := by rw [hk]; rfl
  have Hp := Lib.hid hp
  clear h hk hn hp
  go_enter Tryd.func12, Tryd.ntmps12
  unfold cDeed at hba hbd ⊢
  go_wp2_with fail
  refine (N.out _).mono ?_
  rintro e w1 ⟨rfl, hb1⟩
  have hbd1 := hbd.after hb1
  have hb1 := chain hb1 hba
  have hh1 := HH.out.apart (Goes.of_below (own := own) (S := fun _ => False) hb1) (fun _ _ h => h)
  obtain ⟨⟨A, n, c, hB, hrow, hQl, _⟩, how, hpg, hids⟩ := hh1
  have d0 := hB.cell 0
  have e0 := hbd1.cell 0
  have I := Lib.hid (indexPage w.heap.size d Ad cd A n c w1.heap.size Q hQl (by omega) w1 hrow.toReads (Nat.le_refl _) hbd1)
  rw [Hp.out] at I
  clear hbd N b0 b2 hba
  go_wp2_with fail
  refine I.out.mono ?_
  rintro e w2 ⟨rfl, hb2⟩
  have hbd2 := hbd1.after hb2
  obtain ⟨g, o, rfl, _⟩ := hrow.shape (by omega)
  obtain ⟨hog, hgl, hra⟩ := row_page (k := k) hpg hids hrow hQl (by omega)
  have hra2 := hra.after hb2
  have hh2 := HH.out.apart (Goes.of_below (own := own) (S := fun _ => False) (chain hb2 hb1)) (fun _ _ h => h)
  have hpg2 : ∀ y ∈ Q, PageAt own w2 y.1 y.2 := hh2.page
  have hlt2 := hh2.lt
  have hB2 := hB.after hb2
  have g0 := hB2.cell 0
  have c0 := hbd2.cell 0
  have c1 : w2.cell? ⟨w.heap.size, 1, none⟩ = some (.int .i64 d.n) := hbd2.cell 1
  have hkn : k < n := by omega
  have hrow2 : OwnK 64 3 w2 (fun k => k < w2.heap.size ∧ own k ≠ gh) (some ⟨g, o, none⟩) n c (Q.flatMap cPage) := by
    refine (hrow.after hb2).weak fun b hq hh => ?_
    have := hrow.lt b hq
    exact this.1 ⟨this.2, hh.2⟩
  have hb2 := chain hb2 hb1
  have hP := hpg2 _ (List.getElem_mem (l := Q) (n := k) hkl)
  have p2 := hra2.c2
  have Hra := Lib.hid hra2
  have Hlt2 := Lib.hid hlt2
  have Hpg := Lib.hid hpg2
  have Hog := Lib.hid hog
  have hgh : gh < w2.heap.size := hB2.lt
  have hgl2 := hP.leaf.at_.lt
  have hglw : Q[k].1.gl < w.heap.size ∧ Q[k].1.g < w.heap.size := (HH.out.page _ (List.getElem_mem (l := Q) (n := k) hkl)).leaf.at_.lt
  have C := fun W (hb : Below w2.heap.size w2 W) => (pcrash_yes own W Q[k].1 Q[k].2 d.n hdn (hP.apart (Goes.of_below (own := own) (S := fun _ => False) hb) (fun h => h) (fun h => h)) hcr).mono fun e w' h =>
    (show e = .returned (.int .i64 0) ∧ LeafIn own w' Q[k].1.gl Q[k].1.g (endT ⟨#[]⟩ (Q[k].2.H.take (crashI Q[k].2 d.n))) (Q[k].2.H.take (crashI Q[k].2 d.n)) (crashI Q[k].2 d.n) ∧ Goes own own (· = Q[k].1.gl) W w' ∧ w'.cell? ⟨g, o + k * 3 + 2, none⟩ = some (.pointer (some ⟨Q[k].1.gl, 0, none⟩)) ∧ w'.cell? ⟨w.heap.size, 1, none⟩ = some (.int .i64 d.n) from by
      have b1 := (h.2.2.2.block g (Nat.lt_of_lt_of_le hra2.lt hb.size) (fun e => hra2.ne2 (by rw [e]; exact hP.leaf.ol)) (fun e => hra2.ne2 (by rw [e]; exact hP.leaf.og))).trans (hb.block g hra2.lt)
      have b2 := (h.2.2.2.block w.heap.size (Nat.lt_of_lt_of_le hbd2.lt hb.size) (fun e => by omega) (fun e => by omega)).trans (hb.block w.heap.size hbd2.lt)
      exact ⟨h.1, h.2.1, h.2.2.1, by rw [← p2]; simp only [World.cell?, b1], by rw [← c1]; simp only [World.cell?, b2]⟩)
  have E := Lib.hid C
  clear I hbd1 d0 e0 HH hbd2 hB hrow hpg hra hh2 C hcr hlt2 hpg2 hra2 hog hgl2 hglw
  go_wp2
  have hbw := Below.refl w2.heap.size w2
  go_region_held3 (fun w' => w'.cell? ⟨g, o + k * 3 + 2, none⟩ = some (.pointer (some ⟨Q[k].1.gl, 0, none⟩)) ∧ w'.cell? ⟨w.heap.size, 1, none⟩ = some (.int .i64 d.n)) (first | exact ⟨p2, c1⟩ | exact ⟨by assumption, by assumption⟩)
    (first | (go_at_call 44; refine (E.out _ (first_drew hbw)).mono ?_; rintro e w3 ⟨rfl, hlf3, hg3, k1, k2⟩))
  have hg3 := (Goes.of_below (own := own) (S := (· = Q[k].1.gl)) (first_drew hbw)).trans hg3
  have hr3 := Hra.out.apart hg3 Hra.out.ne2
  have p2' := hr3.c2
  have T := Lib.hid (leafText Q[k].1.gl Q[k].1.g _ _ _ w3 hlf3.at_)
  clear E p2
  go_wp2_with fail
  refine T.out.mono ?_
  rintro e w4 ⟨rfl, rfl⟩
  have N := Lib.hid (newE_ok _ hlf3.at_.tsize (fun k => k < w3.heap.size) w3 (fun k hk => hk))
  go_wp2_with fail
  refine N.out.mono ?_
  rintro e w5 ⟨rfl, hed, hb, hsz⟩
  have hr5 := hr3.after hb
  have d1 := hr5.c1
  have f1 := hr5.f1
  have HT := Lib.hid (house_put (p' := fallP Q[k].2 (crashI Q[k].2 d.n)) hB2 hrow2 hQl how Hpg.out hids Hlt2.out hkl rfl (fresh_ed (x := Q[k].1) (x1 := Q[k].1) (p := fallP Q[k].2 (crashI Q[k].2 d.n)) rfl Hra.out.lt (by rw [Hog.out]; exact hgh) Hra.out.ne2 (hg3.wide fun k hk => .inr hk) hlf3 rfl rfl hed hb))
  clear N T p2' hr3 hr5
  go_wp2
  go_ret2
  exact ⟨rfl, HT.out.before hb2⟩

theorem do_crash (own : Nat → Nat) (w : World) (gh : Nat) (Q : List (Pl × Pg)) (h : HouseAt own w gh Q) (hQ : Q.length ≤ 6) (d : Dd) (Ad : Option Addr) (cd : Nat) (hk : d.kind = 7) (hdn : -9223372036854775808 ≤ d.n ∧ d.n ≤ 9223372036854775807) (k : Nat) (hkl : k < Q.length) (hp : placeN d.name (Q.map (·.2)) 0 = (k : Int)) (hn : nameE d.name = 0) (hs : d.name.size ≤ 140737488351232) :
    Calls Tryd.prog 12 #[.pointer (some ⟨gh, 0, none⟩), .agg (cDeed d Ad cd)] w fun e w' => e = .returned (.tuple #[.string ⟨#[]⟩, .int .i64 (crashP Q[k].2 d.n).1]) ∧ HouseTo own w gh Q ((Q.map (·.2)).set k (crashP Q[k].2 d.n).2) w' := by
  by_cases hcr : crashNo Q[k].2 d.n
  · have e : crashP Q[k].2 d.n = (1, Q[k].2) := by unfold crashP; exact if_pos hcr
    rw [e]
    exact do_crash_no own w gh Q h hQ d Ad cd hk hdn k hkl hcr hp hn hs
  · have e : crashP Q[k].2 d.n = (0, fallP Q[k].2 (crashI Q[k].2 d.n)) := by unfold crashP; exact if_neg hcr
    rw [e]
    exact do_crash_ok own w gh Q h hQ d Ad cd hk hdn k hkl hcr hp hn hs
end Go.Proofs.YtigbnldmjafgmaaDoor

/- The walk of a house's Do: a script made for a page. -/
namespace Go.Proofs.YtigbnldmjafgmaaDoor
open Go.RowKit
set_option linter.unusedVariables false

theorem made_eds (a b : ByteArray) (h : ce a b = 0) (h20 : cv a b ≤ 20) {w : World} {A : Option Addr} {c : Nat} (hr : Reads w w.heap.size A (makeE a b).length 3 ((makeE a b).flatMap cEdit)) : EdsAt w A (makeE a b).length c (makeE a b) := by
  obtain ⟨h1, h2, h3⟩ := makes_law a b h h20
  obtain ⟨g0, g1, g2, g3, g4⟩ := checkE_ok h1
  refine ⟨rfl, by omega, fun x hx => ?_, hr⟩
  obtain ⟨y1, y2, y3, y4⟩ := ok_all g1 g3 x hx
  omega
theorem make_any (a b : ByteArray) (w : World) : Calls Tryd.prog 40 #[.string a, .string b] w (ToldMake a b w) := by
  by_cases h0 : ce a b = 0
  · by_cases h20 : cv a b ≤ 20
    · obtain ⟨ha, hb⟩ := ce_zero h0
      exact make_ok a b ha hb h20 w
    · exact make_no a b w fun _ => by omega
  · exact make_no a b w fun h => absurd h h0
theorem make_refused (a b : ByteArray) (E : Int) (hE : (ce a b ≠ 0 ∧ E = 2) ∨ (ce a b = 0 ∧ 20 < cv a b ∧ E = 11)) (w : World) :
    Calls Tryd.prog 40 #[.string a, .string b] w fun e w' => e = .returned (.tuple #[.slice none 0 0, .int .i64 E]) ∧ Below w.heap.size w w' :=
  (make_any a b w).mono fun e w' ⟨hb, h⟩ => by
    rcases h with ⟨h0, h1, _⟩ | ⟨h0, h1, h⟩ | ⟨h0, h⟩
    · omega
    · rcases hE with ⟨h2, _⟩ | ⟨_, _, rfl⟩
      · exact absurd h0 h2
      · exact ⟨h, hb⟩
    · rcases hE with ⟨_, rfl⟩ | ⟨h2, _⟩
      · exact ⟨h, hb⟩
      · omega
theorem make_made (a b : ByteArray) (h0 : ce a b = 0) (h20 : cv a b ≤ 20) (w : World) :
    Calls Tryd.prog 40 #[.string a, .string b] w fun e w' => ∃ A c, e = .returned (.tuple #[.slice A (makeE a b).length c, .int .i64 0]) ∧ EdsAt w' A (makeE a b).length c (makeE a b) ∧ Below w.heap.size w w' :=
  (make_any a b w).mono fun e w' ⟨hb, h⟩ => by
    rcases h with ⟨_, _, A, c, h, hr⟩ | ⟨_, h1, _⟩ | ⟨h1, _⟩
    · exact ⟨A, c, h, made_eds a b h0 h20 hr, hb⟩
    · omega
    · omega
theorem makeP_name (p : Pg) (t : ByteArray) : (makeP p t).2.name = p.name := by
  unfold makeP
  split
  · rfl
  · split
    · rfl
    · exact editP_name _ _

set_option maxHeartbeats 1000000 in
theorem do_make_no (own : Nat → Nat) (w : World) (gh : Nat) (Q : List (Pl × Pg)) (h : HouseAt own w gh Q) (hQ : Q.length ≤ 6) (d : Dd) (Ad : Option Addr) (cd : Nat) (hk : d.kind = 10) (ht : Tab w) (E : Int) (hE0 : E ≠ 0) (k : Nat) (hkl : k < Q.length) (hE : (ce Q[k].2.t d.text ≠ 0 ∧ E = 2) ∨ (ce Q[k].2.t d.text = 0 ∧ 20 < cv Q[k].2.t d.text ∧ E = 11)) (hp : placeN d.name (Q.map (·.2)) 0 = (k : Int)) (hn : nameE d.name = 0) (hs : d.name.size ≤ 140737488351232) :
    Calls Tryd.prog 12 #[.pointer (some ⟨gh, 0, none⟩), .agg (cDeed d Ad cd)] w fun e w' => e = .returned (.tuple #[.string ⟨#[]⟩, .int .i64 E]) ∧ HouseTo own w gh Q ((Q.map (·.2)).set k Q[k].2) w' := by
  have hba : Below w.heap.size w (w.alloc (Obj.cells (cDeed d Ad cd) 25)) := (Below.refl _ _).alloc (Nat.le_refl _) _
  have hbd := Blk.new w 25 (cDeed d Ad cd)
  have N := Lib.hid (name_any d.name hs)
  rw [hn] at N
  have b0 := hbd.cell 0
  have b2 := hbd.cell 2
  have HH := Lib.hid h
  unfold cDeed at b0 b2
  have qa : decide (d.kind < 1) = false := decide_eq_false (by omega)
  have qb : decide (10 < d.kind) = false := decide_eq_false (by omega)
  have q1 : (d.kind == 1) = false := by rw [hk]; rfl
  have q2 : (d.kind == 2) = false := by rw [hk]; rfl
  have q10 : (d.kind == 10) = true := by rw [hk]; rfl
  have q3 : (d.kind == 3) = false := by rw [hk]; rfl
  have q4 : (d.kind == 4) = false := by rw [hk]; rfl
  have q5 : (d.kind == 5) = false := by rw [hk]; rfl
  have q6 : (d.kind == 6) = false := by rw [hk]; rfl
  have q7 : (d.kind == 7) = false := by rw [hk]; rfl
  have q8 : (d.kind == 8) = false := by rw [hk]; rfl
  have Hp := Lib.hid hp
  have hsame : (Q.map (·.2)).set k Q[k].2 = Q.map (·.2) := by
    have e : Q[k].2 = (Q.map (·.2))[k]'(by simpa using hkl) := by simp
    rw [e, List.set_getElem_self]
  clear h hk hn hp
  go_enter Tryd.func12, Tryd.ntmps12
  unfold cDeed at hba hbd ⊢
  go_wp2_with fail
  refine (N.out _).mono ?_
  rintro e w1 ⟨rfl, hb1⟩
  have hbd1 := hbd.after hb1
  have hb1 := chain hb1 hba
  have hh1 := HH.out.apart (Goes.of_below (own := own) (S := fun _ => False) hb1) (fun _ _ h => h)
  obtain ⟨⟨A, n, c, hB, hrow, hQl, _⟩, how, hpg, hids⟩ := hh1
  have d0 := hB.cell 0
  have e0 := hbd1.cell 0
  have I := Lib.hid (indexPage w.heap.size d Ad cd A n c w1.heap.size Q hQl (by omega) w1 hrow.toReads (Nat.le_refl _) hbd1)
  rw [Hp.out] at I
  clear hbd N b0 b2 hba
  go_wp2_with fail
  refine I.out.mono ?_
  rintro e w2 ⟨rfl, hb2⟩
  have hbd2 := hbd1.after hb2
  obtain ⟨g, o, rfl, _⟩ := hrow.shape (by omega)
  obtain ⟨hog, hgl, hra⟩ := row_page (k := k) hpg hids hrow hQl (by omega)
  have hra2 := hra.after hb2
  have hh2 := HH.out.apart (Goes.of_below (own := own) (S := fun _ => False) (chain hb2 hb1)) (fun _ _ h => h)
  have hpg2 : ∀ y ∈ Q, PageAt own w2 y.1 y.2 := hh2.page
  have hlt2 := hh2.lt
  have hB2 := hB.after hb2
  have g0 := hB2.cell 0
  have c0 := hbd2.cell 0
  have c1 := hbd2.cell 1
  have hkn : k < n := by omega
  have hrow2 : OwnK 64 3 w2 (fun k => k < w2.heap.size ∧ own k ≠ gh) (some ⟨g, o, none⟩) n c (Q.flatMap cPage) := by
    refine (hrow.after hb2).weak fun b hq hh => ?_
    have := hrow.lt b hq
    exact this.1 ⟨this.2, hh.2⟩
  have hb2 := chain hb2 hb1
  have hP := hpg2 _ (List.getElem_mem (l := Q) (n := k) hkl)
  have p1 := hra2.c1
  have c3 : w2.cell? ⟨w.heap.size, 3, none⟩ = some (.string d.text) := hbd2.cell 3
  have hP := hpg2 _ (List.getElem_mem (l := Q) (n := k) hkl)
  have T := Lib.hid (fun W (hb : Below w2.heap.size w2 W) => text_any Q[k].1.ge Q[k].2.t Q[k].2.B Q[k].2.O _ W (hP.apart (Goes.of_below (own := own) (S := fun _ => False) hb) (fun h => h) (fun h => h)).ed)
  have M := Lib.hid (fun W (hb : Below w2.heap.size w2 W) => (make_refused Q[k].2.t d.text E hE W).mono fun e w' h =>
    (show e = .returned (.tuple #[.slice none 0 0, .int .i64 E]) ∧ Below w2.heap.size w2 w' ∧ w'.cell? ⟨g, o + k * 3 + 1, none⟩ = some (.pointer (some ⟨Q[k].1.ge, 0, none⟩)) ∧ w'.cell? ⟨w.heap.size, 3, none⟩ = some (.string d.text) from by
      have hbb : Below w2.heap.size w2 w' := chain h.2 hb
      exact ⟨h.1, hbb, by rw [← p1]; simp only [World.cell?, hbb.block g hra2.lt], by rw [← c3]; simp only [World.cell?, hbb.block w.heap.size hbd2.lt]⟩))
  have qE : (E != 0) = true := by simpa using hE0
  have HS := Lib.hid (fun w' hb => HouseTo.stay (w' := w') HH.out hb)
  clear I hbd1 d0 e0 hbd2 hB hrow hpg hra hh2 hE HH
  go_wp2
  have hbw := Below.refl w2.heap.size w2
  go_region_held3 (fun w' => w'.cell? ⟨g, o + k * 3 + 1, none⟩ = some (.pointer (some ⟨Q[k].1.ge, 0, none⟩)) ∧ w'.cell? ⟨w.heap.size, 3, none⟩ = some (.string d.text)) (first | exact ⟨p1, c3⟩ | exact ⟨by assumption, by assumption⟩)
    (first
      | (go_at_call 33; refine (T.out _ (first_drew hbw)).mono ?_; rintro e w3 ⟨rfl, rfl⟩)
      | (go_at_call 40; refine (M.out _ (first_drew hbw)).mono ?_; rintro e w4 ⟨rfl, hb4, k1, k2⟩))
  go_wp2
  go_ret2
  rw [hsame]
  exact ⟨rfl, HS.out _ (chain hb4 hb2)⟩

set_option maxHeartbeats 1000000 in
theorem do_make_ok (own : Nat → Nat) (w : World) (gh : Nat) (Q : List (Pl × Pg)) (h : HouseAt own w gh Q) (hQ : Q.length ≤ 6) (d : Dd) (Ad : Option Addr) (cd : Nat) (hk : d.kind = 10) (ht : Tab w) (k : Nat) (hkl : k < Q.length) (h0 : ce Q[k].2.t d.text = 0) (h20 : cv Q[k].2.t d.text ≤ 20) (hp : placeN d.name (Q.map (·.2)) 0 = (k : Int)) (hn : nameE d.name = 0) (hs : d.name.size ≤ 140737488351232) :
    Calls Tryd.prog 12 #[.pointer (some ⟨gh, 0, none⟩), .agg (cDeed d Ad cd)] w fun e w' => e = .returned (.tuple #[.string ⟨#[]⟩, .int .i64 (editP Q[k].2 (makeE Q[k].2.t d.text)).1]) ∧ HouseTo own w gh Q ((Q.map (·.2)).set k (editP Q[k].2 (makeE Q[k].2.t d.text)).2) w' := by
  have hba : Below w.heap.size w (w.alloc (Obj.cells (cDeed d Ad cd) 25)) := (Below.refl _ _).alloc (Nat.le_refl _) _
  have hbd := Blk.new w 25 (cDeed d Ad cd)
  have N := Lib.hid (name_any d.name hs)
  rw [hn] at N
  have b0 := hbd.cell 0
  have b2 := hbd.cell 2
  have HH := Lib.hid h
  unfold cDeed at b0 b2
  have qa : decide (d.kind < 1) = false := decide_eq_false (by omega)
  have qb : decide (10 < d.kind) = false := decide_eq_false (by omega)
  have q1 : (d.kind == 1) = false := by rw [hk]; rfl
  have q2 : (d.kind == 2) = false := by rw [hk]; rfl
  have q10 : (d.kind == 10) = true := by rw [hk]; rfl
  have q3 : (d.kind == 3) = false := by rw [hk]; rfl
  have q4 : (d.kind == 4) = false := by rw [hk]; rfl
  have q5 : (d.kind == 5) = false := by rw [hk]; rfl
  have q6 : (d.kind == 6) = false := by rw [hk]; rfl
  have q7 : (d.kind == 7) = false := by rw [hk]; rfl
  have q8 : (d.kind == 8) = false := by rw [hk]; rfl
  have Hp := Lib.hid hp
  clear h hk hn hp
  go_enter Tryd.func12, Tryd.ntmps12
  unfold cDeed at hba hbd ⊢
  go_wp2_with fail
  refine (N.out _).mono ?_
  rintro e w1 ⟨rfl, hb1⟩
  have hbd1 := hbd.after hb1
  have hb1 := chain hb1 hba
  have hh1 := HH.out.apart (Goes.of_below (own := own) (S := fun _ => False) hb1) (fun _ _ h => h)
  obtain ⟨⟨A, n, c, hB, hrow, hQl, _⟩, how, hpg, hids⟩ := hh1
  have d0 := hB.cell 0
  have e0 := hbd1.cell 0
  have I := Lib.hid (indexPage w.heap.size d Ad cd A n c w1.heap.size Q hQl (by omega) w1 hrow.toReads (Nat.le_refl _) hbd1)
  rw [Hp.out] at I
  clear hbd N b0 b2 hba
  go_wp2_with fail
  refine I.out.mono ?_
  rintro e w2 ⟨rfl, hb2⟩
  have hbd2 := hbd1.after hb2
  obtain ⟨g, o, rfl, _⟩ := hrow.shape (by omega)
  obtain ⟨hog, hgl, hra⟩ := row_page (k := k) hpg hids hrow hQl (by omega)
  have hra2 := hra.after hb2
  have hh2 := HH.out.apart (Goes.of_below (own := own) (S := fun _ => False) (chain hb2 hb1)) (fun _ _ h => h)
  have hpg2 : ∀ y ∈ Q, PageAt own w2 y.1 y.2 := hh2.page
  have hlt2 := hh2.lt
  have hB2 := hB.after hb2
  have g0 := hB2.cell 0
  have c0 := hbd2.cell 0
  have c1 := hbd2.cell 1
  have hkn : k < n := by omega
  have hrow2 : OwnK 64 3 w2 (fun k => k < w2.heap.size ∧ own k ≠ gh) (some ⟨g, o, none⟩) n c (Q.flatMap cPage) := by
    refine (hrow.after hb2).weak fun b hq hh => ?_
    have := hrow.lt b hq
    exact this.1 ⟨this.2, hh.2⟩
  have hb2 := chain hb2 hb1
  have hP := hpg2 _ (List.getElem_mem (l := Q) (n := k) hkl)
  have p1 := hra2.c1
  have c3 : w2.cell? ⟨w.heap.size, 3, none⟩ = some (.string d.text) := hbd2.cell 3
  have hP := hpg2 _ (List.getElem_mem (l := Q) (n := k) hkl)
  have T := Lib.hid (fun W (hb : Below w2.heap.size w2 W) => text_any Q[k].1.ge Q[k].2.t Q[k].2.B Q[k].2.O _ W (hP.apart (Goes.of_below (own := own) (S := fun _ => False) hb) (fun h => h) (fun h => h)).ed)
  have M := Lib.hid (fun W (hb : Below w2.heap.size w2 W) => (make_made Q[k].2.t d.text h0 h20 W).mono fun e w' h =>
    (show (∃ A4 c4, e = .returned (.tuple #[.slice A4 (makeE Q[k].2.t d.text).length c4, .int .i64 0]) ∧ EdsAt w' A4 (makeE Q[k].2.t d.text).length c4 (makeE Q[k].2.t d.text)) ∧ Below w2.heap.size w2 w' ∧ w'.cell? ⟨g, o + k * 3 + 1, none⟩ = some (.pointer (some ⟨Q[k].1.ge, 0, none⟩)) ∧ w'.cell? ⟨w.heap.size, 3, none⟩ = some (.string d.text) from by
      obtain ⟨A4, c4, h⟩ := h
      have hbb : Below w2.heap.size w2 w' := chain h.2.2 hb
      exact ⟨⟨A4, c4, h.1, h.2.1⟩, hbb, by rw [← p1]; simp only [World.cell?, hbb.block g hra2.lt], by rw [← c3]; simp only [World.cell?, hbb.block w.heap.size hbd2.lt]⟩))
  have ht2 := ht.after hb2
  have Hra := Lib.hid hra2
  have Hpg := Lib.hid hpg2
  have Hlt2 := Lib.hid hlt2
  clear I hbd1 d0 e0 hbd2 hB hrow hpg hra hh2 h0 h20 HH ht hra2 hpg2 hlt2
  go_wp2
  have hbw := Below.refl w2.heap.size w2
  go_region_held3 (fun w' => w'.cell? ⟨g, o + k * 3 + 1, none⟩ = some (.pointer (some ⟨Q[k].1.ge, 0, none⟩)) ∧ w'.cell? ⟨w.heap.size, 3, none⟩ = some (.string d.text)) (first | exact ⟨p1, c3⟩ | exact ⟨by assumption, by assumption⟩)
    (first
      | (go_at_call 33; refine (T.out _ (first_drew hbw)).mono ?_; rintro e w3 ⟨rfl, rfl⟩)
      | (go_at_call 40; refine (M.out _ (first_drew hbw)).mono ?_; rintro e w4 ⟨⟨A4, c4, rfl, he4⟩, hb4, k1, k2⟩))
  have E := Lib.hid (pageEdit own w4 Q[k].1 Q[k].2 g (o + k * 3) (Hra.out.after hb4) (hP.apart (Goes.of_below (own := own) (S := fun _ => False) hb4) (fun h => h) (fun h => h)) (ht2.after hb4) A4 _ c4 _ he4)
  clear p1 c3 T M
  go_wp2_with fail
  refine E.out.mono ?_
  rintro e w5 ⟨own', rfl, hp5, hg5⟩
  have hg5 := (Goes.of_below (own := own) (S := ofPl Q[k].1) hb4).trans hg5
  have HT := Lib.hid (house_put hB2 hrow2 hQl how Hpg.out hids Hlt2.out hkl (editP_name _ _) (PageTo.stay hp5 hg5))
  clear E
  go_wp2
  go_ret2
  exact ⟨rfl, HT.out.before hb2⟩

theorem do_make (own : Nat → Nat) (w : World) (gh : Nat) (Q : List (Pl × Pg)) (h : HouseAt own w gh Q) (hQ : Q.length ≤ 6) (d : Dd) (Ad : Option Addr) (cd : Nat) (hk : d.kind = 10) (ht : Tab w) (k : Nat) (hkl : k < Q.length) (hp : placeN d.name (Q.map (·.2)) 0 = (k : Int)) (hn : nameE d.name = 0) (hs : d.name.size ≤ 140737488351232) :
    Calls Tryd.prog 12 #[.pointer (some ⟨gh, 0, none⟩), .agg (cDeed d Ad cd)] w fun e w' => e = .returned (.tuple #[.string ⟨#[]⟩, .int .i64 (makeP Q[k].2 d.text).1]) ∧ HouseTo own w gh Q ((Q.map (·.2)).set k (makeP Q[k].2 d.text).2) w' := by
  by_cases h0 : ce Q[k].2.t d.text = 0
  · by_cases h20 : 20 < cv Q[k].2.t d.text
    · have e : makeP Q[k].2 d.text = (11, Q[k].2) := by unfold makeP; rw [if_neg (by rw [h0]; decide), if_pos h20]
      rw [e]
      exact do_make_no own w gh Q h hQ d Ad cd hk ht 11 (by decide) k hkl (.inr ⟨h0, h20, rfl⟩) hp hn hs
    · have e : makeP Q[k].2 d.text = editP Q[k].2 (makeE Q[k].2.t d.text) := by unfold makeP; rw [if_neg (by rw [h0]; decide), if_neg h20]
      rw [e]
      exact do_make_ok own w gh Q h hQ d Ad cd hk ht k hkl h0 (by omega) hp hn hs
  · have e : makeP Q[k].2 d.text = (2, Q[k].2) := by unfold makeP; rw [if_pos h0]
    rw [e]
    exact do_make_no own w gh Q h hQ d Ad cd hk ht 2 (by decide) k hkl (.inl ⟨h0, rfl⟩) hp hn hs
end Go.Proofs.YtigbnldmjafgmaaDoor

/- Plain: the page of a name in a house, and what a deed makes of it. -/
namespace Go.Proofs.YtigbnldmjafgmaaDoor
open Go.RowKit
set_option linter.unusedVariables false

/-- The page of a name. -/
def pageOf (s : ByteArray) : List Pg → Option Pg
  | [] => none
  | p :: P => if p.name = s then some p else pageOf s P
/-- What holds of the pages of a house. -/
structure HOk (P : List Pg) : Prop where
  few : P.length ≤ 6
  nd : (P.map (·.name)).Nodup
  nm : ∀ p ∈ P, nameE p.name = 0
theorem HOk.nil : HOk [] := ⟨by decide, by simp, fun p hp => by cases hp⟩

theorem pageOf_none {s : ByteArray} : ∀ {P : List Pg}, pageOf s P = none → (∀ p ∈ P, p.name ≠ s) ∧ ∀ k, placeN s P k = -1
  | [], _ => ⟨fun p hp => absurd hp List.not_mem_nil, fun _ => rfl⟩
  | x :: P, h => by
    rw [pageOf] at h
    by_cases e : x.name = s
    · rw [if_pos e] at h; cases h
    · rw [if_neg e] at h
      obtain ⟨h1, h2⟩ := pageOf_none h
      refine ⟨fun p hp => ?_, fun k => by rw [placeN, if_neg e]; exact h2 _⟩
      rcases List.mem_cons.1 hp with rfl | hp
      · exact e
      · exact h1 p hp
theorem pageOf_some {s : ByteArray} {p : Pg} : ∀ {P : List Pg}, pageOf s P = some p → p.name = s ∧ ∃ i, ∃ h : i < P.length, P[i] = p ∧ ∀ k, placeN s P k = ((k + i : Nat) : Int)
  | x :: P, h => by
    rw [pageOf] at h
    by_cases e : x.name = s
    · rw [if_pos e] at h
      injection h with h
      subst h
      exact ⟨e, 0, by simp, rfl, fun k => by rw [placeN, if_pos e]; rfl⟩
    · rw [if_neg e] at h
      obtain ⟨h1, i, hi, h2, h3⟩ := pageOf_some h
      exact ⟨h1, i + 1, by simpa using hi, by simpa using h2, fun k => by rw [placeN, if_neg e, h3, show k + 1 + i = k + (i + 1) from by omega]⟩
theorem pageOf_mem {s : ByteArray} {p : Pg} {P : List Pg} (h : pageOf s P = some p) : p ∈ P := by
  obtain ⟨_, i, hi, e, _⟩ := pageOf_some h
  rw [← e]; exact List.getElem_mem _
theorem pageOf_isSome {s : ByteArray} : ∀ {P : List Pg}, (pageOf s P).isSome = true ↔ s ∈ P.map (·.name)
  | [] => by simp [pageOf]
  | x :: P => by
    rw [pageOf, List.map_cons, List.mem_cons]
    by_cases e : x.name = s
    · simp [e]
    · rw [if_neg e, pageOf_isSome]
      exact ⟨.inr, fun h => h.resolve_left fun h => e h.symm⟩
theorem pageOf_snoc (s : ByteArray) (q : Pg) : ∀ (P : List Pg), pageOf s P = none → pageOf s (P ++ [q]) = if q.name = s then some q else none
  | [], _ => rfl
  | x :: P, h => by
    rw [pageOf] at h
    by_cases e : x.name = s
    · rw [if_pos e] at h; cases h
    · rw [if_neg e] at h
      rw [List.cons_append, pageOf, if_neg e, pageOf_snoc s q P h]
theorem pageOf_snoc_ne (s : ByteArray) (q : Pg) (hq : q.name ≠ s) : ∀ (P : List Pg), pageOf s (P ++ [q]) = pageOf s P
  | [] => by
    show (if q.name = s then some q else none) = none
    rw [if_neg hq]
  | x :: P => by
    rw [List.cons_append, pageOf, pageOf, pageOf_snoc_ne s q hq P]
theorem pageOf_set_ne (s : ByteArray) (q : Pg) (hq : q.name ≠ s) : ∀ (P : List Pg) (i : Nat) (h : i < P.length), P[i].name ≠ s → pageOf s (P.set i q) = pageOf s P
  | x :: P, 0, _, h => by
    have h' : x.name ≠ s := h
    rw [List.set_cons_zero, pageOf, pageOf, if_neg hq, if_neg h']
  | x :: P, i + 1, hi, h => by
    rw [List.set_cons_succ, pageOf, pageOf, pageOf_set_ne s q hq P i (by simpa using hi) (by simpa using h)]
theorem pageOf_set (s : ByteArray) (q : Pg) (hq : q.name = s) : ∀ (P : List Pg) (i : Nat) (h : i < P.length), P[i].name = s → (P.map (·.name)).Nodup → pageOf s (P.set i q) = some q
  | x :: P, 0, _, _, _ => by rw [List.set_cons_zero, pageOf, if_pos hq]
  | x :: P, i + 1, hi, h, hn => by
    rw [List.map_cons, List.nodup_cons] at hn
    have hi' : i < P.length := by simpa using hi
    have h' : P[i].name = s := by simpa using h
    have hx : x.name ≠ s := fun e => hn.1 (by rw [e, ← h']; exact List.mem_map_of_mem (List.getElem_mem _))
    rw [List.set_cons_succ, pageOf, if_neg hx, pageOf_set s q hq P i hi' h' hn.2]
theorem pageOf_erase_ne (s : ByteArray) : ∀ (P : List Pg) (i : Nat) (h : i < P.length), P[i].name ≠ s → pageOf s (P.eraseIdx i) = pageOf s P
  | x :: P, 0, _, h => by
    have h' : x.name ≠ s := h
    rw [List.eraseIdx_cons_zero, pageOf, if_neg h']
  | x :: P, i + 1, hi, h => by
    rw [List.eraseIdx_cons_succ, pageOf, pageOf, pageOf_erase_ne s P i (by simpa using hi) (by simpa using h)]
theorem pageOf_erase (s : ByteArray) : ∀ (P : List Pg) (i : Nat) (h : i < P.length), P[i].name = s → (P.map (·.name)).Nodup → pageOf s (P.eraseIdx i) = none
  | x :: P, 0, _, h, hn => by
    have h' : x.name = s := h
    rw [List.map_cons, List.nodup_cons] at hn
    rw [List.eraseIdx_cons_zero]
    cases hp : pageOf s P with
    | none => rfl
    | some p =>
      exfalso
      apply hn.1
      rw [h', ← (pageOf_some hp).1]
      exact List.mem_map_of_mem (pageOf_mem hp)
  | x :: P, i + 1, hi, h, hn => by
    rw [List.map_cons, List.nodup_cons] at hn
    have hi' : i < P.length := by simpa using hi
    have h' : P[i].name = s := by simpa using h
    have hx : x.name ≠ s := fun e => hn.1 (by rw [e, ← h']; exact List.mem_map_of_mem (List.getElem_mem _))
    rw [List.eraseIdx_cons_succ, pageOf, if_neg hx, pageOf_erase s P i hi' h' hn.2]
theorem map_erase {α β : Type} (f : α → β) : ∀ (P : List α) (i : Nat), (P.eraseIdx i).map f = (P.map f).eraseIdx i
  | [], _ => rfl
  | x :: P, 0 => rfl
  | x :: P, i + 1 => by rw [List.eraseIdx_cons_succ, List.map_cons, List.map_cons, List.eraseIdx_cons_succ, map_erase f P i]

theorem editP_nm (p : Pg) (l : List Ed) : (editP p l).2.name = p.name := by
  unfold editP
  split
  · rfl
  · split <;> rfl
theorem backP_nm (p : Pg) : (backP p).2.name = p.name := by
  unfold backP
  split
  · rfl
  · split <;> rfl
theorem onP_nm (p : Pg) : (onP p).2.name = p.name := by
  unfold onP
  split
  · rfl
  · split <;> rfl
theorem packP_nm (p : Pg) (n : Int) : (packP p n).2.name = p.name := by
  unfold packP
  split
  · rfl
  · split
    · rfl
    · split <;> rfl
theorem crashP_nm (p : Pg) (n : Int) : (crashP p n).2.name = p.name := by
  unfold crashP
  split <;> rfl
theorem makeP_nm (p : Pg) (t : ByteArray) : (makeP p t).2.name = p.name := by
  unfold makeP
  split
  · rfl
  · split
    · rfl
    · exact editP_nm _ _
theorem pageD_nm (p : Pg) (d : Dd) : (pageD p d).2.2.name = p.name := by
  unfold pageD
  split
  · exact editP_nm _ _
  · split
    · exact makeP_nm _ _
    · split
      · exact backP_nm _
      · split
        · exact onP_nm _
        · split
          · rfl
          · split
            · exact packP_nm _ _
            · split
              · exact crashP_nm _ _
              · rfl
theorem editP_err {p : Pg} {l : List Ed} (h : (editP p l).1 ≠ 0) : (editP p l).2 = p := by
  unfold editP at h ⊢
  by_cases h1 : l = []
  · rw [if_pos h1]
  · rw [if_neg h1] at h ⊢
    by_cases h2 : leafE p.t p.H l ≠ 0
    · rw [if_pos h2]
    · rw [if_neg h2] at h; exact absurd rfl h
theorem backP_err {p : Pg} (h : (backP p).1 ≠ 0) : (backP p).2 = p := by
  unfold backP at h ⊢
  by_cases h1 : p.B = []
  · rw [if_pos h1]
  · rw [if_neg h1] at h ⊢
    by_cases h2 : fits p.H (p.B.getLastD ⟨#[]⟩)
    · rw [if_pos h2] at h; exact absurd rfl h
    · rw [if_neg h2]
theorem onP_err {p : Pg} (h : (onP p).1 ≠ 0) : (onP p).2 = p := by
  unfold onP at h ⊢
  by_cases h1 : p.O = []
  · rw [if_pos h1]
  · rw [if_neg h1] at h ⊢
    by_cases h2 : fits p.H (p.O.getLastD ⟨#[]⟩)
    · rw [if_pos h2] at h; exact absurd rfl h
    · rw [if_neg h2]
theorem packP_err {p : Pg} {n : Int} (h : (packP p n).1 ≠ 0) : (packP p n).2 = p := by
  unfold packP at h ⊢
  by_cases h1 : n < 0 ∨ 3 < n
  · rw [if_pos h1]
  · rw [if_neg h1] at h ⊢
    by_cases h2 : n = 1 ∨ n = 2
    · rw [if_pos h2] at h; exact absurd rfl h
    · rw [if_neg h2] at h ⊢
      by_cases h3 : n = 0
      · rw [if_pos h3] at h; exact absurd rfl h
      · rw [if_neg h3] at h; exact absurd rfl h
theorem crashP_err {p : Pg} {n : Int} (h : (crashP p n).1 ≠ 0) : (crashP p n).2 = p := by
  unfold crashP at h ⊢
  by_cases h1 : n < 0 ∨ ((framesL (recs p.H)).length : Int) - (safeN p : Int) < n
  · rw [if_pos h1]
  · rw [if_neg h1] at h; exact absurd rfl h
theorem makeP_err {p : Pg} {t : ByteArray} (h : (makeP p t).1 ≠ 0) : (makeP p t).2 = p := by
  unfold makeP at h ⊢
  by_cases h1 : ce p.t t ≠ 0
  · rw [if_pos h1]
  · rw [if_neg h1] at h ⊢
    by_cases h2 : 20 < cv p.t t
    · rw [if_pos h2]
    · rw [if_neg h2] at h ⊢; exact editP_err h
theorem pageD_err {p : Pg} {d : Dd} (h : (pageD p d).2.1 ≠ 0) : (pageD p d).2.2 = p := by
  unfold pageD at h ⊢
  by_cases h2 : d.kind = 2
  · simp only [if_pos h2] at h ⊢; exact editP_err h
  simp only [if_neg h2] at h ⊢
  by_cases h10 : d.kind = 10
  · simp only [if_pos h10] at h ⊢; exact makeP_err h
  simp only [if_neg h10] at h ⊢
  by_cases h3 : d.kind = 3
  · simp only [if_pos h3] at h ⊢; exact backP_err h
  simp only [if_neg h3] at h ⊢
  by_cases h4 : d.kind = 4
  · simp only [if_pos h4] at h ⊢; exact onP_err h
  simp only [if_neg h4] at h ⊢
  by_cases h5 : d.kind = 5
  · simp only [if_pos h5] at h; exact absurd rfl h
  simp only [if_neg h5] at h ⊢
  by_cases h6 : d.kind = 6
  · simp only [if_pos h6] at h ⊢; exact packP_err h
  simp only [if_neg h6] at h ⊢
  by_cases h7 : d.kind = 7
  · simp only [if_pos h7] at h ⊢; exact crashP_err h
  simp only [if_neg h7] at h ⊢

theorem pageD2 {p : Pg} {d : Dd} (h : d.kind = 2) : pageD p d = (⟨#[]⟩, editP p d.edits) := by
  unfold pageD
  rw [if_pos h]
theorem pageD10 {p : Pg} {d : Dd} (h : d.kind = 10) : pageD p d = (⟨#[]⟩, makeP p d.text) := by
  unfold pageD
  rw [if_neg (by omega), if_pos h]
theorem pageD3 {p : Pg} {d : Dd} (h : d.kind = 3) : pageD p d = (⟨#[]⟩, backP p) := by
  unfold pageD
  rw [if_neg (by omega), if_neg (by omega), if_pos h]
theorem pageD4 {p : Pg} {d : Dd} (h : d.kind = 4) : pageD p d = (⟨#[]⟩, onP p) := by
  unfold pageD
  rw [if_neg (by omega), if_neg (by omega), if_neg (by omega), if_pos h]
theorem pageD5 {p : Pg} {d : Dd} (h : d.kind = 5) : pageD p d = (⟨#[]⟩, 0, saveP p) := by
  unfold pageD
  rw [if_neg (by omega), if_neg (by omega), if_neg (by omega), if_neg (by omega), if_pos h]
theorem pageD6 {p : Pg} {d : Dd} (h : d.kind = 6) : pageD p d = (⟨#[]⟩, packP p d.n) := by
  unfold pageD
  rw [if_neg (by omega), if_neg (by omega), if_neg (by omega), if_neg (by omega), if_neg (by omega), if_pos h]
theorem pageD7 {p : Pg} {d : Dd} (h : d.kind = 7) : pageD p d = (⟨#[]⟩, crashP p d.n) := by
  unfold pageD
  rw [if_neg (by omega), if_neg (by omega), if_neg (by omega), if_neg (by omega), if_neg (by omega), if_neg (by omega), if_pos h]
theorem pageD8 {p : Pg} {d : Dd} (h : d.kind = 8) : pageD p d = (p.t, 0, p) := by
  unfold pageD
  rw [if_neg (by omega), if_neg (by omega), if_neg (by omega), if_neg (by omega), if_neg (by omega), if_neg (by omega), if_neg (by omega)]
/-- A deed at the one name that it is for. -/
noncomputable def oneD (full : Prop) [Decidable full] (o : Option Pg) (d : Dd) : ByteArray × Int × Option Pg :=
  if d.kind < 1 ∨ 10 < d.kind then (⟨#[]⟩, 1, o)
  else if nameE d.name ≠ 0 then (⟨#[]⟩, nameE d.name, o)
  else match o with
    | none => if d.kind = 1 then (if full then (⟨#[]⟩, 11, none) else if 200 < d.text.size then (⟨#[]⟩, 2, none) else (⟨#[]⟩, 0, some (newP d.name d.text))) else (⟨#[]⟩, 4, none)
    | some p => if d.kind = 1 then (⟨#[]⟩, 10, some p) else if d.kind = 9 then (⟨#[]⟩, 0, none) else ((pageD p d).1, (pageD p d).2.1, some (pageD p d).2.2)

theorem set_same {α : Type} : ∀ (P : List α) (i : Nat) (h : i < P.length), P.set i P[i] = P
  | x :: P, 0, _ => rfl
  | x :: P, i + 1, h => by rw [List.set_cons_succ, List.getElem_cons_succ, set_same P i]
theorem nodup_erase {α : Type} : ∀ (P : List α) (i : Nat), P.Nodup → (P.eraseIdx i).Nodup
  | [], _, h => h
  | x :: P, 0, h => (List.nodup_cons.1 h).2
  | x :: P, i + 1, h => by
    rw [List.nodup_cons] at h
    rw [List.eraseIdx_cons_succ, List.nodup_cons]
    exact ⟨fun hm => h.1 (List.mem_of_mem_eraseIdx hm), nodup_erase P i h.2⟩

/-- What a deed comes to. -/
structure OneTo (P : List Pg) (d : Dd) (r : ByteArray × Int × Option Pg) (R : ByteArray × Int × List Pg) : Prop where
  told : R.1 = r.1
  err : R.2.1 = r.2.1
  page : pageOf d.name R.2.2 = r.2.2
  other : ∀ s, s ≠ d.name → pageOf s R.2.2 = pageOf s P
  ok : HOk R.2.2
  same : r.2.1 ≠ 0 → R.2.2 = P
  grows : R.2.2.length ≤ P.length + 1
  stays : d.kind ≠ 1 → R.2.2.length ≤ P.length
theorem OneTo.stay {P : List Pg} {d : Dd} (hP : HOk P) {a : ByteArray} {e : Int} {o : Option Pg} (ho : pageOf d.name P = o) : OneTo P d (a, e, o) (a, e, P) :=
  ⟨rfl, rfl, ho, fun _ _ => rfl, hP, fun _ => rfl, Nat.le_succ _, fun _ => Nat.le_refl _⟩
theorem house_one {P : List Pg} (hP : HOk P) (d : Dd) : OneTo P d (oneD (P.length = 6) (pageOf d.name P) d) (houseD P d) := by
  unfold oneD houseD
  by_cases h1 : d.kind < 1 ∨ 10 < d.kind
  · rw [if_pos h1, if_pos h1]; exact OneTo.stay hP rfl
  rw [if_neg h1, if_neg h1]
  by_cases h2 : nameE d.name ≠ 0
  · rw [if_pos h2, if_pos h2]; exact OneTo.stay hP rfl
  rw [if_neg h2, if_neg h2]
  have hn0 : nameE d.name = 0 := by simpa using h2
  cases ho : pageOf d.name P with
  | none =>
    obtain ⟨hne, hpl⟩ := pageOf_none ho
    rw [hpl 0]
    show OneTo P d (if d.kind = 1 then _ else _) _
    by_cases hk : d.kind = 1
    · rw [if_pos hk, if_pos hk, if_neg (show ¬ ((0 : Int) ≤ -1) by decide)]
      by_cases h6 : P.length = 6
      · rw [if_pos h6, if_pos h6]; exact OneTo.stay hP ho
      rw [if_neg h6, if_neg h6]
      by_cases hz : 200 < d.text.size
      · rw [if_pos hz, if_pos hz]; exact OneTo.stay hP ho
      rw [if_neg hz, if_neg hz]
      refine ⟨rfl, rfl, ?_, fun s hs => pageOf_snoc_ne s _ (fun e => hs e.symm) P, ⟨?_, ?_, ?_⟩, fun h => absurd rfl h, ?_, fun h => absurd hk h⟩
      · show pageOf d.name (P ++ [newP d.name d.text]) = _
        rw [pageOf_snoc _ _ _ ho, if_pos (show (newP d.name d.text).name = d.name from rfl)]
      · have := hP.few
        show (P ++ [newP d.name d.text]).length ≤ 6
        rw [List.length_append, List.length_singleton]; omega
      · show ((P ++ [newP d.name d.text]).map (·.name)).Nodup
        rw [List.map_append, List.nodup_append]
        refine ⟨hP.nd, by simp, fun a ha b hb => ?_⟩
        obtain ⟨p, hp, rfl⟩ := List.mem_map.1 ha
        have hb' : b = d.name := by simpa [newP] using hb
        rw [hb']
        exact hne p hp
      · intro p hp
        rcases List.mem_append.1 hp with hp | hp
        · exact hP.nm p hp
        · rw [List.mem_singleton.1 hp]; exact hn0
      · show (P ++ [newP d.name d.text]).length ≤ _
        rw [List.length_append, List.length_singleton]
        exact Nat.le_refl _
    · rw [if_neg hk, if_neg hk, if_pos (show (-1 : Int) < 0 by decide)]; exact OneTo.stay hP ho
  | some p =>
    obtain ⟨hnm, i, hi, hpi, hpl⟩ := pageOf_some ho
    have hpl0 : placeN d.name P 0 = (i : Int) := by rw [hpl 0, Nat.zero_add]
    rw [hpl0]
    show OneTo P d (if d.kind = 1 then _ else _) _
    have hin : P[i].name = d.name := by rw [hpi]; exact hnm
    by_cases hk : d.kind = 1
    · rw [if_pos hk, if_pos hk, if_pos (show (0 : Int) ≤ (i : Int) by omega)]; exact OneTo.stay hP ho
    rw [if_neg hk, if_neg hk, if_neg (show ¬ ((i : Int) < 0) by omega)]
    by_cases h9 : d.kind = 9
    · rw [if_pos h9, if_pos h9, Int.toNat_natCast]
      refine ⟨rfl, rfl, pageOf_erase _ P i hi hin hP.nd, fun s hs => pageOf_erase_ne s P i hi (fun e => hs (by rw [← e, hin])), ⟨?_, ?_, fun q hq => hP.nm q (List.mem_of_mem_eraseIdx hq)⟩, fun h => absurd rfl h, ?_, fun _ => ?_⟩
      · exact Nat.le_trans (List.length_eraseIdx_le ..) hP.few
      · show ((P.eraseIdx i).map (·.name)).Nodup
        rw [map_erase]; exact nodup_erase _ _ hP.nd
      · exact Nat.le_succ_of_le (List.length_eraseIdx_le ..)
      · exact List.length_eraseIdx_le ..
    rw [if_neg h9, if_neg h9, Int.toNat_natCast]
    have hg : P.getD i pg0 = p := by rw [List.getD_eq_getElem?_getD, List.getElem?_eq_getElem hi, hpi]; rfl
    rw [hg]
    have hpn : (pageD p d).2.2.name = d.name := by rw [pageD_nm, hnm]
    refine ⟨rfl, rfl, pageOf_set _ _ hpn P i hi hin hP.nd, fun s hs => pageOf_set_ne s _ (fun e => hs (by rw [← e, hpn])) P i hi (fun e => hs (by rw [← e, hin])), ⟨?_, ?_, ?_⟩, fun h => ?_, ?_, fun _ => ?_⟩
    · show (P.set i _).length ≤ 6
      rw [List.length_set]; exact hP.few
    · show ((P.set i _).map (·.name)).Nodup
      rw [List.map_set, hpn, ← hin, show P[i].name = (P.map (·.name))[i]'(by simpa using hi) by simp, set_same]
      exact hP.nd
    · intro q hq
      rcases List.mem_or_eq_of_mem_set hq with h | h
      · exact hP.nm q h
      · rw [h, hpn]; exact hn0
    · show P.set i (pageD p d).2.2 = P
      rw [pageD_err h, ← hpi, set_same]
    · show (P.set i _).length ≤ _
      rw [List.length_set]; omega
    · show (P.set i _).length ≤ _
      rw [List.length_set]; exact Nat.le_refl _
end Go.Proofs.YtigbnldmjafgmaaDoor

/- The walk of a house's Do, whatever the deed is. -/
namespace Go.Proofs.YtigbnldmjafgmaaDoor
open Go.RowKit
set_option linter.unusedVariables false

/-- A deed whose edits lie there. -/
structure DeedAt (w : World) (d : Dd) (Ad : Option Addr) (cd : Nat) : Prop where
  eds : EdsAt w Ad d.edits.length cd d.edits
  name : d.name.size ≤ 140737488351232
  num : -9223372036854775808 ≤ d.n ∧ d.n ≤ 9223372036854775807
theorem DeedAt.after {w w' : World} {d : Dd} {Ad : Option Addr} {cd : Nat} (h : DeedAt w d Ad cd) (hb : Below w.heap.size w w') : DeedAt w' d Ad cd := ⟨h.eds.after hb, h.name, h.num⟩

theorem houseD_set {P : List Pg} {d : Dd} {k : Nat} (hk : 2 ≤ d.kind ∧ d.kind ≤ 10) (h9 : d.kind ≠ 9) (hn : nameE d.name = 0) (hp : placeN d.name P 0 = (k : Int)) {p : Pg} (hP : P[k]? = some p) : houseD P d = ((pageD p d).1, (pageD p d).2.1, P.set k (pageD p d).2.2) := by
  have hg : P.getD k pg0 = p := by rw [List.getD_eq_getElem?_getD, hP]; rfl
  unfold houseD
  rw [if_neg (by omega), if_neg (by rw [hn]; decide), if_neg (by omega), hp, if_neg (by omega), if_neg h9, Int.toNat_natCast, hg]
theorem do_any (own : Nat → Nat) (w : World) (gh : Nat) (Q : List (Pl × Pg)) (h : HouseAt own w gh Q) (hQ : Q.length ≤ 6) (ht : Tab w) (d : Dd) (Ad : Option Addr) (cd : Nat) (hd : DeedAt w d Ad cd) :
    Calls Tryd.prog 12 #[.pointer (some ⟨gh, 0, none⟩), .agg (cDeed d Ad cd)] w fun e w' => e = .returned (.tuple #[.string (houseD (Q.map (·.2)) d).1, .int .i64 (houseD (Q.map (·.2)) d).2.1]) ∧ HouseTo own w gh Q (houseD (Q.map (·.2)) d).2.2 w' := by
  by_cases hk : d.kind < 1 ∨ 10 < d.kind
  · have e : houseD (Q.map (·.2)) d = (⟨#[]⟩, 1, Q.map (·.2)) := by unfold houseD; rw [if_pos hk]
    rw [e]
    exact do_kind own w gh Q h d Ad cd hk
  have hk' : 1 ≤ d.kind ∧ d.kind ≤ 10 := by omega
  by_cases hn : nameE d.name ≠ 0
  · have e : houseD (Q.map (·.2)) d = (⟨#[]⟩, nameE d.name, Q.map (·.2)) := by unfold houseD; rw [if_neg hk, if_pos hn]
    rw [e]
    exact do_name own w gh Q h d Ad cd hk' hn hd.name
  have hn0 : nameE d.name = 0 := by simpa using hn
  by_cases h1 : d.kind = 1
  · have e : houseD (Q.map (·.2)) d = (⟨#[]⟩, beginE (placeN d.name (Q.map (·.2)) 0) (Q.map (·.2)) d, beginP (placeN d.name (Q.map (·.2)) 0) (Q.map (·.2)) d) := by
      unfold houseD beginP beginE
      rw [if_neg hk, if_neg hn, if_pos h1]
      by_cases c1 : 0 ≤ placeN d.name (Q.map (·.2)) 0
      · rw [if_pos c1, if_pos c1, if_neg (by decide)]
      rw [if_neg c1, if_neg c1]
      by_cases c2 : (Q.map (·.2)).length = 6
      · rw [if_pos c2, if_pos c2, if_neg (by decide)]
      rw [if_neg c2, if_neg c2]
      by_cases c3 : 200 < d.text.size
      · rw [if_pos c3, if_pos c3, if_neg (by decide)]
      rw [if_neg c3, if_neg c3, if_pos rfl]
    rw [e]
    exact do_begin own w gh Q h hQ d Ad cd h1 hn0 hd.name
  have hk2 : 2 ≤ d.kind ∧ d.kind ≤ 10 := by omega
  by_cases hp : placeN d.name (Q.map (·.2)) 0 < 0
  · have e : houseD (Q.map (·.2)) d = (⟨#[]⟩, 4, Q.map (·.2)) := by unfold houseD; rw [if_neg hk, if_neg hn, if_neg h1, if_pos hp]
    rw [e]
    exact do_none own w gh Q h hQ d Ad cd hk2 hp hn0 hd.name
  obtain ⟨k, hkp⟩ : ∃ k : Nat, placeN d.name (Q.map (·.2)) 0 = (k : Int) := ⟨(placeN d.name (Q.map (·.2)) 0).toNat, by omega⟩
  have hkl : k < Q.length := by
    rcases placeN_bd d.name (Q.map (·.2)) 0 with hb | ⟨_, hb⟩
    · rw [hkp, List.length_map] at hb; omega
    · omega
  have hPk : (Q.map (·.2))[k]? = some Q[k].2 := by rw [List.getElem?_map, List.getElem?_eq_getElem hkl]; rfl
  by_cases h9 : d.kind = 9
  · have e : houseD (Q.map (·.2)) d = (⟨#[]⟩, 0, (Q.map (·.2)).eraseIdx k) := by unfold houseD; rw [if_neg hk, if_neg hn, if_neg h1, if_neg hp, if_pos h9, hkp, Int.toNat_natCast]
    rw [e]
    exact do_drop own w gh Q h hQ d Ad cd h9 k hkl hkp hn0 hd.name
  rw [houseD_set hk2 h9 hn0 hkp hPk]
  unfold pageD
  by_cases k2 : d.kind = 2
  · simp only [if_pos k2]; exact do_edit own w gh Q h hQ d Ad cd k2 ht hd.eds k hkl hkp hn0 hd.name
  simp only [if_neg k2]
  by_cases k10 : d.kind = 10
  · simp only [if_pos k10]; exact do_make own w gh Q h hQ d Ad cd k10 ht k hkl hkp hn0 hd.name
  simp only [if_neg k10]
  by_cases k3 : d.kind = 3
  · simp only [if_pos k3]; exact do_back own w gh Q h hQ d Ad cd k3 k hkl hkp hn0 hd.name
  simp only [if_neg k3]
  by_cases k4 : d.kind = 4
  · simp only [if_pos k4]; exact do_on own w gh Q h hQ d Ad cd k4 k hkl hkp hn0 hd.name
  simp only [if_neg k4]
  by_cases k5 : d.kind = 5
  · simp only [if_pos k5]; exact do_save own w gh Q h hQ d Ad cd k5 k hkl hkp hn0 hd.name
  simp only [if_neg k5]
  by_cases k6 : d.kind = 6
  · simp only [if_pos k6]; exact do_pack own w gh Q h hQ d Ad cd k6 k hkl hkp hn0 hd.name
  simp only [if_neg k6]
  by_cases k7 : d.kind = 7
  · simp only [if_pos k7]; exact do_crash own w gh Q h hQ d Ad cd k7 hd.num k hkl hkp hn0 hd.name
  simp only [if_neg k7]
  have k8 : d.kind = 8 := by omega
  have hs : (Q.map (·.2)).set k Q[k].2 = Q.map (·.2) := by
    have e : Q[k].2 = (Q.map (·.2))[k]'(by simpa using hkl) := by simp
    rw [e, set_same]
  rw [hs]
  exact do_text own w gh Q h hQ d Ad cd k8 k hkl hkp hn0 hd.name
end Go.Proofs.YtigbnldmjafgmaaDoor

/- Houses within a law: what stays, and who owns what. -/
namespace Go.Proofs.YtigbnldmjafgmaaDoor
open Go.RowKit
set_option linter.unusedVariables false

/-- Each owner is a block that is there. -/
def Based (own : Nat → Nat) (w : World) : Prop := ∀ k, k < w.heap.size → own k < w.heap.size
theorem EdIn.reown {own own2 : Nat → Nat} {w : World} {ge : Nat} {t : ByteArray} {B O : List ByteArray} (h : EdIn own w ge t B O) (hr : ∀ k, k < w.heap.size → own k = ge → own2 k = ge) : EdIn own2 w ge t B O :=
  EdAt.weak h fun k ⟨h1, h2⟩ => .inl ⟨h1, fun e => h2 (hr k h1 e)⟩
theorem PageAt.reown {own own2 : Nat → Nat} {w : World} {x : Pl} {p : Pg} (h : PageAt own w x p) (h1 : ∀ k, k < w.heap.size → own k = x.ge → own2 k = x.ge) (h2 : ∀ k, k < w.heap.size → own k = x.gl → own2 k = x.gl) : PageAt own2 w x p :=
  ⟨h.ed.reown h1, ⟨h.leaf.at_, h2 _ h.leaf.at_.lt.1 h.leaf.ol, h2 _ h.leaf.at_.lt.2 h.leaf.og⟩, h.ne, h.ok⟩
theorem HouseAt.reown {own own2 : Nat → Nat} {w : World} {gh : Nat} {Q : List (Pl × Pg)} (h : HouseAt own w gh Q) (hr : ∀ k, k < w.heap.size → own k ∈ idsH gh Q → own2 k = own k) : HouseAt own2 w gh Q := by
  obtain ⟨⟨A, n, c, h1, h2, h3, h3a⟩, h4, h5, h6⟩ := h
  have key : ∀ i ∈ idsH gh Q, ∀ k, k < w.heap.size → own k = i → own2 k = i := fun i hi k hk e => by rw [hr k hk (by rw [e]; exact hi), e]
  refine ⟨⟨A, n, c, h1, h2.weak fun k hk hq => ?_, h3, h3a⟩, key gh (List.mem_cons_self ..) gh h1.lt h4, fun y hy => (h5 y hy).reown (key _ ?_) (key _ ?_), h6⟩
  · have := h2.lt k hk
    exact this.1 ⟨this.2, fun e => hq.2 (key gh (List.mem_cons_self ..) k this.2 e)⟩
  · exact List.mem_cons_of_mem _ (List.mem_flatMap.2 ⟨y, hy, by simp⟩)
  · exact List.mem_cons_of_mem _ (List.mem_flatMap.2 ⟨y, hy, by simp⟩)

/-- A house in a law that began in the world w0. -/
structure InLaw (w0 : World) (own : Nat → Nat) (w : World) (gh : Nat) (Q : List (Pl × Pg)) (P : List Pg) : Prop where
  below : Below w0.heap.size w0 w
  house : HouseAt own w gh Q
  pages : Q.map (·.2) = P
  ok : HOk P
  based : Based own w
  low : ∀ k, k < w0.heap.size → own k < w0.heap.size
  ids : ∀ i ∈ idsH gh Q, w0.heap.size ≤ i
theorem InLaw.few {w0 : World} {own : Nat → Nat} {w : World} {gh : Nat} {Q : List (Pl × Pg)} {P : List Pg} (h : InLaw w0 own w gh Q P) : Q.length ≤ 6 := by
  have := h.ok.few
  rw [← h.pages, List.length_map] at this
  exact this
theorem InLaw.pg {w0 : World} {own : Nat → Nat} {w : World} {gh : Nat} {Q : List (Pl × Pg)} {P : List Pg} (h : InLaw w0 own w gh Q P) : ∀ p ∈ P, p.Ok := fun p hp => by
  rw [← h.pages] at hp
  obtain ⟨y, hy, rfl⟩ := List.mem_map.1 hp
  exact (h.house.page y hy).ok
/-- Another thing's turn leaves the house as it is. -/
theorem InLaw.apart {w0 : World} {own own' : Nat → Nat} {S : Nat → Prop} {w w' : World} {gh : Nat} {Q : List (Pl × Pg)} {P : List Pg} (h : InLaw w0 own w gh Q P) (hg : Goes own own' S w w') (hS : ∀ k ∈ idsH gh Q, ¬ S k) (hS0 : ∀ k, S k → w0.heap.size ≤ k) (hb : Based own' w') : InLaw w0 own' w' gh Q P :=
  ⟨⟨hg.os.trans h.below.os, hg.tape.trans h.below.tape, hg.output.trans h.below.output, Nat.le_trans h.below.size hg.size, fun k hk => (hg.block k (Nat.lt_of_lt_of_le hk h.below.size) fun hs => by have := hS0 _ hs; have := h.low k hk; omega).trans (h.below.block k hk)⟩,
    h.house.apart hg hS, h.pages, h.ok, hb, fun k hk => by rw [hg.same k (Nat.lt_of_lt_of_le hk h.below.size)]; exact h.low k hk, h.ids⟩
/-- New things are owned by themselves. -/
def newO (own : Nat → Nat) (n : Nat) : Nat → Nat := fun k => if k < n then own k else k
theorem newO_goes {own : Nat → Nat} {S : Nat → Prop} {w w' : World} (h : Below w.heap.size w w') : Goes own (newO own w.heap.size) S w w' := ⟨h.os, h.tape, h.output, h.size, fun k hk _ => h.block k hk, fun k hk => if_pos hk⟩
theorem newO_based {own : Nat → Nat} {w w' : World} (h : Based own w) (hb : Below w.heap.size w w') : Based (newO own w.heap.size) w' := fun k hk => by
  unfold newO
  by_cases e : k < w.heap.size
  · rw [if_pos e]; exact Nat.lt_of_lt_of_le (h k e) hb.size
  · rw [if_neg e]; exact hk
theorem InLaw.after {w0 : World} {own : Nat → Nat} {w w' : World} {gh : Nat} {Q : List (Pl × Pg)} {P : List Pg} (h : InLaw w0 own w gh Q P) (hb : Below w.heap.size w w') : InLaw w0 (newO own w.heap.size) w' gh Q P :=
  h.apart (newO_goes (S := fun _ => False) hb) (fun _ _ h => h) (fun _ h => h.elim) (newO_based h.based hb)
/-- What a deed at a house in a law comes to. -/
def DoTo (w0 : World) (own : Nat → Nat) (w : World) (gh : Nat) (Q : List (Pl × Pg)) (P' : List Pg) (w' : World) : Prop :=
  ∃ own' Q', InLaw w0 own' w' gh Q' P' ∧ Goes own own' (fun k => k ∈ idsH gh Q) w w' ∧ ∀ i ∈ idsH gh Q', i ∈ idsH gh Q ∨ w.heap.size ≤ i
theorem InLaw.to {w0 : World} {own : Nat → Nat} {w w' : World} {gh : Nat} {Q : List (Pl × Pg)} {P P' : List Pg} (h : InLaw w0 own w gh Q P) (hP : HOk P') (ht : HouseTo own w gh Q P' w') : DoTo w0 own w gh Q P' w' := by
  obtain ⟨own', Q', h1, h2, h3, h4⟩ := ht
  have hlt := h1.lt
  have hsame : ∀ k, k < w.heap.size → (if own' k < w'.heap.size then own' k else 0) = own k := fun k hk => by
    rw [h3.same k hk, if_pos (Nat.lt_of_lt_of_le (h.based k hk) h3.size)]
  have hG : Goes own (fun k => if own' k < w'.heap.size then own' k else 0) (fun k => k ∈ idsH gh Q) w w' := ⟨h3.os, h3.tape, h3.output, h3.size, h3.block, hsame⟩
  have hb : Based (fun k => if own' k < w'.heap.size then own' k else 0) w' := fun k hk => by
    show (if own' k < w'.heap.size then own' k else 0) < w'.heap.size
    split
    · assumption
    · omega
  refine ⟨_, Q', ⟨⟨hG.os.trans h.below.os, hG.tape.trans h.below.tape, hG.output.trans h.below.output, Nat.le_trans h.below.size hG.size, fun k hk => (hG.block k (Nat.lt_of_lt_of_le hk h.below.size) fun hs => by have := h.ids _ hs; have := h.low k hk; omega).trans (h.below.block k hk)⟩,
    h1.reown (fun k hk hi => if_pos (hlt _ hi)), h2, hP, hb, fun k hk => ?_, fun i hi => ?_⟩, hG, h4⟩
  · show (if own' k < w'.heap.size then own' k else 0) < _
    rw [hsame k (Nat.lt_of_lt_of_le hk h.below.size)]
    exact h.low k hk
  · rcases h4 i hi with h' | h'
    · exact h.ids i h'
    · exact Nat.le_trans h.below.size h'
/-- A deed at a house in a law. -/
theorem do_law {w0 : World} {own : Nat → Nat} {w : World} {gh : Nat} {Q : List (Pl × Pg)} {P : List Pg} (h : InLaw w0 own w gh Q P) (ht : Tab w) (d : Dd) (Ad : Option Addr) (cd : Nat) (hd : DeedAt w d Ad cd) :
    Calls Tryd.prog 12 #[.pointer (some ⟨gh, 0, none⟩), .agg (cDeed d Ad cd)] w fun e w' => e = .returned (.tuple #[.string (houseD P d).1, .int .i64 (houseD P d).2.1]) ∧ DoTo w0 own w gh Q (houseD P d).2.2 w' := by
  have := do_any own w gh Q h.house h.few ht d Ad cd hd
  rw [h.pages] at this
  exact this.mono fun e w' ⟨he, hh⟩ => ⟨he, h.to (house_one h.ok d).ok hh⟩

/-- A house alone in a law. -/
def Lone (w0 : World) (gh : Nat) (P : List Pg) (w : World) : Prop := ∃ own Q, InLaw w0 own w gh Q P
theorem Lone.below {w0 w : World} {gh : Nat} {P : List Pg} (h : Lone w0 gh P w) : Below w0.heap.size w0 w := by obtain ⟨_, _, h⟩ := h; exact h.below
theorem Lone.ok {w0 w : World} {gh : Nat} {P : List Pg} (h : Lone w0 gh P w) : HOk P := by obtain ⟨_, _, h⟩ := h; exact h.ok
theorem Lone.pg {w0 w : World} {gh : Nat} {P : List Pg} (h : Lone w0 gh P w) : ∀ p ∈ P, p.Ok := by obtain ⟨_, _, h⟩ := h; exact h.pg
theorem Lone.after {w0 w w' : World} {gh : Nat} {P : List Pg} (h : Lone w0 gh P w) (hb : Below w.heap.size w w') : Lone w0 gh P w' := by
  obtain ⟨_, _, h⟩ := h
  exact ⟨_, _, h.after hb⟩
theorem DoTo.lone {w0 : World} {own : Nat → Nat} {w w' : World} {gh : Nat} {Q : List (Pl × Pg)} {P : List Pg} (h : DoTo w0 own w gh Q P w') : Lone w0 gh P w' := by
  obtain ⟨_, _, h, _⟩ := h
  exact ⟨_, _, h⟩
theorem do_lone {w0 w : World} {gh : Nat} {P : List Pg} (h : Lone w0 gh P w) (ht : Tab w) (d : Dd) (Ad : Option Addr) (cd : Nat) (hd : DeedAt w d Ad cd) :
    Calls Tryd.prog 12 #[.pointer (some ⟨gh, 0, none⟩), .agg (cDeed d Ad cd)] w fun e w' => e = .returned (.tuple #[.string (houseD P d).1, .int .i64 (houseD P d).2.1]) ∧ Lone w0 gh (houseD P d).2.2 w' := by
  obtain ⟨own, Q, h⟩ := h
  exact (do_law h ht d Ad cd hd).mono fun e w' ⟨he, hh⟩ => ⟨he, hh.lone⟩
/-- Two houses in a law. -/
def Pair (w0 : World) (ga : Nat) (Pa : List Pg) (gb : Nat) (Pb : List Pg) (w : World) : Prop :=
  ∃ own Qa Qb, InLaw w0 own w ga Qa Pa ∧ InLaw w0 own w gb Qb Pb ∧ ∀ i ∈ idsH ga Qa, i ∉ idsH gb Qb
theorem Pair.swap {w0 w : World} {ga gb : Nat} {Pa Pb : List Pg} (h : Pair w0 ga Pa gb Pb w) : Pair w0 gb Pb ga Pa w := by
  obtain ⟨own, Qa, Qb, h1, h2, h3⟩ := h
  exact ⟨own, Qb, Qa, h2, h1, fun i hi hj => h3 i hj hi⟩
theorem Pair.lone {w0 w : World} {ga gb : Nat} {Pa Pb : List Pg} (h : Pair w0 ga Pa gb Pb w) : Lone w0 ga Pa w := by
  obtain ⟨own, Qa, Qb, h1, _⟩ := h
  exact ⟨_, _, h1⟩
theorem Pair.after {w0 w w' : World} {ga gb : Nat} {Pa Pb : List Pg} (h : Pair w0 ga Pa gb Pb w) (hb : Below w.heap.size w w') : Pair w0 ga Pa gb Pb w' := by
  obtain ⟨own, Qa, Qb, h1, h2, h3⟩ := h
  exact ⟨_, Qa, Qb, h1.after hb, h2.after hb, h3⟩
theorem Pair.do_ {w0 w : World} {ga gb : Nat} {Pa Pb : List Pg} (h : Pair w0 ga Pa gb Pb w) (ht : Tab w) (d : Dd) (Ad : Option Addr) (cd : Nat) (hd : DeedAt w d Ad cd) :
    Calls Tryd.prog 12 #[.pointer (some ⟨ga, 0, none⟩), .agg (cDeed d Ad cd)] w fun e w' => e = .returned (.tuple #[.string (houseD Pa d).1, .int .i64 (houseD Pa d).2.1]) ∧ Pair w0 ga (houseD Pa d).2.2 gb Pb w' := by
  obtain ⟨own, Qa, Qb, h1, h2, h3⟩ := h
  refine (do_law h1 ht d Ad cd hd).mono fun e w' ⟨he, own', Qa', g1, g2, g3⟩ => ⟨he, own', Qa', Qb, g1, h2.apart g2 (fun k hk hs => h3 k hs hk) h1.ids g1.based, fun i hi hj => ?_⟩
  rcases g3 i hi with h | h
  · exact h3 i h hj
  · have := h2.house.lt i hj
    omega
end Go.Proofs.YtigbnldmjafgmaaDoor

/- StrSort: contracts of the library laid at this program: the tables of numbers and the facts that they ask. -/
namespace Go.Proofs.YtigbnldmjafgmaaDoor
open Go.RowKit
set_option linter.unusedVariables false

def layStrSort_ren : Go.Shelf.Ren := ⟨fun | 190 => 47 | 125 => 68 | 258 => 67 | 128 => 92 | 129 => 93 | 302 => 83 | 303 => 84 | 304 => 85 | 305 => 86 | 306 => 87 | 307 => 88 | 308 => 89 | 309 => 90 | 310 => 91 | 333 => 99 | 329 => 100 | 330 => 101 | 334 => 102 | 335 => 103 | 336 => 104 | 344 => 115 | n => n, fun | 31 => 33 | 9 => 9 | 3 => 3 | 46 => 107 | 0 => 0 | 51 => 109 | 53 => 133 | 4 => 4 | 183 => 124 | 182 => 123 | 131 => 129 | 5 => 5 | 218 => 138 | 222 => 142 | 228 => 149 | 229 => 76 | 20 => 20 | n => n, fun | n => n⟩
theorem layStrSort : Go.Proofs.Lays.n190 Tryd.prog layStrSort_ren := {
  mixed := by kernel_rfl,
  f125 := Tryd.func68.trans (congrArg some (by kernel_rfl)),
  f128 := Tryd.func92.trans (congrArg some (by kernel_rfl)),
  f129 := Tryd.func93.trans (congrArg some (by kernel_rfl)),
  f190 := Tryd.func47.trans (congrArg some (by kernel_rfl)),
  f258 := Tryd.func67.trans (congrArg some (by kernel_rfl)),
  f302 := Tryd.func83.trans (congrArg some (by kernel_rfl)),
  f303 := Tryd.func84.trans (congrArg some (by kernel_rfl)),
  f304 := Tryd.func85.trans (congrArg some (by kernel_rfl)),
  f305 := Tryd.func86.trans (congrArg some (by kernel_rfl)),
  f306 := Tryd.func87.trans (congrArg some (by kernel_rfl)),
  f307 := Tryd.func88.trans (congrArg some (by kernel_rfl)),
  f308 := Tryd.func89.trans (congrArg some (by kernel_rfl)),
  f309 := Tryd.func90.trans (congrArg some (by kernel_rfl)),
  f310 := Tryd.func91.trans (congrArg some (by kernel_rfl)),
  f329 := Tryd.func100.trans (congrArg some (by kernel_rfl)),
  f330 := Tryd.func101.trans (congrArg some (by kernel_rfl)),
  f333 := Tryd.func99.trans (congrArg some (by kernel_rfl)),
  f334 := Tryd.func102.trans (congrArg some (by kernel_rfl)),
  f335 := Tryd.func103.trans (congrArg some (by kernel_rfl)),
  f336 := Tryd.func104.trans (congrArg some (by kernel_rfl)),
  f344 := Tryd.func115.trans (congrArg some (by kernel_rfl)),
  t0 := Tryd.underlying0,
  a0 := Tryd.isAgg0,
  z0 := Tryd.sizeOf0,
  v0 := Tryd.zeroValue0,
  t3 := Tryd.underlying3,
  a3 := Tryd.isAgg3,
  z3 := Tryd.sizeOf3,
  v3 := Tryd.zeroValue3,
  t4 := Tryd.underlying4,
  a4 := Tryd.isAgg4,
  z4 := Tryd.sizeOf4,
  v4 := Tryd.zeroValue4,
  t5 := Tryd.underlying5,
  a5 := Tryd.isAgg5,
  z5 := Tryd.sizeOf5,
  v5 := Tryd.zeroValue5,
  t9 := Tryd.underlying9,
  a9 := Tryd.isAgg9,
  z9 := Tryd.sizeOf9,
  v9 := Tryd.zeroValue9,
  t31 := Tryd.underlying33,
  a31 := Tryd.isAgg33,
  z31 := Tryd.sizeOf33,
  v31 := Tryd.zeroValue33,
  t46 := Tryd.underlying107,
  a46 := Tryd.isAgg107,
  z46 := Tryd.sizeOf107,
  v46 := Tryd.zeroValue107,
  t51 := Tryd.underlying109,
  a51 := Tryd.isAgg109,
  z51 := Tryd.sizeOf109,
  v51 := Tryd.zeroValue109,
  t53 := Tryd.underlying133,
  a53 := Tryd.isAgg133,
  z53 := Tryd.sizeOf133,
  v53 := Tryd.zeroValue133,
  t131 := Tryd.underlying129,
  a131 := Tryd.isAgg129,
  z131 := Tryd.sizeOf129,
  v131 := Tryd.zeroValue129,
  t182 := Tryd.underlying123,
  a182 := Tryd.isAgg123,
  z182 := Tryd.sizeOf123,
  v182 := Tryd.zeroValue123,
  t183 := Tryd.underlying124,
  a183 := Tryd.isAgg124,
  z183 := Tryd.sizeOf124,
  v183 := Tryd.zeroValue124,
  t218 := Tryd.underlying138,
  a218 := Tryd.isAgg138,
  z218 := Tryd.sizeOf138,
  v218 := Tryd.zeroValue138,
  t222 := Tryd.underlying142,
  a222 := Tryd.isAgg142,
  z222 := Tryd.sizeOf142,
  v222 := Tryd.zeroValue142,
  t228 := Tryd.underlying149,
  a228 := Tryd.isAgg149,
  z228 := Tryd.sizeOf149,
  v228 := Tryd.zeroValue149,
  t229 := Tryd.underlying76,
  a229 := Tryd.isAgg76,
  z229 := Tryd.sizeOf76,
  v229 := Tryd.zeroValue76 }

end Go.Proofs.YtigbnldmjafgmaaDoor

/- CompactStr: contracts of the library laid at this program: the tables of numbers and the facts that they ask. -/
namespace Go.Proofs.YtigbnldmjafgmaaDoor
open Go.RowKit
set_option linter.unusedVariables false

end Go.Proofs.YtigbnldmjafgmaaDoor

/- A row of one's own that the library sorts. -/
namespace Go.Proofs.YtigbnldmjafgmaaDoor
open Go.RowKit Go.Sort
set_option linter.unusedVariables false

theorem flatK_list {α : Type} [Inhabited α] (enc : α → List Value) (k : Nat) (hk : ∀ x, (enc x).length = k) (d : Array α) : (flatK enc k d).toList = d.toList.flatMap enc := by
  have h0 := flat_length enc k hk d.toList
  refine List.ext_getElem? fun t => ?_
  by_cases ht : t < d.size * k
  · have kp : 0 < k := by rcases Nat.eq_zero_or_pos k with h | h; · subst h; simp at ht
                          · exact h
    have hq : t / k < d.size := Nat.div_lt_of_lt_mul (by rw [Nat.mul_comm]; exact ht)
    have hm : t % k < k := Nat.mod_lt _ kp
    have e1 : (flatK enc k d).toList[t]? = some ((enc d[t / k]!)[t % k]!) := by
      rw [Array.getElem?_toList, Array.getElem?_eq_getElem (by simpa using ht)]
      have := get_flatK enc k d t ht
      rw [getElem!_pos _ t (by simpa using ht)] at this
      rw [this]
    rw [e1]
    have e2 : (d.toList.flatMap enc).getD t undef = (enc d[t / k]!)[t % k]! := by
      have h3 := flat_getD enc k hk (default : α) d.toList (t / k) (t % k) (by simpa using hq) hm
      have e : t / k * k + t % k = t := by rw [Nat.mul_comm]; exact Nat.div_add_mod t k
      rw [e] at h3
      rw [h3]
      have e4 : d.toList.getD (t / k) default = d[t / k]! := by
        rw [List.getD_eq_getElem?_getD, List.getElem?_eq_getElem (by simpa using hq), getElem!_pos d (t / k) hq]
        rfl
      rw [e4, List.getD_eq_getElem?_getD, List.getElem?_eq_getElem (by rw [hk]; exact hm), getElem!_pos (enc _) (t % k) (by rw [hk]; exact hm)]
      rfl
    have hl : t < (d.toList.flatMap enc).length := by rw [h0]; simpa using ht
    rw [List.getElem?_eq_getElem hl]
    rw [List.getD_eq_getElem?_getD, List.getElem?_eq_getElem hl] at e2
    rw [← e2]; rfl
  · rw [List.getElem?_eq_none (by simp; omega), List.getElem?_eq_none (by rw [h0]; simp; omega)]

section
variable {T : TypeId} {s : Nat} {w w' : World} {K : Nat → Prop} {A : Option Addr} {n c g o : Nat} {xs : List Value}
theorem OwnK.holds (h : OwnK T s w K (some ⟨g, o, none⟩) n c xs) : Holds id w g o xs.toArray := fun j hj => by
  have hj' : j < n * s := by rw [← h.1]; simpa using hj
  obtain ⟨h1, h2⟩ := h.cell j hj'
  refine ⟨?_, h2⟩
  rw [h1, getElem!_pos _ j hj]
  simp at hj ⊢
/-- A row of one's own, laid anew. -/
theorem OwnK.sorted {F : Array Value} (h : OwnK T s w K (some ⟨g, o, none⟩) n c xs) (hF : F.size = n * s) (m : Nat) (os : Array Obj) : OwnK T s (grow (putRow id (Sort.ahead w m) g o F) os) K (some ⟨g, o, none⟩) n c F.toList := by
  refine ⟨by simpa using hF, ?_⟩
  rcases h.2 with ⟨h0, _⟩ | ⟨g', o', cur, hv, hb, hg, h1, h2, h3, h4⟩
  · cases h0
  · injection hv with hv
    injection hv with hv hv2
    subst hv hv2
    have hle : n * s ≤ c * s := Nat.mul_le_mul_right _ h1
    refine .inr ⟨g, o, putCells id o F cur, rfl, hb, ?_, h1, h2, by simpa [putCells] using h3, ?_⟩
    · unfold Blk at hg ⊢
      have hg' : g < w.heap.size := (Array.getElem?_eq_some_iff.1 hg).1
      rw [heap_grow_old _ _ (by simpa using hg')]
      simp [putRow, mapBlock, Sort.ahead, Array.getElem?_modify, hg, onCells]
    · refine List.ext_getElem? fun j => ?_
      by_cases hj : j < n * s
      · rw [List.getElem?_take_of_lt hj, List.getElem?_drop, Array.getElem?_toList, Array.getElem?_toList, Array.getElem?_eq_getElem (by simp [putCells]; omega), Array.getElem?_eq_getElem (by omega)]
        simp only [putCells, Array.getElem_mapIdx, id]
        rw [if_pos (by omega), Nat.add_sub_cancel_left, getElem!_pos _ _ (by omega)]
      · rw [List.getElem?_eq_none (by rw [List.length_take]; omega), List.getElem?_eq_none (by simp; omega)]
end
theorem grownBy_put {w : World} {g o n : Nat} {os : Array Obj} (F : Array Value) : w.grownBy (grow (putRow id (Sort.ahead w n) g o F) os) (some g) := by
  refine ⟨rfl, rfl, rfl, by simp, fun k hk hne => ?_⟩
  rw [heap_grow_old _ _ (by simpa using hk)]
  have : g ≠ k := fun e => hne (by rw [e])
  simp [putRow, mapBlock, Sort.ahead, Array.getElem?_modify, this]
end Go.Proofs.YtigbnldmjafgmaaDoor

/- slices.Sort and slices.Compact of strings that lie in a row of one's own. -/
namespace Go.Proofs.YtigbnldmjafgmaaDoor
open Go.RowKit Go.Sort Go.Shelf Go.Lib
set_option linter.unusedVariables false

theorem putRow_map {α : Type} [Inhabited α] (enc : α → Value) (w : World) (g o : Nat) (d : Array α) : putRow enc w g o d = putRow id w g o (d.map enc) := by
  have e : putCells enc o d = putCells id o (d.map enc) := funext fun cs => by
    refine Array.ext (by simp [putCells]) fun j h1 h2 => ?_
    simp only [putCells, Array.getElem_mapIdx, id, Array.size_map]
    by_cases h : o ≤ j ∧ j < o + d.size
    · rw [if_pos h, if_pos h, getElem!_pos d _ (by omega), getElem!_pos (d.map enc) _ (by simp; omega), Array.getElem_map]
    · rw [if_neg h, if_neg h]
  unfold putRow
  rw [e]
theorem holds_strs {w : World} {K : Nat → Prop} {blk o n c : Nat} {zs : List (List UInt8)} (hn : zs.length = n) (h : OwnK 9 1 w K (some ⟨blk, o, none⟩) n c (zs.map encStr)) : Holds encStr w blk o zs.toArray := fun j hj => by
  have hj' : j < zs.length := by simpa using hj
  have := h.cell j (by omega)
  refine ⟨?_, this.2⟩
  rw [this.1, List.getElem?_map, getElem!_pos zs.toArray j hj, List.getElem?_eq_getElem hj']; simp
theorem own_same {w w' : World} {r : Option Nat} (h : w' = w) : w.grownBy w' r := by
  subst h
  exact ⟨rfl, rfl, rfl, Nat.le_refl _, fun k hk _ => rfl⟩
/-- slices.Sort of strings. -/
theorem strSort_any (K : Nat → Prop) (A : Option Addr) (n c : Nat) (zs : List (List UInt8)) (w : World) (hn : zs.length = n) (h : OwnK 9 1 w K A n c (zs.map encStr)) (hsz : n < 4611686018427387904) :
    Calls Tryd.prog 47 #[.slice A n c] w fun e w' => e = .returned (.tuple #[]) ∧ OwnK 9 1 w' K A n c ((zs.mergeSort fun x y => decide (x ≤ y)).map encStr) ∧ w.grownBy w' (Value.slice A n c).ownBlock := by
  subst hn
  rcases Nat.eq_zero_or_pos zs.length with h0 | h0
  · have hz := List.eq_nil_of_length_eq_zero h0
    subst hz
    have hS := Any.slices_Sort_string_none layStrSort A c w
    change Calls Tryd.prog 47 _ _ _ at hS
    exact hS.mono fun e w' ⟨he, hw⟩ => ⟨he, by rw [hw]; simpa using h, own_same hw⟩
  · obtain ⟨blk, o, rfl, hlt, _⟩ := h.shape h0
    have hS := Any.slices_Sort_string layStrSort blk o c zs w (holds_strs rfl h) hlt hsz
    change Calls Tryd.prog 47 _ _ _ at hS
    refine hS.mono fun e w' ⟨he, m, os, hw⟩ => ⟨he, ?_, ?_⟩
    · rw [hw, putRow_map]
      have := h.sorted (F := ((zs.mergeSort fun x y => decide (x ≤ y)).toArray.map encStr)) (by simp) m os
      simpa using this
    · rw [hw, putRow_map]
      exact grownBy_put _
end Go.Proofs.YtigbnldmjafgmaaDoor

/- The walks of slices.Index and slices.Contains at element types of one cell. -/
namespace Go.Proofs.YtigbnldmjafgmaaDoor
open Go.RowKit
set_option linter.unusedVariables false

/-- Where it stands first, or -1. -/
def idxI {α : Type} [DecidableEq α] (v : α) (l : List α) : Int := if v ∈ l then (l.idxOf v : Nat) else -1
theorem idxI_found {α : Type} [DecidableEq α] {v d : α} {l : List α} {k : Nat} (hk : k < l.length) (h : l.getD k d = v) (hn : v ∉ l.take k) : idxI v l = (k : Nat) := by
  have hm : v ∈ l := by rw [← h, getD_some _ _ _ hk]; exact List.getElem_mem _
  unfold idxI
  rw [if_pos hm]
  congr 1
  have e : l = l.take k ++ v :: l.drop (k + 1) := by rw [← h, ← drop_getD l k d hk, List.take_append_drop]
  rw [e, List.idxOf_append, if_neg hn, List.idxOf_cons_self, List.length_take]
  omega
theorem idxI_none {α : Type} [DecidableEq α] {v : α} {l : List α} (h : v ∉ l) : idxI v l = -1 := by unfold idxI; rw [if_neg h]
/-- Does it stand there? -/
def hasB {α : Type} [DecidableEq α] (v : α) (l : List α) : Bool := decide (v ∈ l)
theorem hasB_iff {α : Type} [DecidableEq α] {v : α} {l : List α} : hasB v l = true ↔ v ∈ l := decide_eq_true_iff
theorem hasB_no {α : Type} [DecidableEq α] {v : α} {l : List α} : hasB v l = false ↔ v ∉ l := decide_eq_false_iff_not
theorem idxI_neg {α : Type} [DecidableEq α] (v : α) (l : List α) : decide (0 ≤ idxI v l) = hasB v l := by
  unfold idxI hasB
  by_cases h : v ∈ l
  · rw [if_pos h]; simp [h]
  · rw [if_neg h]; simp [h]
theorem idxI_le {α : Type} [DecidableEq α] (v : α) (l : List α) : -1 ≤ idxI v l ∧ idxI v l < (l.length : Int) ∨ l = [] ∧ idxI v l = -1 := by
  unfold idxI
  by_cases h : v ∈ l
  · rw [if_pos h]; have := List.idxOf_lt_length_of_mem h; left; omega
  · rw [if_neg h]
    cases l with
    | nil => right; exact ⟨rfl, rfl⟩
    | cons x l => left; simp; omega






set_option maxHeartbeats 1000000 in
theorem indexStr_any (v : ByteArray) (A : Option Addr) (n c B : Nat) (l : List ByteArray) (w : World) (hn : n ≤ 140737488355328) (hl : l.length = n) (h : Reads w B A n 1 (l.flatMap cStr)) :
    Calls Tryd.prog 52 #[.slice A n c, .string v] w fun e w' => e = .returned (.int .i64 (idxI v l)) ∧ w = w' := by
  have Hl := Lib.hid hl
  clear hl
  go_enter Tryd.func52, Tryd.ntmps52
  go_wp2
  go_loop [5, 8] (fun _ i => ∃ k : Nat, k ≤ n ∧ i = .int .i64 k ∧ Hid (v ∉ l.take k)) (fun _ i => n - (intOf i).toNat)
  case atStart => exact ⟨0, Nat.zero_le _, rfl, Lib.hid (by simp)⟩
  case round =>
    obtain ⟨k, hk, rfl, Hk⟩ := hrel
    by_cases hlt : k < n
    · obtain ⟨b, o, rfl, hbB, hc⟩ := h.2 (by omega)
      have c0 := hc (k * 1 + 0) (by rw [flat_length cStr 1 cStr_len, Hl.out]; omega)
      rw [flat_getD cStr 1 cStr_len ByteArray.empty l k _ (by rw [Hl.out]; omega) (by omega)] at c0
      simp only [cStr, List.getD_cons_zero, Nat.mul_one, Nat.add_zero] at c0
      have hts := take_succ_getD l k ByteArray.empty (by rw [Hl.out]; omega)
      have Hts := Lib.hid hts
      have hfd := fun h => idxI_found (v := v) (d := ByteArray.empty) (l := l) (k := k) (by rw [Hl.out]; exact hlt) h Hk.out
      have Hfd := Lib.hid hfd
      clear hc hts hfd
      generalize l.getD k ByteArray.empty = x at *
      by_cases heq : v = x
      · have q1 : (v.toList == x.toList) = true := by rw [heq]; simp
        have Heq := Lib.hid heq
        clear heq
        go_wp2
        go_ret
        exact ⟨by rw [Hfd.out Heq.out.symm]; rfl, rfl⟩
      · have hne := heq
        have q1 : (v.toList == x.toList) = false := by rw [beq_eq_false_iff_ne]; intro h; rw [ByteArray.toList_eq, ByteArray.toList_eq] at h; exact hne (str_ext h)
        have Hne := Lib.hid hne
        clear heq hne
        go_wp2
        go_round
        case rel =>
          refine ⟨k + 1, by omega, by go_num, Lib.hid ?_⟩
          rw [Hts.out, List.mem_append, List.mem_singleton]
          exact fun h => h.elim Hk.out Hne.out
        case measure => simp [intOf]; omega
    · obtain rfl : k = n := by omega
      have e : l.take k = l := List.take_of_length_le (by rw [Hl.out]; omega)
      rw [e] at Hk
      have hno := idxI_none Hk.out
      have Hno := Lib.hid hno
      clear hno e
      go_wp2
      go_ret
      exact ⟨by rw [Hno.out]; rfl, rfl⟩


set_option maxHeartbeats 400000 in
theorem containsStr_any (v : ByteArray) (A : Option Addr) (n c B : Nat) (l : List ByteArray) (w : World) (hn : n ≤ 140737488355328) (hl : l.length = n) (h : Reads w B A n 1 (l.flatMap cStr)) :
    Calls Tryd.prog 22 #[.slice A n c, .string v] w fun e w' => e = .returned (.bool (hasB v l)) ∧ w = w' := by
  have hneg := idxI_neg v l
  have H1 := Lib.hid (indexStr_any v A n c B l w hn hl h)
  have Hneg := Lib.hid hneg
  clear hneg hl h
  go_enter Tryd.func22, Tryd.ntmps22
  go_wp2_with fail
  refine H1.out.mono ?_
  rintro e w1 ⟨rfl, rfl⟩
  generalize idxI v l = i at *
  go_wp2
  go_ret
  exact ⟨congrArg (fun b => Ending.returned (.bool b)) Hneg.out, rfl⟩









end Go.Proofs.YtigbnldmjafgmaaDoor

/- A row of strings of one's own: append, the last of them, and reading. -/
namespace Go.Proofs.YtigbnldmjafgmaaDoor
open Go.RowKit
set_option linter.unusedVariables false

/-- append of a string that has just been built in a block of its own. -/
theorem wpList_append_one {P : Program} (w : World) {ops : Array Oper} {rest : List Oper} {o : Oper} {a : Act} {Q : Exit → Act → World → Prop} (s x : Operand) (t : TypeId) (hgd : o.guard = none)
    (ho : o.op = .call { callee := .builtin .append, args := #[s, x], argTypes := #[t, t] }) (K : Nat → Prop)
    (hinfo : (P.info? 9).map (fun i => (i.zero, i.size, i.bytes)) = some (some (.string ⟨#[]⟩), 1, 16)) (ht : P.underlying t = some (.slice 9))
    (A : Option Addr) (n c : Nat) (l : List ByteArray) (hs : a.eval s = .slice A n c) (hown : OwnS w K A n c l)
    (c2 : Nat) (y : ByteArray) (hx : a.eval x = .slice (some ⟨w.heap.size, 0, none⟩) 1 c2)
    (h63 : n ≤ 8000000000000) (hK : ∀ k, K k → k < w.heap.size)
    (h : ∀ A' c' w1, OwnS w1 K A' (n + 1) c' (l ++ [y]) → Kept K w w1 → wpList P ops Q rest (a.put o.dst (.slice A' (n + 1) c')) w1) : wpList P ops Q (o :: rest) a (w.alloc (.cells #[.string y] 9)) := by
  have hsz : (w.alloc (Obj.cells #[.string y] 9)).heap.size = w.heap.size + 1 := by simp
  have hK2 : ∀ k, K k → k < (w.alloc (Obj.cells #[.string y] 9)).heap.size := fun k hk => by have := hK k hk; omega
  have hy : (w.alloc (Obj.cells #[.string y] 9)).cell? ⟨w.heap.size, 0, none⟩ = some (.string y) := by rw [World.cell?_alloc_mark]; rfl
  obtain ⟨A', c', w1, hr, h1, h2, h3⟩ := run_append_S (P := P) _ K t o.type ht hinfo A n c l (hown.alloc _) ⟨w.heap.size, 0, none⟩ c2 y hy rfl h63 hK2
  refine wpList_plain hgd fun Kq hKq => ?_
  unfold Oper.wp execOp
  simp only [ho, resolve, invoke, builtin, Sem.run_bind, Sem.run_pure, Result.andThen_ok, List.map_toArray, List.map_cons, List.map_nil, hs, hx, hr]
  exact hKq _ _ (h A' c' w1 h1 ((Kept.of_below ((Below.refl _ _).alloc (Nat.le_refl _) _) hK).trans (Kept.of_grown h2 hK2 (fun k hk => (hown.lt k hk).1))))
section
variable {w w' : World} {K : Nat → Prop} {A : Option Addr} {n c g o : Nat} {l : List ByteArray}
theorem OwnS.kept (h : OwnS w K A n c l) (k' : Nat → Prop) (hk : Kept k' w w') (hq : ∀ k, (Value.slice A n c).ownBlock = some k → k' k) : OwnS w' K A n c l := h.keep fun k _ h2 _ => hk.block k (hq k h2)
theorem OwnS.reads (h : OwnS w K A n c l) : Reads w w.heap.size A n 1 (l.flatMap cStr) := by
  refine ⟨by rw [flat_length cStr 1 cStr_len, h.1], fun hn => ?_⟩
  obtain ⟨g, o, rfl, hg⟩ := h.shape hn
  refine ⟨g, o, rfl, hg, fun j hj => ?_⟩
  have hj' : j < n := by rw [flat_length cStr 1 cStr_len, h.1] at hj; omega
  have e := flat_getD cStr 1 cStr_len ByteArray.empty l j 0 (by rw [h.1]; exact hj') (by omega)
  rw [Nat.mul_one, Nat.add_zero] at e
  rw [h.cell j hj', e]
  rfl
/-- All but the first k of them. -/
theorem OwnS.back (h : OwnS w K (some ⟨g, o, none⟩) n c l) (k : Nat) (hk : k ≤ n) : OwnS w K (some ⟨g, o + k, none⟩) (n - k) (c - k) (l.drop k) := by
  refine ⟨by rw [List.length_drop, h.1], ?_⟩
  rcases h.2 with ⟨h0, _⟩ | ⟨g', o', cur, hv, hb, hg, h1, h2, h3, h4⟩
  · cases h0
  · injection hv with hv
    injection hv with hv hv2
    subst hv hv2
    refine .inr ⟨g, o + k, cur, rfl, hb, hg, by omega, by omega, by omega, ?_⟩
    rw [List.map_drop, ← h4, List.drop_take, List.drop_drop]
end
end Go.Proofs.YtigbnldmjafgmaaDoor

/- The walk of a house's Names. -/
namespace Go.Proofs.YtigbnldmjafgmaaDoor
open Go.RowKit Go.Lib
set_option linter.unusedVariables false

/-- The names of pages, sorted. -/
def namesP (P : List Pg) : List (List UInt8) := (P.map fun p => p.name.data.toList).mergeSort fun x y => decide (x ≤ y)
theorem enc_name (b : ByteArray) : encStr b.data.toList = .string b := rfl
theorem pages_snoc (Q : List (Pl × Pg)) (k : Nat) (d : Pl × Pg) (h : k < Q.length) : (Q.take (k + 1)).map (fun y => Value.string y.2.name) = (Q.take k).map (fun y => Value.string y.2.name) ++ [.string (Q.getD k d).2.name] := by
  rw [List.take_succ_eq_append_getElem h, List.map_append, getD_some _ _ _ h]; rfl

set_option maxHeartbeats 2000000 in
theorem names_any (own : Nat → Nat) (w : World) (gh : Nat) (Q : List (Pl × Pg)) (h : HouseAt own w gh Q) (hQ : Q.length ≤ 6) :
    Calls Tryd.prog 14 #[.pointer (some ⟨gh, 0, none⟩)] w fun e w' => ∃ A c, e = .returned (.slice A Q.length c) ∧ OwnK 9 1 w' (· < w.heap.size) A Q.length c ((namesP (Q.map (·.2))).map encStr) ∧ Below w.heap.size w w' := by
  obtain ⟨⟨A, n, c, hB, hrow, hQl, _⟩, _⟩ := h
  have c0 := hB.cell 0
  have r := hrow.toReads
  have Hl := Lib.hid hQl
  have hn6 : n ≤ 6 := by omega
  clear hB hrow hQ
  rw [hQl]
  clear hQl
  go_enter Tryd.func14, Tryd.ntmps14
  go_wp2
  go_loopw [3, 5, 11] (fun ov _ i wr => ∃ (k : Nat) (A' : Option Addr) (c' : Nat), k ≤ n ∧ i = .int .i64 k ∧ ov = .slice A' k c' ∧ OwnK 9 1 wr (· < w.heap.size) A' k c' ((Q.take k).map fun y => Value.string y.2.name) ∧ Below w.heap.size w wr) (fun _ _ i _ => n - (intOf i).toNat)
  case atStart => exact ⟨0, none, 0, Nat.zero_le _, rfl, rfl, OwnK.nil _ _ _ _, Below.refl _ _⟩
  case round =>
    obtain ⟨k, A', c', hk, rfl, rfl, hown, hbr⟩ := hrel
    by_cases hlt : k < n
    · obtain ⟨b, o, rfl, hbB, hc⟩ := (r.below hbr).2 (by omega)
      have c0 := hc (k * 3 + 0) (by rw [flat_length cPage 3 cPage_len, Hl.out]; omega)
      have c1 := hc (k * 3 + 1) (by rw [flat_length cPage 3 cPage_len, Hl.out]; omega)
      have c2 := hc (k * 3 + 2) (by rw [flat_length cPage 3 cPage_len, Hl.out]; omega)
      rw [flat_getD cPage 3 cPage_len y0 Q k _ (by rw [Hl.out]; omega) (by omega)] at c0 c1 c2
      simp only [cPage, List.getD_cons_zero, List.getD_cons_succ, Nat.add_zero, ← Nat.add_assoc] at c0 c1 c2
      have Hs := Lib.hid (pages_snoc Q k y0 (by rw [Hl.out]; exact hlt))
      clear hc
      generalize Q.getD k y0 = y at *
      have b0 := (Blk.new wr 64 #[.string y.2.name, .pointer (some ⟨y.1.ge, 0, none⟩), .pointer (some ⟨y.1.gl, 0, none⟩)]).cell 0
      have hbs := hbr.size
      obtain ⟨W, hW⟩ : ∃ W, W = (wr.alloc (Obj.cells #[.string y.2.name, .pointer (some ⟨y.1.ge, 0, none⟩), .pointer (some ⟨y.1.gl, 0, none⟩)] 64)).alloc (Obj.cells #[.string y.2.name] 9) := ⟨_, rfl⟩
      have hoa := (hown.alloc (Obj.cells #[.string y.2.name, .pointer (some ⟨y.1.ge, 0, none⟩), .pointer (some ⟨y.1.gl, 0, none⟩)] 64)).alloc (Obj.cells #[.string y.2.name] 9)
      have hba : Below w.heap.size w ((wr.alloc (Obj.cells #[.string y.2.name, .pointer (some ⟨y.1.ge, 0, none⟩), .pointer (some ⟨y.1.gl, 0, none⟩)] 64)).alloc (Obj.cells #[.string y.2.name] 9)) := (hbr.alloc hbs _).alloc (by simp; omega) _
      have hWs : W.heap.size = wr.heap.size + 2 := by rw [hW]; simp
      have hcl : ∀ j, j < 1 → W.cell? ((⟨wr.heap.size + 1, 0, none⟩ : Addr).add j) = ([.string y.2.name] : List Value)[j]? := fun j hj => by
        obtain rfl : j = 0 := by omega
        have := (Blk.new (wr.alloc (Obj.cells #[.string y.2.name, .pointer (some ⟨y.1.ge, 0, none⟩), .pointer (some ⟨y.1.gl, 0, none⟩)] 64)) 9 #[.string y.2.name]).cell 0
        rw [show (wr.alloc (Obj.cells #[.string y.2.name, .pointer (some ⟨y.1.ge, 0, none⟩), .pointer (some ⟨y.1.gl, 0, none⟩)] 64)).heap.size = wr.heap.size + 1 from by simp, ← hW] at this
        rw [add_at]; exact this
      rw [← hW] at hoa hba
      have hk8 : k ≤ 8000000000000 := by omega
      have hk9 : (k + 1) * 16 ≤ 140737488355328 := by omega
      have hKl : ∀ j, j < w.heap.size → j < W.heap.size := fun j hj => by omega
      have HW := Lib.hid hW
      have HWs := Lib.hid hWs
      clear hW hWs hown
      go_wp2_with (first | (at_builtin; go_must (rw [← HW.out]; refine wpList_append_K rfl (.tmp 15) (.tmp 18) 33 rfl (· < w.heap.size) (.string ByteArray.empty) 16 infoStrE Tryd.underlying33 rfl (by decide) (by decide) A' k c' _ rfl hoa ⟨wr.heap.size + 1, 0, none⟩ 1 [.string y.2.name] rfl rfl (by simp [Value.oneCell']) hcl hk9 hk8 hKl ?_); intro A3 c3 w3 hown3 hg3 hp3))
      have hb3 : Below w.heap.size w w3 := hba.grown hg3 (by have := HWs.out; omega) (fun g hg => by have := (hoa.lt g hg).1; omega)
      rw [← Hs.out] at hown3
      clear hoa hcl b0 hba
      go_wp2
      go_roundw
      case rel => exact ⟨k + 1, A3, c3, by omega, by go_num, rfl, hown3, hb3⟩
      case measure => simp only [intOf]; omega
    · obtain rfl : k = n := by omega
      have hall : (Q.take k).map (fun y => Value.string y.2.name) = (Q.map fun y => y.2.name.data.toList).map encStr := by
        rw [List.take_of_length_le (by rw [Hl.out]; exact Nat.le_refl _), List.map_map]; rfl
      rw [hall] at hown
      have S := Lib.hid (strSort_any (· < w.heap.size) A' k c' (Q.map fun y => y.2.name.data.toList) wr (by rw [List.length_map]; exact Hl.out) hown (by omega))
      have Hn : Hid ((Q.map fun y => y.2.name.data.toList).mergeSort (fun x y => decide (x ≤ y)) = namesP (Q.map (·.2))) := Lib.hid (by unfold namesP; rw [List.map_map]; rfl)
      rw [Hn.out] at S
      have hlt2 := hown.lt
      have hbs := hbr.size
      clear hall hown
      go_wp2_with fail
      refine S.out.mono ?_
      rintro e w3 ⟨rfl, hown3, hg3⟩
      have hb3 : Below w.heap.size w w3 := hbr.grown hg3 hbs (fun g hg => by have := (hlt2 g hg).1; omega)
      go_wp2
      go_ret
      exact ⟨A', c', rfl, hown3, hb3⟩
end Go.Proofs.YtigbnldmjafgmaaDoor

/- Rows of deeds among the arguments. -/
namespace Go.Proofs.YtigbnldmjafgmaaDoor
open Go.RowKit Go.Deep Go.ChangeShapes Go.WideShapes
set_option linter.unusedVariables false

theorem list_of_5 {α : Type} : ∀ {l : List α}, l.length = 5 → ∃ a b c d e, l = [a, b, c, d, e]
  | [a, b, c, d, e], _ => ⟨a, b, c, d, e, rfl⟩
  | [], h => by simp at h
  | [_], h => by simp at h
  | [_, _], h => by simp at h
  | [_, _, _], h => by simp at h
  | [_, _, _, _], h => by simp at h
  | _ :: _ :: _ :: _ :: _ :: _ :: _, h => by simp at h
/-- A deed, and where its edits lie. -/
abbrev DRow := Dd × Option Addr × Nat
instance : Inhabited Dd := ⟨⟨0, 0, ⟨#[]⟩, ⟨#[]⟩, []⟩⟩
def cDRow (x : DRow) : List Value := [.int .i64 x.1.kind, .int .i64 x.1.n, .string x.1.name, .string x.1.text, .slice x.2.1 x.1.edits.length x.2.2]
theorem cDRow_len (x : DRow) : (cDRow x).length = 5 := rfl
/-- What is known of each deed that came in. -/
def OkDRow (w : World) (x : DRow) : Prop := (-9223372036854775808 ≤ x.1.kind ∧ x.1.kind ≤ 9223372036854775807) ∧ (-9223372036854775808 ≤ x.1.n ∧ x.1.n ≤ 9223372036854775807) ∧ x.1.name.size ≤ 140737488351232 ∧ x.1.text.size ≤ 140737488351232 ∧ EditsIn w x.2.1 x.1.edits.length x.2.2 x.1.edits
def DeedsIn (w : World) (A : Option Addr) (len cap : Nat) (l : List DRow) : Prop := l.length = len ∧ Reads w w.heap.size A len 5 (l.flatMap cDRow) ∧ len * 72 ≤ 140737488351232 ∧ (∀ x ∈ l, OkDRow w x) ∧ len ≤ cap ∧ cap ≤ maxLen ∧ (A = none → cap = 0)
section
variable {H : Type} {enc : TypeId × Value → H} {w : World} {sp : Nat → Bool}
theorem weights_five {P : Program} {t : TypeId} {fs : Array Field} {t0 t1 t2 t3 t4 : TypeId} (ht : P.underlying t = some (.struct fs)) (hn : fs.toList.map (·.type) = [t0, t1, t2, t3, t4]) (a0 a1 a2 a3 a4 : DataW H × List MemPlace) (m : Nat) (hm : m ∈ a2.1.weights P t2 ∨ m ∈ a3.1.weights P t3 ∨ m ∈ a4.1.weights P t4) :
    m ∈ DataW.weights P t (.agg (([a0, a1, a2, a3, a4] : List (DataW H × List MemPlace)).map (·.1))) := by
  have hl : fs.toList.length = 5 := by have := congrArg List.length hn; simpa using this
  obtain ⟨f0, f1, f2, f3, f4, hfl⟩ := list_of_5 hl
  rw [hfl] at hn
  simp only [List.map_cons, List.map_nil, List.cons.injEq, and_true] at hn
  obtain ⟨rfl, rfl, rfl, rfl, rfl⟩ := hn
  simp only [DataW.weights, ht, hfl, DataW.weightsEach, List.map_cons, List.map_nil, List.mem_append]
  rcases hm with h | h | h <;> simp [h]
theorem deed_one {n : Nat} {cs' : List Value} {y : DataW H × List MemPlace} (hy : DataW.trod enc Tryd.prog w 0 sp true n 25 cs' = some y)
    (hwy : ∀ m ∈ y.1.weights Tryd.prog 25, m ≤ reachBytes) : ∃ x : DRow, cs' = cDRow x ∧ OkDRow w x := by
  obtain ⟨xs, k, _, rfl, hl, hlen, hall⟩ := DataW.trod_struct (fs := Tryd.prog.fieldsOf 25) (by kernel_rfl) hy
  have hl' : cs'.length = 5 := hl.trans (by kernel_rfl)
  have hlen' : xs.length = 5 := hlen.trans (by kernel_rfl)
  obtain ⟨y0, y1, y2, y3, y4, rfl⟩ : ∃ y0 y1 y2 y3 y4, xs = [y0, y1, y2, y3, y4] := list_of_5 hlen'
  obtain ⟨v0, v1, v2, v3, v4, rfl⟩ : ∃ v0 v1 v2 v3 v4, cs' = [v0, v1, v2, v3, v4] := list_of_5 hl'
  have g0 : DataW.trod enc Tryd.prog w 0 sp true k 3 [v0] = some y0 := by
    have hm : ((Tryd.prog.fieldsOf 25)[0]?).map (fun fl => (fl.type, fl.offset, Tryd.prog.cellsOf fl.type)) = some (3, 0, 1) := by kernel_rfl
    obtain ⟨fl, hfl, he⟩ := Option.map_eq_some_iff.1 hm
    simp only [Prod.mk.injEq] at he
    obtain ⟨ht, ho, hc⟩ := he
    have := hall 0 fl hfl
    rw [hc, ho, ht] at this
    exact this
  have g1 : DataW.trod enc Tryd.prog w 0 sp true k 3 [v1] = some y1 := by
    have hm : ((Tryd.prog.fieldsOf 25)[1]?).map (fun fl => (fl.type, fl.offset, Tryd.prog.cellsOf fl.type)) = some (3, 1, 1) := by kernel_rfl
    obtain ⟨fl, hfl, he⟩ := Option.map_eq_some_iff.1 hm
    simp only [Prod.mk.injEq] at he
    obtain ⟨ht, ho, hc⟩ := he
    have := hall 1 fl hfl
    rw [hc, ho, ht] at this
    exact this
  have g2 : DataW.trod enc Tryd.prog w 0 sp true k 9 [v2] = some y2 := by
    have hm : ((Tryd.prog.fieldsOf 25)[2]?).map (fun fl => (fl.type, fl.offset, Tryd.prog.cellsOf fl.type)) = some (9, 2, 1) := by kernel_rfl
    obtain ⟨fl, hfl, he⟩ := Option.map_eq_some_iff.1 hm
    simp only [Prod.mk.injEq] at he
    obtain ⟨ht, ho, hc⟩ := he
    have := hall 2 fl hfl
    rw [hc, ho, ht] at this
    exact this
  have g3 : DataW.trod enc Tryd.prog w 0 sp true k 9 [v3] = some y3 := by
    have hm : ((Tryd.prog.fieldsOf 25)[3]?).map (fun fl => (fl.type, fl.offset, Tryd.prog.cellsOf fl.type)) = some (9, 3, 1) := by kernel_rfl
    obtain ⟨fl, hfl, he⟩ := Option.map_eq_some_iff.1 hm
    simp only [Prod.mk.injEq] at he
    obtain ⟨ht, ho, hc⟩ := he
    have := hall 3 fl hfl
    rw [hc, ho, ht] at this
    exact this
  have g4 : DataW.trod enc Tryd.prog w 0 sp true k 23 [v4] = some y4 := by
    have hm : ((Tryd.prog.fieldsOf 25)[4]?).map (fun fl => (fl.type, fl.offset, Tryd.prog.cellsOf fl.type)) = some (23, 4, 1) := by kernel_rfl
    obtain ⟨fl, hfl, he⟩ := Option.map_eq_some_iff.1 hm
    simp only [Prod.mk.injEq] at he
    obtain ⟨ht, ho, hc⟩ := he
    have := hall 4 fl hfl
    rw [hc, ho, ht] at this
    exact this
  have W := fun m h => hwy m (weights_five (by kernel_rfl : Tryd.prog.underlying 25 = some (.struct (Tryd.prog.fieldsOf 25))) (t0 := 3) (t1 := 3) (t2 := 9) (t3 := 9) (t4 := 23) (by kernel_rfl) y0 y1 y2 y3 y4 m h)
  obtain ⟨s0, e0, rfl, q0⟩ := DataW.trod_int Tryd.underlying3 g0
  injection e0 with e0 _
  subst e0
  have b0 := bounds_i64 q0
  obtain ⟨s1, e1, rfl, q1⟩ := DataW.trod_int Tryd.underlying3 g1
  injection e1 with e1 _
  subst e1
  have b1 := bounds_i64 q1
  obtain ⟨s2, e2, rfl, q2⟩ := DataW.trod_string Tryd.underlying9 g2
  injection e2 with e2 _
  subst e2
  obtain ⟨s3, e3, rfl, q3⟩ := DataW.trod_string Tryd.underlying9 g3
  injection e3 with e3 _
  subst e3
  have b2 : s2.data.toList.length ≤ reachBytes := W _ (.inl (by simp [DataW.weights]))
  have b3 : s3.data.toList.length ≤ reachBytes := W _ (.inr (.inl (by simp [DataW.weights])))
  have hcs : ∃ A len cap, v4 = .slice A len cap := by
    rcases open_slice Tryd.underlying23 g4 with ⟨h, _⟩ | ⟨a, len, cap, _, _, _, _, h, _⟩
    · injection h with h _; exact ⟨none, 0, 0, h⟩
    · injection h with h _; exact ⟨some a, len, cap, h⟩
  obtain ⟨A, len, cap, rfl⟩ := hcs
  obtain ⟨l, hl⟩ := edits_in (A := A) (len := len) (cap := cap) ⟨k, g4⟩ (DataW.trod_lt k _ _ _ g4) (fun m hm => W m (.inr (.inr hm)))
  have hll := hl.1
  subst hll
  exact ⟨(⟨s0, s1, s2, s3, l⟩, A, cap), rfl, b0, b1, b2, b3, hl⟩
theorem deeds_in {A : Option Addr} {len cap : Nat} {d : DataW H} {p : List MemPlace} (h : DataW.Trod enc Tryd.prog w 0 sp true 22 (.slice A len cap) d p) (lt : ∀ x ∈ p, x.block < w.heap.size)
    (hw : ∀ m ∈ d.weights Tryd.prog 22, m ≤ reachBytes) : ∃ l : List DRow, DeedsIn w A len cap l := by
  refine slice_in cDRow (OkDRow w) 5 72 Tryd.underlying22 (by kernel_rfl) (by kernel_rfl) (by decide) cDRow_len ?_ h lt hw
  exact fun n cs' y hy hwy => deed_one hy hwy
end
/-- A deed of the row, in whatever later world. -/
theorem deeds_at {w w' : World} {A : Option Addr} {len cap : Nat} {l : List DRow} (h : DeedsIn w A len cap l) (hb : Below w.heap.size w w') (k : Nat) (hk : k < len) :
    ∃ b o d Ad cd, A = some ⟨b, o, none⟩ ∧ l[k]? = some (d, Ad, cd) ∧ DeedAt w' d Ad cd ∧ (-9223372036854775808 ≤ d.kind ∧ d.kind ≤ 9223372036854775807) ∧ d.text.size ≤ 140737488351232 ∧
      w'.cell? ⟨b, o + k * 5, none⟩ = some (.int .i64 d.kind) ∧ w'.cell? ⟨b, o + k * 5 + 1, none⟩ = some (.int .i64 d.n) ∧ w'.cell? ⟨b, o + k * 5 + 2, none⟩ = some (.string d.name) ∧ w'.cell? ⟨b, o + k * 5 + 3, none⟩ = some (.string d.text) ∧ w'.cell? ⟨b, o + k * 5 + 4, none⟩ = some (.slice Ad d.edits.length cd) := by
  obtain ⟨hll, hrd, hlen, hok, hcap, _, _⟩ := h
  obtain ⟨b, o, rfl, hbB, hc⟩ := (hrd.below hb).2 (by omega)
  have cj : ∀ j, j < 5 → w'.cell? ⟨b, o + k * 5 + j, none⟩ = some ((cDRow (l.getD k default)).getD j undef) := fun j hj => by
    have := hc (k * 5 + j) (by rw [flat_length cDRow 5 cDRow_len, hll]; omega)
    rw [flat_getD cDRow 5 cDRow_len default l k j (by rw [hll]; exact hk) hj, ← Nat.add_assoc] at this
    exact this
  have hm : l.getD k default ∈ l := by rw [getD_some _ _ _ (by rw [hll]; exact hk)]; exact List.getElem_mem _
  have hx := hok _ hm
  refine ⟨b, o, (l.getD k default).1, (l.getD k default).2.1, (l.getD k default).2.2, rfl, ?_, ⟨(edsAt_of hx.2.2.2.2).after hb, hx.2.2.1, hx.2.1⟩, hx.1, hx.2.2.2.1, cj 0 (by omega), cj 1 (by omega), cj 2 (by omega), cj 3 (by omega), cj 4 (by omega)⟩
  rw [getElem?_of_getD l default k (by rw [hll]; exact hk)]
end Go.Proofs.YtigbnldmjafgmaaDoor

/- The walks of the laws' helpers textOf and worked. -/
namespace Go.Proofs.YtigbnldmjafgmaaDoor
open Go.RowKit
set_option linter.unusedVariables false

/-- A deed without edits. -/
def dd (kind n : Int) (name text : ByteArray) : Dd := ⟨kind, n, name, text, []⟩
theorem dd_at (w : World) (kind n : Int) (name text : ByteArray) (hn : name.size ≤ 140737488351232) (hm : -9223372036854775808 ≤ n ∧ n ≤ 9223372036854775807) : DeedAt w (dd kind n name text) none 0 :=
  ⟨⟨rfl, Nat.zero_le _, fun x hx => absurd hx List.not_mem_nil, ⟨rfl, fun h => absurd h (Nat.lt_irrefl 0)⟩⟩, hn, hm⟩
/-- The text of a name, if it is there. -/
def textP (P : List Pg) (name : ByteArray) : ByteArray × Bool := match pageOf name P with
  | some p => (p.t, true)
  | none => (⟨#[]⟩, false)
theorem houseD_text {P : List Pg} (hP : HOk P) (name : ByteArray) : (houseD P (dd 8 0 name ⟨#[]⟩)).1 = (textP P name).1 ∧ ((houseD P (dd 8 0 name ⟨#[]⟩)).2.1 == 0) = (textP P name).2 ∧ (houseD P (dd 8 0 name ⟨#[]⟩)).2.2 = P := by
  have e : ∀ x, dd 8 0 name ⟨#[]⟩ = x → x.kind = 8 ∧ x.name = name := fun x h => by subst h; exact ⟨rfl, rfl⟩
  obtain ⟨d, hd⟩ : ∃ d, dd 8 0 name ⟨#[]⟩ = d := ⟨_, rfl⟩
  obtain ⟨hk, hnm⟩ := e d hd
  rw [hd]
  unfold textP houseD
  rw [if_neg (by omega), if_neg (show ¬ d.kind = 1 by omega), hnm]
  cases ho : pageOf name P with
  | none =>
    obtain ⟨_, hpl⟩ := pageOf_none ho
    by_cases hn : nameE name ≠ 0
    · rw [if_pos hn]
      exact ⟨rfl, by simpa using hn, rfl⟩
    · rw [if_neg hn, hpl 0, if_pos (by decide)]
      exact ⟨rfl, rfl, rfl⟩
  | some p =>
    obtain ⟨hpn, i, hi, hpi, hpl⟩ := pageOf_some ho
    have hn : nameE name = 0 := by rw [← hpn]; exact hP.nm p (pageOf_mem ho)
    have hg : P.getD i pg0 = p := by rw [List.getD_eq_getElem?_getD, List.getElem?_eq_getElem hi, hpi]; rfl
    have hD : pageD p d = (p.t, 0, p) := by
      unfold pageD
      rw [if_neg (by omega), if_neg (by omega), if_neg (by omega), if_neg (by omega), if_neg (by omega), if_neg (by omega), if_neg (by omega)]
    rw [if_neg (by rw [hn]; decide), hpl 0, if_neg (by omega), if_neg (show ¬ d.kind = 9 by omega), Nat.zero_add, Int.toNat_natCast, hg, hD, ← hpi]
    exact ⟨rfl, rfl, set_same P i hi⟩
theorem buildDeed : ∀ (w : World) (name : ByteArray), (Instr.build 25 #[(0, .int .i64 8), (2, .string name)]).run Tryd.prog w = .ok (.agg #[.int .i64 8, .int .i64 0, .string name, .string ⟨#[]⟩, .slice none 0 0]) w := fun w name => run_build w 25 _ _ (by kernel_rfl)
theorem textOf_law {w0 : World} {own : Nat → Nat} {w : World} {gh : Nat} {Q : List (Pl × Pg)} {P : List Pg} (h : InLaw w0 own w gh Q P) (ht : Tab w) (name : ByteArray) (hn : name.size ≤ 140737488351232) :
    Calls Tryd.prog 15 #[.pointer (some ⟨gh, 0, none⟩), .string name] w fun e w' => e = .returned (.tuple #[.string (textP P name).1, .bool (textP P name).2]) ∧ DoTo w0 own w gh Q P w' := by
  obtain ⟨e1, e2, e3⟩ := houseD_text h.ok name
  have D := do_law h ht (dd 8 0 name ⟨#[]⟩) none 0 (dd_at w _ _ _ _ hn (by decide))
  have hb := buildDeed w name
  rw [e1, e3] at D
  have E2 := Lib.hid e2
  generalize (houseD P (dd 8 0 name ⟨#[]⟩)).2.1 = E at *
  generalize (textP P name).1 = T at *
  generalize (textP P name).2 = B at *
  have D := Lib.hid D
  clear e1 e2 e3 h
  go_enter Tryd.func15, Tryd.ntmps15
  go_wp2_with fail
  refine D.out.mono ?_
  rintro e w1 ⟨rfl, hd⟩
  have q2 : (E == 0) = B := E2.out
  go_wp2
  go_ret2
  exact ⟨rfl, hd⟩
theorem textOf_lone {w0 w : World} {gh : Nat} {P : List Pg} (h : Lone w0 gh P w) (ht : Tab w) (name : ByteArray) (hn : name.size ≤ 140737488351232) :
    Calls Tryd.prog 15 #[.pointer (some ⟨gh, 0, none⟩), .string name] w fun e w' => e = .returned (.tuple #[.string (textP P name).1, .bool (textP P name).2]) ∧ Lone w0 gh P w' := by
  obtain ⟨own, Q, h⟩ := h
  exact (textOf_law h ht name hn).mono fun e w' ⟨he, hh⟩ => ⟨he, hh.lone⟩

/-- The pages that deeds leave. -/
noncomputable def workP (l : List DRow) : List Pg := l.foldl (fun P x => (houseD P x.1).2.2) []
theorem workP_snoc (l : List DRow) (k : Nat) (x : DRow) (h : l[k]? = some x) : workP (l.take (k + 1)) = (houseD (workP (l.take k)) x.1).2.2 := by
  obtain ⟨hk, hx⟩ := List.getElem?_eq_some_iff.1 h
  unfold workP
  rw [List.take_succ_eq_append_getElem hk, List.foldl_append, hx]
  rfl
/-- A new house. -/
theorem new_law {own : Nat → Nat} {w : World} (hb : Based own w) :
    Calls Tryd.prog 26 #[] w fun e w' => e = .returned (.pointer (some ⟨w.heap.size, 0, none⟩)) ∧ ∃ own', InLaw w own' w' w.heap.size [] [] ∧ ∀ k, k < w.heap.size → own' k = own k := by
  refine (newHouse own w).mono fun e w' ⟨he, hh, hbl⟩ => ⟨he, _, ⟨hbl, hh, rfl, HOk.nil, fun k hk => ?_, fun k hk => ?_, fun i hi => ?_⟩, fun k hk => updO_lt own hk⟩
  · by_cases h : k < w.heap.size
    · rw [updO_lt own h]; exact Nat.lt_of_lt_of_le (hb k h) hbl.size
    · rw [updO_ge own (by omega)]
      have := hh.lt w.heap.size (List.mem_cons_self ..)
      exact this
  · rw [updO_lt own hk]; exact hb k hk
  · rcases List.mem_cons.1 hi with rfl | h
    · exact Nat.le_refl _
    · cases h
theorem worked_law {own : Nat → Nat} {w : World} (hb : Based own w) (ht : Tab w) (A : Option Addr) (len cap : Nat) (l : List DRow) (w00 : World) (hl : DeedsIn w00 A len cap l) (hw : Below w00.heap.size w00 w) :
    Calls Tryd.prog 11 #[.slice A len cap] w fun e w' => ∃ gh, e = .returned (.pointer (some ⟨gh, 0, none⟩)) ∧ ∃ own' Q, InLaw w own' w' gh Q (workP l) ∧ ∀ k, k < w.heap.size → own' k = own k := by
  have hlen : len ≤ 1954687338211 := by have := hl.2.2.1; omega
  have N := Lib.hid (new_law hb)
  have Hll := Lib.hid hl.1
  go_enter Tryd.func11, Tryd.ntmps11
  go_wp2_with fail
  refine N.out.mono ?_
  rintro e w1 ⟨rfl, own1, h1, hs1⟩
  go_wp2
  go_loopw [5, 11] (fun _ i wr => ∃ (k : Nat), k ≤ len ∧ i = .int .i64 k ∧ ∃ own' Q, InLaw w own' wr w.heap.size Q (workP (l.take k)) ∧ ∀ k, k < w.heap.size → own' k = own k) (fun _ i _ => len - (intOf i).toNat)
  case atStart => exact ⟨0, Nat.zero_le _, rfl, own1, [], by rw [List.take_zero]; exact h1, hs1⟩
  case round =>
    obtain ⟨k, hk, rfl, own2, Q, h2, hs2⟩ := hrel
    by_cases hlt : k < len
    · have hbr := chain h2.below hw
      obtain ⟨b, o, d, Ad, cd, rfl, hx, hd, hkd, _, c0, c1, c2, c3, c4⟩ := deeds_at hl hbr k hlt
      have Hx := Lib.hid (workP_snoc l k _ hx)
      have hba : Below wr.heap.size wr (wr.alloc (Obj.cells #[.int .i64 d.kind, .int .i64 d.n, .string d.name, .string d.text, .slice Ad d.edits.length cd] 25)) := (Below.refl _ _).alloc (Nat.le_refl _) _
      have D := Lib.hid (do_law (h2.after hba) (ht.after (chain hba h2.below)) d Ad cd (hd.after hba))
      have hbd := Blk.new wr 25 #[.int .i64 d.kind, .int .i64 d.n, .string d.name, .string d.text, .slice Ad d.edits.length cd]
      have b0 := hbd.cell 0
      have b1 := hbd.cell 1
      have b2 := hbd.cell 2
      have b3 := hbd.cell 3
      have b4 := hbd.cell 4
      have hbz := h2.below.size
      clear h2 hd hx hba hbd
      go_wp2_with fail
      refine D.out.mono ?_
      rintro e w3 ⟨rfl, own3, Q3, h3, hg3, _⟩
      have e3 := Hx.out
      rw [← e3] at h3
      have hs3 : ∀ k, k < w.heap.size → own3 k = own k := fun k hk => by
        rw [hg3.same k (by simp; omega), ← hs2 k hk]
        exact if_pos (by omega)
      clear b0 b1 b2 b3 b4 D
      go_wp2
      go_roundw
      case rel => exact ⟨k + 1, by omega, by go_num, own3, Q3, h3, hs3⟩
      case measure => simp only [intOf]; omega
    · obtain rfl : k = len := by omega
      rw [List.take_of_length_le (by rw [Hll.out]; exact Nat.le_refl _)] at h2
      go_wp2
      go_ret
      exact ⟨_, rfl, own2, Q, h2, hs2⟩
end Go.Proofs.YtigbnldmjafgmaaDoor

/- A house in a law beside blocks that are not its own: these stay. -/
namespace Go.Proofs.YtigbnldmjafgmaaDoor
open Go.RowKit
set_option linter.unusedVariables false

/-- A house in a law, and blocks of others. -/
def LoneK (w0 : World) (gh : Nat) (P : List Pg) (K : Nat → Prop) (w : World) : Prop := ∃ own Q, InLaw w0 own w gh Q P ∧ ∀ b, K b → b < w.heap.size ∧ own b ∉ idsH gh Q
section
variable {w0 w w' : World} {gh : Nat} {P : List Pg} {K K' : Nat → Prop}
theorem LoneK.lone (h : LoneK w0 gh P K w) : Lone w0 gh P w := by obtain ⟨o, Q, h, _⟩ := h; exact ⟨o, Q, h⟩
theorem LoneK.weak (h : LoneK w0 gh P K w) (hk : ∀ b, K' b → K b) : LoneK w0 gh P K' w := by
  obtain ⟨o, Q, h, h2⟩ := h
  exact ⟨o, Q, h, fun b hb => h2 b (hk b hb)⟩
theorem LoneK.of (h : Lone w0 gh P w) : LoneK w0 gh P (· < w0.heap.size) w := by
  obtain ⟨o, Q, h⟩ := h
  refine ⟨o, Q, h, fun b hb => ⟨Nat.lt_of_lt_of_le hb h.below.size, fun hi => ?_⟩⟩
  have := h.ids _ hi
  have := h.low b hb
  omega
theorem LoneK.lt (h : LoneK w0 gh P K w) : ∀ b, K b → b < w.heap.size := by obtain ⟨o, Q, h, h2⟩ := h; exact fun b hb => (h2 b hb).1
/-- What is new stays, too. -/
theorem LoneK.after (h : LoneK w0 gh P K w) (hb : Below w.heap.size w w') : LoneK w0 gh P (fun b => K b ∨ (w.heap.size ≤ b ∧ b < w'.heap.size)) w' := by
  obtain ⟨o, Q, h, h2⟩ := h
  have hlt := h.house.lt
  refine ⟨_, Q, h.after hb, fun b hk => ?_⟩
  rcases hk with hk | ⟨h3, h4⟩
  · obtain ⟨h5, h6⟩ := h2 b hk
    refine ⟨Nat.lt_of_lt_of_le h5 hb.size, ?_⟩
    unfold newO
    rw [if_pos h5]
    exact h6
  · refine ⟨h4, ?_⟩
    unfold newO
    rw [if_neg (by omega)]
    intro hi
    have := hlt b hi
    omega
theorem LoneK.stay (h : LoneK w0 gh P K w) (hb : Below w.heap.size w w') : LoneK w0 gh P K w' := (h.after hb).weak fun b hk => .inl hk
theorem kept_below (hK : ∀ b, K b → b < w.heap.size) (hb : Below w.heap.size w w') : Kept K w w' := Kept.of_below hb hK
theorem DoTo.keep {own : Nat → Nat} {Q : List (Pl × Pg)} {P' : List Pg} (h : InLaw w0 own w gh Q P) (h2 : ∀ b, K b → b < w.heap.size ∧ own b ∉ idsH gh Q) (hd : DoTo w0 own w gh Q P' w') : LoneK w0 gh P' K w' ∧ Kept K w w' := by
  obtain ⟨o', Q', g1, g2, g3⟩ := hd
  refine ⟨⟨o', Q', g1, fun b hb => ?_⟩, g2.os, g2.tape, g2.output, g2.size, fun b hb => g2.block b (h2 b hb).1 (h2 b hb).2⟩
  obtain ⟨h5, h6⟩ := h2 b hb
  refine ⟨Nat.lt_of_lt_of_le h5 g2.size, fun hi => ?_⟩
  rw [g2.same b h5] at hi
  rcases g3 _ hi with h7 | h7
  · exact h6 h7
  · have := h.based b h5
    omega
theorem do_keep (h : LoneK w0 gh P K w) (ht : Tab w) (d : Dd) (Ad : Option Addr) (cd : Nat) (hd : DeedAt w d Ad cd) :
    Calls Tryd.prog 12 #[.pointer (some ⟨gh, 0, none⟩), .agg (cDeed d Ad cd)] w fun e w' => e = .returned (.tuple #[.string (houseD P d).1, .int .i64 (houseD P d).2.1]) ∧ LoneK w0 gh (houseD P d).2.2 K w' ∧ Kept K w w' := by
  obtain ⟨own, Q, h, h2⟩ := h
  exact (do_law h ht d Ad cd hd).mono fun e w' ⟨he, hh⟩ => ⟨he, DoTo.keep h h2 hh⟩
theorem textOf_keep (h : LoneK w0 gh P K w) (ht : Tab w) (name : ByteArray) (hn : name.size ≤ 140737488351232) :
    Calls Tryd.prog 15 #[.pointer (some ⟨gh, 0, none⟩), .string name] w fun e w' => e = .returned (.tuple #[.string (textP P name).1, .bool (textP P name).2]) ∧ LoneK w0 gh P K w' ∧ Kept K w w' := by
  obtain ⟨own, Q, h, h2⟩ := h
  exact (textOf_law h ht name hn).mono fun e w' ⟨he, hh⟩ => ⟨he, DoTo.keep h h2 hh⟩
end
theorem OwnK.ofKept {T : TypeId} {s : Nat} {w w' : World} {K K1 : Nat → Prop} {A : Option Addr} {n c : Nat} {xs : List Value} (h : OwnK T s w K A n c xs) (hk : Kept K1 w w') (hq : ∀ b, ¬ K b → b < w.heap.size → K1 b) : OwnK T s w' K A n c xs :=
  h.keep fun b hb _ hl => hk.block b (hq b hb hl)
end Go.Proofs.YtigbnldmjafgmaaDoor

/- The walk of the laws' helper houses; the names of a house in a law. -/
namespace Go.Proofs.YtigbnldmjafgmaaDoor
open Go.RowKit Go.Lib
set_option linter.unusedVariables false

/-- The names of pages, sorted, as strings. -/
def namesB (P : List Pg) : List ByteArray := (namesP P).map fun z => ⟨z.toArray⟩
theorem namesB_len (P : List Pg) : (namesB P).length = P.length := by unfold namesB namesP; rw [List.length_map, List.length_mergeSort, List.length_map]
theorem names_cells : ∀ (l : List (List UInt8)), l.map encStr = (l.map fun z => (⟨z.toArray⟩ : ByteArray)).flatMap cStr
  | [] => rfl
  | x :: l => by rw [List.map_cons, List.map_cons, List.flatMap_cons, names_cells l]; rfl
theorem names_lone {w0 w : World} {gh : Nat} {P : List Pg} (h : Lone w0 gh P w) :
    Calls Tryd.prog 14 #[.pointer (some ⟨gh, 0, none⟩)] w fun e w' => ∃ A c, e = .returned (.slice A P.length c) ∧ OwnK 9 1 w' (· < w.heap.size) A P.length c ((namesB P).flatMap cStr) ∧ Below w.heap.size w w' := by
  obtain ⟨own, Q, h⟩ := h
  have hl : Q.length = P.length := by rw [← h.pages, List.length_map]
  refine (names_any own w gh Q h.house h.few).mono fun e w' ⟨A, c, he, hr, hb⟩ => ?_
  rw [h.pages, names_cells] at hr
  rw [hl] at he hr
  exact ⟨A, c, he, hr, hb⟩
theorem Lone.new {w : World} : Calls Tryd.prog 26 #[] w fun e w' => e = .returned (.pointer (some ⟨w.heap.size, 0, none⟩)) ∧ Lone w w.heap.size [] w' :=
  (new_law (own := fun k => k) (w := w) fun k hk => hk).mono fun e w' ⟨he, own', h, _⟩ => ⟨he, own', [], h⟩

def hsA : ByteArray := ⟨#[97]⟩
def hs1 : ByteArray := ⟨#[120, 121]⟩
def hs2 : ByteArray := ⟨#[120, 121, 122]⟩
def hsP1 : Pg := newP hsA hs1
def hsH2 : LH := [(98 :: hs1.data.toList, hs1), (101 :: writeL [(2, 0, ⟨#[122]⟩)], hs2)]
def hsP2 : Pg := ⟨hsA, hs2, [hs1], [], hsH2, 1⟩
def hsP3 : Pg := ⟨hsA, hs1, [], [hs2], hsH2 ++ [(98 :: hs1.data.toList, hs1)], 1⟩
theorem hs_name : nameE hsA = 0 := by decide +kernel
theorem hs_make : ce hs1 hs2 = 0 ∧ cv hs1 hs2 = 1 ∧ makeE hs1 hs2 = [(2, 0, ⟨#[122]⟩)] := by decide +kernel
theorem hs_edit : leafE hs1 [(98 :: hs1.data.toList, hs1)] [(2, 0, ⟨#[122]⟩)] = 0 ∧ leafT hs1 [(98 :: hs1.data.toList, hs1)] [(2, 0, ⟨#[122]⟩)] = hs2 := by decide +kernel
theorem hs_fits : fits hsH2 hs1 := by unfold fits; decide +kernel
theorem hs_new : houseD [] (dd 1 0 hsA hs1) = (⟨#[]⟩, 0, [hsP1]) := by
  unfold houseD
  rw [if_neg (by decide), if_neg (by show ¬ nameE hsA ≠ 0; rw [hs_name]; decide), if_pos (show (dd 1 0 hsA hs1).kind = 1 from rfl), if_neg (by decide), if_neg (by decide), if_neg (by decide)]
  rfl
theorem hs_ok : HOk [hsP1] := ⟨by decide, by simp, fun p hp => by rw [List.mem_singleton.1 hp]; exact hs_name⟩
theorem houseD_one {p : Pg} {d : Dd} (hn : p.name = hsA) (hd : d.name = hsA) (hk : 2 ≤ d.kind ∧ d.kind ≤ 10) (h9 : d.kind ≠ 9) : houseD [p] d = ((pageD p d).1, (pageD p d).2.1, [(pageD p d).2.2]) := by
  have h1 : nameE d.name = 0 := by rw [hd]; exact hs_name
  have h2 : placeN d.name [p] 0 = 0 := by unfold placeN; rw [if_pos (by rw [hn, hd])]; rfl
  unfold houseD
  rw [if_neg (by omega), if_neg (by rw [h1]; decide), if_neg (by omega), h2, if_neg (by decide), if_neg h9]
  rfl
theorem hs_made : houseD [hsP1] (dd 10 0 hsA hs2) = (⟨#[]⟩, 0, [hsP2]) := by
  have e : makeP hsP1 hs2 = (0, hsP2) := by
    unfold makeP
    rw [if_neg (by show ¬ ce hs1 hs2 ≠ 0; rw [hs_make.1]; decide), if_neg (by show ¬ 20 < cv hs1 hs2; rw [hs_make.2.1]; decide)]
    show editP hsP1 (makeE hs1 hs2) = _
    rw [hs_make.2.2]
    unfold editP
    have h1 : leafE hsP1.t hsP1.H [(2, 0, ⟨#[122]⟩)] = 0 := hs_edit.1
    have h2 : leafT hsP1.t hsP1.H [(2, 0, ⟨#[122]⟩)] = hs2 := hs_edit.2
    rw [if_neg (by simp), if_neg (by rw [h1]; decide)]
    unfold leafH
    rw [if_pos h1, h2]
    rfl
  rw [houseD_one rfl rfl ⟨by decide, by decide⟩ (by decide)]
  rw [pageD10 rfl]
  show ((⟨#[]⟩ : ByteArray), (makeP hsP1 hs2).1, [(makeP hsP1 hs2).2]) = _
  rw [e]
theorem hs_text (p : Pg) (hn : p.name = hsA) : houseD [p] (dd 8 0 hsA ⟨#[]⟩) = (p.t, 0, [p]) := by
  rw [houseD_one hn rfl ⟨by decide, by decide⟩ (by decide)]
  rw [pageD8 rfl]
theorem hs_back : houseD [hsP2] (dd 3 0 hsA ⟨#[]⟩) = (⟨#[]⟩, 0, [hsP3]) := by
  have e : backP hsP2 = (0, hsP3) := by
    unfold backP
    rw [if_neg (by decide), if_pos (show fits hsP2.H (hsP2.B.getLastD ⟨#[]⟩) from hs_fits)]
    rfl
  rw [houseD_one rfl rfl ⟨by decide, by decide⟩ (by decide)]
  rw [pageD3 rfl, e]
theorem hs_names (p : Pg) (hn : p.name = hsA) : namesB [p] = [hsA] := by
  unfold namesB namesP
  rw [List.map_cons, List.map_nil, hn, List.mergeSort_singleton]
  rfl
theorem buildDeedK : ∀ (w : World) (k : Int) (name : ByteArray), (Instr.build 25 #[(0, .int .i64 k), (2, .string name)]).run Tryd.prog w = .ok (.agg #[.int .i64 k, .int .i64 0, .string name, .string ⟨#[]⟩, .slice none 0 0]) w := fun w k name => run_build w 25 _ _ (by kernel_rfl)
theorem buildDeedT : ∀ (w : World) (k : Int) (name text : ByteArray), (Instr.build 25 #[(0, .int .i64 k), (2, .string name), (3, .string text)]).run Tryd.prog w = .ok (.agg #[.int .i64 k, .int .i64 0, .string name, .string text, .slice none 0 0]) w := fun w k name text => run_build w 25 _ _ (by kernel_rfl)
theorem buildDeedN : ∀ (w : World) (k n : Int) (name : ByteArray), (Instr.build 25 #[(0, .int .i64 k), (1, .int .i64 n), (2, .string name)]).run Tryd.prog w = .ok (.agg #[.int .i64 k, .int .i64 n, .string name, .string ⟨#[]⟩, .slice none 0 0]) w := fun w k n name => run_build w 25 _ _ (by kernel_rfl)
/-- Do at a deed without edits, its outcome given. -/
theorem do_told {w0 w : World} {gh : Nat} {P P' : List Pg} {T : ByteArray} {E : Int} (kind n : Int) (name text : ByteArray) (hR : houseD P (dd kind n name text) = (T, E, P')) (hn : name.size ≤ 140737488351232) (hm : -9223372036854775808 ≤ n ∧ n ≤ 9223372036854775807) (h : Lone w0 gh P w) (ht : Tab w) :
    Calls Tryd.prog 12 #[.pointer (some ⟨gh, 0, none⟩), .agg #[.int .i64 kind, .int .i64 n, .string name, .string text, .slice none 0 0]] w fun e w' => e = .returned (.tuple #[.string T, .int .i64 E]) ∧ Lone w0 gh P' w' := by
  have := do_lone h ht (dd kind n name text) none 0 (dd_at w kind n name text hn hm)
  rw [hR] at this
  exact this

set_option maxRecDepth 100000 in
set_option maxHeartbeats 2000000 in
theorem houses_any (w : World) (ht : Tab w) : Calls Tryd.prog 10 #[] w fun e w' => e = .returned (.bool true) ∧ Below w.heap.size w w' := by
  have bk := buildDeedK
  have bt := buildDeedT
  go_enter Tryd.func10, Tryd.ntmps10
  go_wp2_with fail
  refine (Lone.new (w := w)).mono ?_
  rintro e w1 ⟨rfl, h1⟩
  have D1 := Lib.hid (do_told 1 0 hsA hs1 hs_new (by decide) (by decide) h1 (ht.after h1.below))
  clear h1
  go_wp2_with fail
  refine D1.out.mono ?_
  rintro e w2 ⟨rfl, h2⟩
  have D2 := Lib.hid (do_told 10 0 hsA hs2 hs_made (by decide) (by decide) h2 (ht.after h2.below))
  clear h2 D1
  go_wp2_with fail
  refine D2.out.mono ?_
  rintro e w3 ⟨rfl, h3⟩
  have D3 := Lib.hid (do_told (T := ⟨#[120, 121, 122]⟩) 8 0 hsA ⟨#[]⟩ (hs_text hsP2 rfl) (by decide) (by decide) h3 (ht.after h3.below))
  clear h3 D2
  go_wp2_with fail
  refine D3.out.mono ?_
  rintro e w4 ⟨rfl, h4⟩
  have D4 := Lib.hid (do_told 3 0 hsA ⟨#[]⟩ hs_back (by decide) (by decide) h4 (ht.after h4.below))
  clear h4 D3
  go_wp2_with fail
  refine D4.out.mono ?_
  rintro e w5 ⟨rfl, h5⟩
  have D5 := Lib.hid (do_told (T := ⟨#[120, 121]⟩) 8 0 hsA ⟨#[]⟩ (hs_text hsP3 rfl) (by decide) (by decide) h5 (ht.after h5.below))
  clear h5 D4
  go_wp2_with fail
  refine D5.out.mono ?_
  rintro e w6 ⟨rfl, h6⟩
  clear D5
  go_wp2_with fail
  refine (good_fresh [0, 0, 0, 0, 0] 5 5 rfl (by decide) _ _).mono ?_
  rintro e w7 ⟨rfl, hb7⟩
  have q0 : ([0, 0, 0, 0, 0] : List Int).all (· == 0) = true := by decide
  have h7 := h6.after hb7
  have N := Lib.hid (names_lone h7)
  rw [hs_names hsP3 rfl] at N
  have hb0 := h7.below
  clear h6 h7 hb7
  go_wp2_with fail
  refine N.out.mono ?_
  rintro e w8 ⟨A, c, rfl, hown, hb8⟩
  have hb8 := chain hb8 hb0
  have E := Lib.hid (fun c' => equalStr_any A (some ⟨w8.heap.size, 0, none⟩) 1 1 c c' _ _ [hsA] [hsA] (w8.alloc (Obj.cells #[.string hsA] 9)) (by decide) (by decide) rfl rfl (hown.alloc _).toReads (Reads.made w8 #[.string hsA] 9 1 1 rfl))
  have hba := hb8.alloc hb8.size (Obj.cells #[.string hsA] 9)
  clear N hown
  go_wp2_with fail
  refine (E.out _).mono ?_
  rintro e w9 ⟨rfl, hb9⟩
  go_wp2
  go_ret
  exact ⟨by simp, chain hb9 hba⟩
end Go.Proofs.YtigbnldmjafgmaaDoor

/- Plain: Lyndon words; each word falls into such words in one way, none less than the next (Chen, Fox, Lyndon); how Duval finds them. -/
namespace Go.Proofs.YtigbnldmjafgmaaDoor
set_option linter.unusedVariables false

/-- One text stands ahead of another one. -/
def llt : List UInt8 → List UInt8 → Bool
  | _, [] => false
  | [], _ :: _ => true
  | x :: a, y :: b => decide (x < y) || (x == y && llt a b)
theorem u8_irrefl (x : UInt8) : ¬ x < x := by rw [UInt8.lt_iff_toNat_lt]; omega
theorem u8_trans {x y z : UInt8} (h : x < y) (k : y < z) : x < z := by rw [UInt8.lt_iff_toNat_lt] at *; omega
theorem u8_tri (x y : UInt8) : x < y ∨ x = y ∨ y < x := by
  rcases Nat.lt_trichotomy x.toNat y.toNat with h | h | h
  · exact .inl (UInt8.lt_iff_toNat_lt.2 h)
  · exact .inr (.inl (UInt8.toNat_inj.1 h))
  · exact .inr (.inr (UInt8.lt_iff_toNat_lt.2 h))
theorem llt_cons (x y : UInt8) (a b : List UInt8) : llt (x :: a) (y :: b) = true ↔ x < y ∨ (x = y ∧ llt a b = true) := by
  rw [llt, Bool.or_eq_true, Bool.and_eq_true, decide_eq_true_iff, beq_iff_eq]
theorem llt_irrefl : ∀ a : List UInt8, llt a a = false
  | [] => rfl
  | x :: a => by
    rw [Bool.eq_false_iff]
    intro h
    rcases (llt_cons x x a a).1 h with h | ⟨_, h⟩
    · exact u8_irrefl x h
    · rw [llt_irrefl a] at h; cases h
theorem llt_trans : ∀ {a b c : List UInt8}, llt a b = true → llt b c = true → llt a c = true
  | _, [], _, h, _ => by simp [llt] at h
  | _, _ :: _, [], _, h => by simp [llt] at h
  | [], y :: b, z :: c, _, _ => rfl
  | x :: a, y :: b, z :: c, h, k => by
    rw [llt_cons] at h k ⊢
    rcases h with h | ⟨rfl, h⟩
    · rcases k with k | ⟨rfl, k⟩
      · exact .inl (u8_trans h k)
      · exact .inl h
    · rcases k with k | ⟨rfl, k⟩
      · exact .inl k
      · exact .inr ⟨rfl, llt_trans h k⟩
theorem llt_tri : ∀ a b : List UInt8, llt a b = true ∨ a = b ∨ llt b a = true
  | [], [] => .inr (.inl rfl)
  | [], _ :: _ => .inl rfl
  | _ :: _, [] => .inr (.inr rfl)
  | x :: a, y :: b => by
    rw [llt_cons, llt_cons]
    rcases u8_tri x y with h | rfl | h
    · exact .inl (.inl h)
    · rcases llt_tri a b with h | rfl | h
      · exact .inl (.inr ⟨rfl, h⟩)
      · exact .inr (.inl rfl)
      · exact .inr (.inr (.inr ⟨rfl, h⟩))
    · exact .inr (.inr (.inl h))
theorem llt_app (l a b : List UInt8) : llt (l ++ a) (l ++ b) = llt a b := by
  induction l with
  | nil => rfl
  | cons x l ih => rw [List.cons_append, List.cons_append, llt, ih]; simp
theorem llt_nil (a : List UInt8) : llt a [] = false := by cases a <;> rfl
theorem llt_prefix (a b : List UInt8) (h : b ≠ []) : llt a (a ++ b) = true := by
  have := llt_app a [] b
  rw [List.append_nil] at this
  rw [this]
  cases b with
  | nil => exact absurd rfl h
  | cons x b => rfl
/-- Not greater. -/
def lle (a b : List UInt8) : Prop := llt b a = false
theorem lle_refl (a : List UInt8) : lle a a := llt_irrefl a
theorem lle_of_lt {a b : List UInt8} (h : llt a b = true) : lle a b := by
  unfold lle
  rw [Bool.eq_false_iff]
  intro k
  have := llt_trans h k
  rw [llt_irrefl] at this; cases this
theorem lle_iff {a b : List UInt8} : lle a b ↔ llt a b = true ∨ a = b := by
  constructor
  · intro h
    rcases llt_tri a b with k | k | k
    · exact .inl k
    · exact .inr k
    · unfold lle at h; rw [h] at k; cases k
  · rintro (h | rfl)
    · exact lle_of_lt h
    · exact lle_refl _
theorem lle_trans {a b c : List UInt8} (h : lle a b) (k : lle b c) : lle a c := by
  rw [lle_iff] at *
  rcases h with h | rfl
  · rcases k with k | rfl
    · exact .inl (llt_trans h k)
    · exact .inl h
  · exact k
theorem lle_antisymm {a b : List UInt8} (h : lle a b) (k : lle b a) : a = b := by
  rcases lle_iff.1 h with h | h
  · unfold lle at k; rw [h] at k; cases k
  · exact h
theorem llt_of_lt_le {a b c : List UInt8} (h : llt a b = true) (k : lle b c) : llt a c = true := by
  rcases lle_iff.1 k with k | rfl
  · exact llt_trans h k
  · exact h
theorem llt_of_le_lt {a b c : List UInt8} (h : lle a b) (k : llt b c = true) : llt a c = true := by
  rcases lle_iff.1 h with h | rfl
  · exact llt_trans h k
  · exact k
theorem lle_prefix (a b : List UInt8) : lle a (a ++ b) := by
  rw [lle_iff]
  rcases b with _ | ⟨x, b⟩
  · exact .inr (by rw [List.append_nil])
  · exact .inl (llt_prefix a _ (by simp))

/-- They differ at a place that both have. -/
def Dif (a b : List UInt8) : Prop := ∃ l x y a' b', a = l ++ x :: a' ∧ b = l ++ y :: b' ∧ x < y
theorem Dif.lt {a b : List UInt8} (h : Dif a b) : llt a b = true := by
  obtain ⟨l, x, y, a', b', rfl, rfl, hxy⟩ := h
  rw [llt_app, llt_cons]
  exact .inl hxy
theorem Dif.app {a b : List UInt8} (h : Dif a b) (c d : List UInt8) : Dif (a ++ c) (b ++ d) := by
  obtain ⟨l, x, y, a', b', rfl, rfl, hxy⟩ := h
  exact ⟨l, x, y, a' ++ c, b' ++ d, by simp, by simp, hxy⟩
theorem llt_dif : ∀ {a b : List UInt8}, llt a b = true → Dif a b ∨ ∃ c, c ≠ [] ∧ b = a ++ c
  | _, [], h => by rw [llt_nil] at h; cases h
  | [], y :: b, _ => .inr ⟨y :: b, by simp, rfl⟩
  | x :: a, y :: b, h => by
    rcases (llt_cons x y a b).1 h with h | ⟨hxy, h⟩
    · exact .inl ⟨[], x, y, a, b, rfl, rfl, h⟩
    · rcases llt_dif h with ⟨l, p, q, a', b', ha, hb, hpq⟩ | ⟨c, hc, hb⟩
      · exact .inl ⟨x :: l, p, q, a', b', by rw [ha]; rfl, by rw [hb, hxy]; rfl, hpq⟩
      · exact .inr ⟨c, hc, by rw [hb, hxy]; rfl⟩

/-- A Lyndon word: less than all its proper ends. -/
def Lyn (w : List UInt8) : Prop := w ≠ [] ∧ ∀ u v, w = u ++ v → u ≠ [] → v ≠ [] → llt w v = true
theorem lyn_one (x : UInt8) : Lyn [x] := by
  refine ⟨by simp, fun u v h hu hv => ?_⟩
  have h1 := congrArg List.length h
  have h2 := List.length_pos_iff.2 hu
  have h3 := List.length_pos_iff.2 hv
  rw [List.length_append, List.length_singleton] at h1
  omega
theorem Lyn.le {w u v : List UInt8} (h : Lyn w) (e : w = u ++ v) (hv : v ≠ []) : lle w v := by
  by_cases hu : u = []
  · rw [hu, List.nil_append] at e; rw [e]; exact lle_refl _
  · exact lle_of_lt (h.2 u v e hu hv)
/-- Of two in order, both together are one. -/
theorem lyn_join {u v : List UInt8} (hu : Lyn u) (hv : Lyn v) (h : llt u v = true) : Lyn (u ++ v) := by
  have key : llt (u ++ v) v = true := by
    rcases llt_dif h with hd | ⟨c, hc, rfl⟩
    · have := (hd.app v []).lt
      rwa [List.append_nil] at this
    · rw [llt_app]
      exact hv.2 u c rfl hu.1 hc
  refine ⟨by simp [hu.1], fun x y e hx hy => ?_⟩
  rcases List.append_eq_append_iff.1 e with ⟨t, ht, hvy⟩ | ⟨t, ht, hyv⟩
  · -- x = u ++ t, v = t ++ y
    by_cases h0 : t = []
    · rw [h0, List.nil_append] at hvy
      rw [← hvy]; exact key
    · exact llt_trans key (hv.2 t y hvy h0 hy)
  · -- u = x ++ t, y = t ++ v
    by_cases h0 : t = []
    · rw [h0, List.nil_append] at hyv
      rw [hyv]; exact key
    · rcases llt_dif (hu.2 x t ht hx h0) with hd | ⟨c, hc, e2⟩
      · rw [hyv]; exact (hd.app v v).lt
      · have h1 := congrArg List.length ht
        have h2 := congrArg List.length e2
        have h3 := List.length_pos_iff.2 hx
        rw [List.length_append] at h1 h2
        omega
/-- A greater byte in the place of one, what is behind it cut off. -/
theorem lyn_raise {p q : List UInt8} {c d : UInt8} (h : Lyn (p ++ d :: q)) (hc : d < c) : Lyn (p ++ [c]) := by
  refine ⟨by simp, fun x y e hx hy => ?_⟩
  obtain ⟨t, z, rfl⟩ : ∃ t z, y = t ++ [z] := by
    rcases List.eq_nil_or_concat y with rfl | ⟨t, z, rfl⟩
    · exact absurd rfl hy
    · exact ⟨t, z, by simp⟩
  rw [← List.append_assoc] at e
  obtain ⟨e1, e2⟩ := List.append_inj' e rfl
  injection e2 with e2 _
  subst e2
  subst e1
  have hxl := List.length_pos_iff.2 hx
  have hlt := h.2 x (t ++ d :: q) (by simp) hx (by simp)
  rcases llt_dif hlt with ⟨l, a, b, a', b', h1, h2, hab⟩ | ⟨r, _, h2⟩
  · -- where they differ
    rcases List.append_eq_append_iff.1 h2 with ⟨r, hr, h3⟩ | ⟨r, hr, h3⟩
    · -- l = t ++ r, d :: q = r ++ b :: b'
      cases r with
      | nil =>
        rw [List.append_nil] at hr
        subst hr
        injection h3 with h3 _
        subst h3
        -- x ++ l ++ d :: q = l ++ a :: a'
        have h4 : (x ++ l) ++ (d :: q) = l ++ (a :: a') := h1
        rcases List.append_eq_append_iff.1 h4 with ⟨r2, hr2, h5⟩ | ⟨r2, hr2, h5⟩
        · have := congrArg List.length hr2
          rw [List.length_append, List.length_append] at this
          omega
        · cases r2 with
          | nil =>
            have := congrArg List.length hr2
            rw [List.length_append, List.length_append, List.length_nil] at this
            omega
          | cons a2 r2 =>
            injection h5 with h5 h6
            subst h5
            exact Dif.lt ⟨l, a, c, r2 ++ [c], [], by rw [hr2]; simp, rfl, u8_trans hab hc⟩
      | cons d2 r =>
        injection h3 with h3 h4
        subst h3
        subst hr
        -- x ++ t ++ d :: q = t ++ d :: r ++ a :: a'
        have h5 : (x ++ t) ++ (d :: q) = t ++ (d :: (r ++ a :: a')) := by rw [h1]; simp
        rcases List.append_eq_append_iff.1 h5 with ⟨r2, hr2, h6⟩ | ⟨r2, hr2, h6⟩
        · have := congrArg List.length hr2
          rw [List.length_append, List.length_append] at this
          omega
        · cases r2 with
          | nil =>
            have := congrArg List.length hr2
            rw [List.length_append, List.length_append, List.length_nil] at this
            omega
          | cons a2 r2 =>
            injection h6 with h6 h7
            subst h6
            exact Dif.lt ⟨t, d, c, r2 ++ [c], [], by rw [hr2]; simp, rfl, hc⟩
    · -- t = l ++ r, b :: b' = r ++ d :: q
      cases r with
      | nil =>
        rw [List.append_nil] at hr
        subst hr
        injection h3 with h3 _
        subst h3
        have h4 : (x ++ t) ++ (b :: q) = t ++ (a :: a') := h1
        rcases List.append_eq_append_iff.1 h4 with ⟨r2, hr2, h5⟩ | ⟨r2, hr2, h5⟩
        · have := congrArg List.length hr2
          rw [List.length_append, List.length_append] at this
          omega
        · cases r2 with
          | nil =>
            have := congrArg List.length hr2
            rw [List.length_append, List.length_append, List.length_nil] at this
            omega
          | cons a2 r2 =>
            injection h5 with h5 h6
            subst h5
            exact Dif.lt ⟨t, a, c, r2 ++ [c], [], by rw [hr2]; simp, rfl, u8_trans hab hc⟩
      | cons b2 r =>
        injection h3 with h3 h4
        subst h3
        subst hr
        -- x ++ (l ++ b :: r) ++ d :: q = l ++ a :: a'
        have h5 : (x ++ (l ++ b :: r)) ++ (d :: q) = l ++ (a :: a') := h1
        rcases List.append_eq_append_iff.1 h5 with ⟨r2, hr2, h6⟩ | ⟨r2, hr2, h6⟩
        · have := congrArg List.length hr2
          simp only [List.length_append, List.length_cons] at this
          omega
        · cases r2 with
          | nil =>
            have := congrArg List.length hr2
            simp only [List.length_append, List.length_cons, List.length_nil] at this
            omega
          | cons a2 r2 =>
            injection h6 with h6 h7
            subst h6
            exact Dif.lt ⟨l, a, b, r2 ++ [c], r ++ [c], by rw [hr2]; simp, by simp, hab⟩
  · have := congrArg List.length h2
    simp only [List.length_append, List.length_cons] at this
    omega

/-- Words that fall in order, none less than the next, all Lyndon words. -/
structure Cfl (s : List UInt8) (F : List (List UInt8)) : Prop where
  flat : F.flatten = s
  lyn : ∀ f ∈ F, Lyn f
  fall : F.Pairwise fun a b => lle b a
theorem Cfl.nil : Cfl [] [] := ⟨rfl, by simp, List.Pairwise.nil⟩
theorem Cfl.one {w : List UInt8} (h : Lyn w) : Cfl w [w] := ⟨by simp, fun f hf => by rw [List.mem_singleton] at hf; rw [hf]; exact h, by simp⟩
/-- The last one is no greater than any end. -/
theorem last_least : ∀ (F : List (List UInt8)) (f u v : List UInt8), (∀ g ∈ F ++ [f], Lyn g) → (F ++ [f]).Pairwise (fun a b => lle b a) → (F ++ [f]).flatten = u ++ v → v ≠ [] → lle f v
  | [], f, u, v, hl, _, e, hv => by
    have e : f = u ++ v := by simpa using e
    exact (hl f (by simp)).le e hv
  | g :: F, f, u, v, hl, hp, e, hv => by
    rw [List.cons_append, List.flatten_cons] at e
    have hp' := List.pairwise_cons.1 hp
    rcases List.append_eq_append_iff.1 e with ⟨t, ht, h2⟩ | ⟨t, ht, h2⟩
    · -- u = g ++ t
      exact last_least F f t v (fun x hx => hl x (by simp at hx ⊢; exact .inr hx)) hp'.2 h2 hv
    · -- g = u ++ t, v = t ++ rest
      have hfg : lle f g := hp'.1 f (by simp)
      by_cases h0 : t = []
      · rw [h0, List.nil_append] at h2
        refine last_least F f [] v (fun x hx => hl x (by simp at hx ⊢; exact .inr hx)) hp'.2 (by rw [h2]; rfl) hv
      · rw [h2]
        exact lle_trans hfg (lle_trans ((hl g (by simp)).le ht h0) (lle_prefix _ _))
theorem snoc_of {α : Type} {F : List α} (h : F ≠ []) : ∃ G f, F = G ++ [f] := by
  rcases List.eq_nil_or_concat F with rfl | ⟨G, f, rfl⟩
  · exact absurd rfl h
  · exact ⟨G, f, by simp⟩
theorem cfl_nil {F : List (List UInt8)} (h : Cfl [] F) : F = [] := by
  cases F with
  | nil => rfl
  | cons f F =>
    have h1 := h.flat
    rw [List.flatten_cons, List.append_eq_nil_iff] at h1
    exact absurd h1.1 (h.lyn f (by simp)).1
/-- CHEN, FOX, LYNDON: only one way. -/
theorem cfl_unique : ∀ (n : Nat) (s : List UInt8) (F G : List (List UInt8)), s.length ≤ n → Cfl s F → Cfl s G → F = G
  | n, [], F, G, _, hF, hG => by rw [cfl_nil hF, cfl_nil hG]
  | 0, x :: s, F, G, hn, _, _ => by simp at hn
  | n + 1, x :: s, F, G, hn, hF, hG => by
    have hF0 : F ≠ [] := by rintro rfl; have := hF.flat; simp at this
    have hG0 : G ≠ [] := by rintro rfl; have := hG.flat; simp at this
    obtain ⟨F, f, rfl⟩ := snoc_of hF0
    obtain ⟨G, g, rfl⟩ := snoc_of hG0
    have eF := hF.flat
    have eG := hG.flat
    rw [List.flatten_append, List.flatten_cons, List.flatten_nil, List.append_nil] at eF eG
    have lf := (hF.lyn f (by simp)).1
    have lg := (hG.lyn g (by simp)).1
    have h1 : lle f g := last_least F f G.flatten g hF.lyn hF.fall (by rw [hF.flat, eG]) lg
    have h2 : lle g f := last_least G g F.flatten f hG.lyn hG.fall (by rw [hG.flat, eF]) lf
    have e := lle_antisymm h1 h2
    subst e
    have e3 : F.flatten = G.flatten := List.append_inj_left' (eF.trans eG.symm) rfl
    have hl := congrArg List.length eF
    have hfl := List.length_pos_iff.2 lf
    rw [List.length_append, List.length_cons] at hl
    rw [List.length_cons] at hn
    have ih := cfl_unique n F.flatten F G (by omega) ⟨rfl, fun y hy => hF.lyn y (by simp [hy]), (List.pairwise_append.1 hF.fall).1⟩
      ⟨e3.symm, fun y hy => hG.lyn y (by simp [hy]), (List.pairwise_append.1 hG.fall).1⟩
    rw [ih]
theorem cfl_eq {s : List UInt8} {F G : List (List UInt8)} (hF : Cfl s F) (hG : Cfl s G) : F = G := cfl_unique _ s F G (Nat.le_refl _) hF hG
theorem flat_le : ∀ F : List (List UInt8), (∀ f ∈ F, f ≠ []) → F.length ≤ F.flatten.length
  | [], _ => Nat.le_refl _
  | f :: F, h => by
    have h1 := flat_le F fun g hg => h g (by simp [hg])
    have h2 := List.length_pos_iff.2 (h f (by simp))
    rw [List.flatten_cons, List.length_append, List.length_cons]; omega
theorem cfl_len {s : List UInt8} {F : List (List UInt8)} (h : Cfl s F) : F.length ≤ s.length := by
  have := flat_le F fun f hf => (h.lyn f hf).1
  rwa [h.flat] at this
/-- One alone: just where the word is one. -/
theorem cfl_one {s : List UInt8} {F : List (List UInt8)} (h : Cfl s F) : F.length = 1 ↔ Lyn s := by
  constructor
  · intro hl
    obtain ⟨f, rfl⟩ := List.length_eq_one_iff.1 hl
    have := h.flat
    have e : f = s := by simpa using this
    rw [← e]; exact h.lyn f (by simp)
  · intro hs
    rw [cfl_eq h (Cfl.one hs)]; rfl

end Go.Proofs.YtigbnldmjafgmaaDoor

/- Plain: the sorted names of a house. -/
namespace Go.Proofs.YtigbnldmjafgmaaDoor
open Go.RowKit
set_option linter.unusedVariables false

theorem nm_bless : ∀ a b : List UInt8, Op.bytesLess a b = llt a b
  | _, [] => by unfold Op.bytesLess llt; cases ‹List UInt8› <;> rfl
  | [], _ :: _ => rfl
  | x :: a, y :: b => by rw [Op.bytesLess, llt, nm_bless a b]
theorem nm_lt : ∀ a b : List UInt8, a < b ↔ llt a b = true
  | [], [] => by simp [llt]
  | [], _ :: _ => by simp [llt]
  | _ :: _, [] => by simp [llt]
  | x :: a, y :: b => by
    rw [List.cons_lt_cons_iff, llt_cons, nm_lt a b]
theorem nm_le (a b : List UInt8) : a ≤ b ↔ lle a b := by
  show ¬ b < a ↔ _
  rw [nm_lt]
  unfold lle
  rw [Bool.not_eq_true]
theorem nm_sorted (l : List (List UInt8)) : (l.mergeSort fun x y => decide (x ≤ y)).Pairwise lle := by
  have := List.pairwise_mergeSort (le := fun x y : List UInt8 => decide (x ≤ y)) (fun a b c h1 h2 => by
    have h1 := of_decide_eq_true h1
    have h2 := of_decide_eq_true h2
    rw [nm_le] at h1 h2
    exact decide_eq_true ((nm_le _ _).2 (lle_trans h1 h2))) (fun a b => by
    rcases llt_tri a b with h | h | h
    · rw [decide_eq_true ((nm_le _ _).2 (lle_of_lt h)), Bool.true_or]
    · rw [decide_eq_true ((nm_le _ _).2 (h ▸ lle_refl _)), Bool.true_or]
    · rw [decide_eq_true ((nm_le b a).2 (lle_of_lt h)), Bool.or_true]) l
  exact this.imp fun h => (nm_le _ _).1 (of_decide_eq_true h)
theorem nm_inj {a b : ByteArray} (h : a.data.toList = b.data.toList) : a = b := by
  have e : (⟨a.data.toList.toArray⟩ : ByteArray) = ⟨b.data.toList.toArray⟩ := by rw [h]
  exact e
theorem nm_nodup {P : List Pg} (hP : HOk P) : (namesP P).Nodup := by
  unfold namesP
  rw [(List.mergeSort_perm _ _).nodup_iff]
  have h := hP.nd
  have e : P.map (fun p => p.name.data.toList) = (P.map (·.name)).map fun b => b.data.toList := by rw [List.map_map]; rfl
  rw [e]
  exact List.Pairwise.map _ (fun a b hab => fun h2 => hab (nm_inj h2)) h
theorem namesB_mem {P : List Pg} {x : ByteArray} : x ∈ namesB P ↔ x ∈ P.map (·.name) := by
  unfold namesB namesP
  rw [List.mem_map]
  constructor
  · rintro ⟨z, hz, rfl⟩
    rw [(List.mergeSort_perm _ _).mem_iff] at hz
    obtain ⟨p, hp, rfl⟩ := List.mem_map.1 hz
    exact List.mem_map_of_mem hp
  · intro h
    obtain ⟨p, hp, rfl⟩ := List.mem_map.1 h
    exact ⟨p.name.data.toList, (List.mergeSort_perm _ _).mem_iff.2 (List.mem_map_of_mem hp), rfl⟩
theorem namesB_less {P : List Pg} (hP : HOk P) (i : Nat) (hi : i + 1 < P.length) (d : ByteArray) : Op.bytesLess ((namesB P).getD i d).toList ((namesB P).getD (i + 1) d).toList = true := by
  have hl : (namesP P).length = P.length := by unfold namesP; rw [List.length_mergeSort, List.length_map]
  have hs : (namesP P).Pairwise lle := nm_sorted _
  have h1 := List.pairwise_iff_getElem.1 hs i (i + 1) (by omega) (by omega) (by omega)
  have h2 := List.pairwise_iff_getElem.1 (nm_nodup hP) i (i + 1) (by omega) (by omega) (by omega)
  have e : ∀ j (hj : j < P.length), ((namesB P).getD j d).toList = (namesP P)[j]'(by omega) := fun j hj => by
    rw [getD_some _ _ _ (show j < (namesB P).length by rw [namesB_len]; exact hj)]
    unfold namesB
    rw [List.getElem_map, ByteArray.toList_eq]
  rw [e i (by omega), e (i + 1) hi, nm_bless]
  rcases lle_iff.1 h1 with h | h
  · exact h
  · exact absurd h h2
theorem textP_ok {P : List Pg} {x : ByteArray} : (textP P x).2 = hasB x (P.map (·.name)) := by
  unfold textP
  have := pageOf_isSome (s := x) (P := P)
  cases h : pageOf x P with
  | none =>
    rw [h] at this
    exact (hasB_no.2 fun hm => by have := this.2 hm; cases this).symm
  | some p =>
    rw [h] at this
    exact (hasB_iff.2 (this.1 rfl)).symm
theorem hasB_names {P : List Pg} {x : ByteArray} : hasB x (namesB P) = hasB x (P.map (·.name)) := by
  cases h : hasB x (P.map (·.name)) with
  | true => exact hasB_iff.2 (namesB_mem.2 (hasB_iff.1 h))
  | false => exact hasB_no.2 fun hm => hasB_no.1 h (namesB_mem.1 hm)
end Go.Proofs.YtigbnldmjafgmaaDoor

