/- The walk of trie.Fronts. -/
import Derived.Test.YtpaodbkdmiedfaaTrieCheck
import Derived.Test.YtpaodbkdmiedfaaIntSortK
import Derived.Test.YtpaodbkdmiedfaaOwnK
import Derived.Test.YtpaodbkdmiedfaaSuffixWalk
import Derived.Test.YtpaodbkdmiedfaaLyndonLaws
import Derived.BigQuiet
namespace Go.Proofs.Ytpaodbkdmiedfaa
open Go.RowKit Go.Sort Go.Shelf Go.Lib
set_option linter.unusedVariables false

theorem reads_cell {w : World} {B n b o : Nat} {l : List ByteArray} (hl : l.length = n) (h : Reads w B (some ⟨b, o, none⟩) n 1 (l.flatMap cStr)) {k : Nat} (hk : k < n) : w.cell? ⟨b, o + k, none⟩ = some (.string (l.getD k ByteArray.empty)) := by
  obtain ⟨b', o', e, hb, hc⟩ := h.2 (by omega)
  injection e with e
  injection e with e1 e2
  subst e1 e2
  have c0 := hc (k * 1 + 0) (by rw [flat_length cStr 1 cStr_len, hl]; omega)
  rw [flat_getD cStr 1 cStr_len ByteArray.empty l k _ (by rw [hl]; omega) (by omega)] at c0
  simpa only [cStr, List.getD_cons_zero, Nat.mul_one, Nat.add_zero] using c0
set_option maxHeartbeats 1000000 in
theorem frontsCmp (l : List ByteArray) (n c b o g : Nat) (hl : l.length = n) (i k : Nat) (hi : i < n) (hk : k < n) (W : World) (c1 : W.cell? ⟨g, 0, none⟩ = some (.slice (some ⟨b, o, none⟩) n c))
    (ci : W.cell? ⟨b, o + i, none⟩ = some (.string (l.getD i ByteArray.empty))) (ck : W.cell? ⟨b, o + k, none⟩ = some (.string (l.getD k ByteArray.empty))) :
    Calls Try.prog 80 #[.int .i64 i, .int .i64 k, .pointer (some ⟨g, 0, none⟩)] W fun e w' => e = .returned (.int .i64 (cmpP l i k)) ∧ ∃ q os', w' = grow (W.drewN q) os' := by
  have hlt := cmpP_lt l i k
  unfold ltP at hlt
  obtain ⟨E, hE⟩ : ∃ E, E = cmpP l i k := ⟨_, rfl⟩
  have hE2 : E = -1 ∨ E = 1 := by rw [hE]; unfold cmpP; split <;> simp
  rw [← hE] at hlt ⊢
  clear hE
  generalize l.getD i ByteArray.empty = x at *
  generalize l.getD k ByteArray.empty = y at *
  have hin : (i : Int) < n := by omega
  have hkn : (k : Int) < n := by omega
  by_cases h : llt x.data.toList y.data.toList = true
  · obtain rfl : E = -1 := by have := hlt.2 h; omega
    have q1 : Op.bytesLess x.toList y.toList = true := less_is h
    clear hlt h hE2
    go_enter Try.func80, Try.ntmps80
    go_wp2_with fail
    go_quiet (fail)
    go_wp2
    go_ret
    exact ⟨rfl, _, #[], by simp; try rfl⟩
  · obtain rfl : E = 1 := by
      rcases hE2 with h2 | h2
      · exact absurd (hlt.1 (by omega)) h
      · exact h2
    have q1 : Op.bytesLess x.toList y.toList = false := less_is (by simpa using h)
    clear hlt h hE2
    go_enter Try.func80, Try.ntmps80
    go_wp2_with fail
    go_quiet (fail)
    go_wp2
    go_ret
    exact ⟨rfl, _, #[], by simp; try rfl⟩

theorem pre_test {x f : ByteArray} (h : f.size ≤ x.size) : ((x.extract 0 f.size).toList == f.toList) = preB x f := by
  rw [ByteArray.toList_eq, ByteArray.toList_eq, Bool.eq_iff_iff, beq_iff_eq, preB_iff, List.prefix_iff_eq_take, Lib.extract_data]
  simp only [Nat.sub_zero, List.drop_zero]
  exact ⟨fun e => e.symm, fun e => e.symm⟩
theorem pre_long {x f : ByteArray} (h : ¬ f.size ≤ x.size) : preB x f = false := by
  rw [Bool.eq_false_iff]
  intro h2
  have := ((preB_iff x f).1 h2).length_le
  have e1 : f.data.toList.length = f.size := rfl
  have e2 : x.data.toList.length = x.size := rfl
  omega
/-- The places, as members of a type that the sort can name. -/
theorem frSwo (l : List ByteArray) (m : Nat) : SWO (ltOf fun x y : Fin (m + 1) => cmpP l x.1 y.1) := by
  have e : ∀ x y : Fin (m + 1), ltOf (fun x y : Fin (m + 1) => cmpP l x.1 y.1) x y = true ↔ ltP l x.1 y.1 := fun x y => by unfold ltOf; rw [decide_eq_true_iff]; exact cmpP_lt l x.1 y.1
  refine ⟨fun x => ?_, fun x y z h1 h2 => ?_, fun x y z h1 h2 => ?_⟩
  · rw [Bool.eq_false_iff]; intro h; exact ltP_irrefl l _ ((e x x).1 h)
  · rw [e] at *; exact ltP_trans h1 h2
  · rw [Bool.eq_false_iff] at *
    intro h
    exact ltP_neg (fun k => h1 ((e x y).2 k)) (fun k => h2 ((e y z).2 k)) ((e x z).1 h)
/-- What Fronts tells. -/
def ToldFronts (l : List ByteArray) (f : ByteArray) (w : World) (e : Ending) (w' : World) : Prop :=
  Below w.heap.size w w' ∧ ((checkP l ≠ 0 ∧ e = .returned (.tuple #[.slice none 0 0, .int .i64 (checkP l)])) ∨
    (checkP l = 0 ∧ ∃ o A' c', IsFr l f o ∧ e = .returned (.tuple #[.slice A' o.length c', .int .i64 0]) ∧ Reads w' w'.heap.size A' o.length 1 ((natsI o).flatMap cInt)))
theorem natsI_vals (o : List Nat) : (natsI o).flatMap cInt = o.map fun x : Nat => Value.int .i64 (x : Int) := by
  unfold natsI
  induction o with
  | nil => rfl
  | cons x o ih => rw [List.map_cons, List.flatMap_cons, ih]; rfl

set_option maxRecDepth 100000 in
set_option maxHeartbeats 4000000 in
theorem trieFronts_any (A : Option Addr) (n c B : Nat) (l : List ByteArray) (f : ByteArray) (w : World) (hf : f.size ≤ 281474976710656) (hn : n ≤ 1125899906842624) (hnc : n ≤ c) (hl : l.length = n) (hz : ∀ p ∈ l, p.size ≤ 140737488351232) (h : Reads w B A n 1 (l.flatMap cStr)) (hB : B ≤ w.heap.size) :
    Calls Try.prog 40 #[.slice A n c, .string f] w (ToldFronts l f w) := by
  have hbx := Blk.new w 36 #[.slice A n c]
  have hb0 : RowKit.Below w.heap.size w (w.alloc (Obj.cells #[.slice A n c] 36)) := (Below.refl _ _).alloc (Nat.le_refl _) _
  have hr1 := h.alloc hB (Obj.cells #[.slice A n c] 36)
  have HK := Lib.hid (fun w' (h' : Reads w' B A n 1 (l.flatMap cStr)) (hB' : B ≤ w'.heap.size) => trieCheck_any A n c B l w' hn hnc hl hz h' hB')
  have Hl := Lib.hid hl
  have eg : ∀ args w, (callFunc 80 args).run Try.prog w = .ok (.enter 80 args) w := enters_of Try.func80 (by kernel_rfl) rfl
  have hinfo : (Try.prog.info? 3).map (fun i => (i.zero, i.size, i.bytes)) = some (some (.int .i64 0), 1, 8) := by kernel_rfl
  have c1 : (w.alloc (Obj.cells #[.slice A n c] 36)).cell? ⟨w.heap.size, 0, none⟩ = some (.slice A n c) := hbx.cell 0
  have hz1 : (w.alloc (Obj.cells #[.slice A n c] 36)).heap.size = w.heap.size + 1 := by simp
  clear hl hz h
  go_enter Try.func40, Try.ntmps40
  go_wp2_with fail
  generalize w.alloc (Obj.cells #[.slice A n c] 36) = w1 at *
  go_wp2_with fail
  refine (HK.out _ hr1 (by omega)).mono ?_
  rintro e w2 ⟨rfl, hb2⟩
  have hbx := hbx.below hb2 (by omega)
  have hr2 := hr1.below (hb2.mono (by omega))
  have hz2 := hb2.size
  have hb2 := hb0.trans (hb2.mono hb0.size)
  clear hr1 hb0 c1
  by_cases hc : checkP l = 0
  case neg =>
    have q1 : (checkP l != 0) = true := by simpa using hc
    have HC := Lib.hid hc
    clear hc
    go_wp2
    refine bodyPost_ret (by simp [results, Try.results40, go_sem]; try rfl) rfl ?_
    exact ⟨hb2, .inl ⟨HC.out, rfl⟩⟩
  have HP := Lib.hid (checkP_zero hc)
  have hn10 : n ≤ 10 := by rw [← Hl.out]; exact HP.out.1
  have HC := Lib.hid hc
  rw [hc]
  clear hc HK
  have c2 : w2.cell? ⟨w.heap.size, 0, none⟩ = some (.slice A n c) := hbx.cell 0
  go_wp2
  clear c2
  go_loopw [7, 8, 9, 17] (fun ov _ _ iv wr => ∃ (k : Nat) (A' : Option Addr) (c' : Nat), k ≤ n ∧ iv = .int .i64 k ∧ ov = .slice A' (frK l f k).length c' ∧ OwnK 3 1 wr (· < w2.heap.size) A' (frK l f k).length c' ((natsI (frK l f k)).flatMap cInt) ∧ Below w2.heap.size w2 wr) (fun _ _ _ iv _ => n - (intOf iv).toNat)
  case atStart => exact ⟨0, none, 0, Nat.zero_le _, rfl, rfl, OwnK.nil _ _ _ _, Below.refl _ _⟩
  case round =>
    obtain ⟨k, A', c', hk, rfl, rfl, hown, hbr⟩ := hrel
    have hbs := hbr.size
    by_cases hlt : k < n
    · have h := hr2.below (hbr.mono (by omega))
      obtain ⟨b, o, rfl, hbB, hc⟩ := h.2 (by omega)
      have c0 := reads_cell Hl.out h hlt
      have hfk := frK_succ l f k
      have hfl := frK_len l f k
      have Hfk := Lib.hid hfk
      clear hc hfk h
      generalize l.getD k ByteArray.empty = x at *
      obtain ⟨m, hm⟩ : ∃ m, (frK l f k).length = m := ⟨_, rfl⟩
      have Hm := Lib.hid hm
      rw [hm] at hown hfl ⊢
      clear hm
      by_cases hfx : f.size ≤ x.size
      case' neg =>
        have q1 : decide ((f.size : Int) ≤ x.size) = false := decide_eq_false (by omega)
        have q1' : decide (f.size ≤ x.size) = false := decide_eq_false hfx
        have hp := pre_long hfx
      case' pos =>
        have q1 : decide ((f.size : Int) ≤ x.size) = true := decide_eq_true (by omega)
        have q1' : decide (f.size ≤ x.size) = true := decide_eq_true hfx
        have hp := pre_test hfx
        have i1 : (f.size : Int) ≤ x.size := by omega
        by_cases hpre : preB x f = true
        case' pos =>
          rw [hpre] at hp
          have hnx : frK l f (k + 1) = frK l f k ++ [k] := by rw [Hfk.out, if_pos hpre]
          have Hnx := Lib.hid hnx
          have hcl : ∀ j, j < 1 → (wr.alloc (Obj.cells #[.int .i64 (k : Int)] 3)).cell? ((⟨wr.heap.size, 0, none⟩ : Addr).add j) = ([.int .i64 (k : Int)] : List Value)[j]? := fun j hj => by
            obtain rfl : j = 0 := by omega
            rw [add_at, World.cell?_alloc_mark]; rfl
          have hk8 : m ≤ 8000000000000 := by omega
          have hk9 : (m + 1) * 8 ≤ 140737488355328 := by omega
          clear hnx hpre
          go_wp2_with (first | (at_builtin; go_must (refine wpList_append_K rfl (.tmp 35) (.tmp 37) 22 rfl (· < w2.heap.size) (.int .i64 0) 8 hinfo Try.underlying22 rfl (by decide) (by decide) A' m c' _ rfl (hown.alloc _) ⟨wr.heap.size, 0, none⟩ 1 [.int .i64 (k : Int)] rfl rfl (by simp [Value.oneCell']) hcl hk9 hk8 (fun k hk => by simp; omega) ?_); intro A3 c3 w3 hown3 hg3 hp3))
          have hb3 : Below w2.heap.size w2 w3 := (hbr.alloc hbs _).grown hg3 (by simp; omega) (fun g hg => by have := (hown.lt g hg).1; omega)
          go_wp2
          go_roundw
          case rel =>
            have e1 : (frK l f (k + 1)).length = m + 1 := by rw [Hnx.out, List.length_append, Hm.out]; rfl
            refine ⟨k + 1, A3, c3, by omega, by go_num, by rw [e1], ?_, hb3⟩
            rw [e1, Hnx.out]
            have e2 : (natsI (frK l f k ++ [k])).flatMap cInt = (natsI (frK l f k)).flatMap cInt ++ [.int .i64 (k : Int)] := by unfold natsI; rw [List.map_append, List.flatMap_append]; rfl
            rw [e2]; exact hown3
          case measure => simp [intOf]; omega
        have hp2 : preB x f = false := by simpa using hpre
        rw [hp2] at hp
        have hp := hp2
      all_goals
        have hnx : frK l f (k + 1) = frK l f k := by rw [Hfk.out, if_neg (by rw [hp]; decide), List.append_nil]
        have Hnx := Lib.hid hnx
        clear hnx
        go_wp2
        go_roundw
        case rel => exact ⟨k + 1, A', c', by omega, by go_num, by rw [Hnx.out, Hm.out], by rw [Hnx.out, Hm.out]; exact hown, hbr⟩
        case measure => simp [intOf]; omega
    · obtain rfl : k = n := by omega
      have hbw : RowKit.Below w.heap.size w wr := hb2.trans (hbr.mono (by omega))
      rcases Nat.eq_zero_or_pos k with h0 | h0
      · subst h0
        have e0 : frK l f 0 = [] := rfl
        rw [e0] at hown ⊢
        have hS := Lib.hid (fun fv => intSort_none A' c' fv wr)
        have HF : IsFr l f [] := ⟨by rw [Hl.out, e0], List.Pairwise.nil⟩
        have HF' := Lib.hid HF
        clear HF e0
        go_wp2_with fail
        refine (hS.out _).mono ?_
        rintro e w4 ⟨rfl, rfl⟩
        go_wp2
        refine bodyPost_ret (by simp [results, Try.results40, go_sem]; try rfl) rfl ?_
        exact ⟨hbw, .inr ⟨HC.out, [], A', c', HF'.out, rfl, hown.toReads⟩⟩
      · obtain ⟨m, rfl⟩ : ∃ m, k = m + 1 := ⟨k - 1, by omega⟩
        have h := hr2.below (hbr.mono (by omega))
        obtain ⟨b, o, rfl, hbB, _⟩ := h.2 (by omega)
        have hbx4 := hbx.below hbr (by omega)
        have hmem : ∀ j ∈ frK l f (m + 1), j < m + 1 := fun j hj => (frK_mem.1 hj).1
        obtain ⟨d, hd⟩ : ∃ d : Array (Fin (m + 1)), d = ((frK l f (m + 1)).map (Fin.ofNat (m + 1))).toArray := ⟨_, rfl⟩
        have hdv : d.toList.map (fun x => x.1) = frK l f (m + 1) := by
          rw [hd, List.toList_toArray, List.map_map]
          exact (List.map_congr_left fun j hj => Nat.mod_eq_of_lt (hmem j hj)).trans (List.map_id _)
        have hdl : d.size = (frK l f (m + 1)).length := by rw [← hdv]; simp
        have hdc : (natsI (frK l f (m + 1))).flatMap cInt = d.toList.map fun x => Value.int .i64 ((x.1 : Nat) : Int) := by
          rw [natsI_vals, ← hdv, List.map_map]; rfl
        rw [hdc] at hown
        have hob : ∀ q, (Value.slice A' (frK l f (m + 1)).length c').ownBlock = some q → w2.heap.size ≤ q := fun q hq => by have := (hown.lt q hq).1; omega
        have hS := intSortK_any (fun x : Fin (m + 1) => ((x.1 : Nat) : Int)) (fun x y => cmpP l x.1 y.1) (frSwo l m) 80 #[.pointer (some ⟨w.heap.size, 0, none⟩)] (· < w2.heap.size) A' (frK l f (m + 1)).length c' d wr hdl hown eg
          (fun W hW x y => by
            have hx := x.2
            have hy := y.2
            have hbW := hbx4.grown hW (fun e => by have := hob _ e; omega)
            have hrW : Reads W B (some ⟨b, o, none⟩) (m + 1) 1 (l.flatMap cStr) := h.keep fun p hp => by
              have h1 := hW.block p.block (by omega) (fun e => by have := hob _ e.symm; omega)
              unfold World.cell?
              rw [h1]
            exact frontsCmp l (m + 1) c b o w.heap.size Hl.out x.1 y.1 hx hy W (hbW.cell 0) (reads_cell Hl.out hrW hx) (reads_cell Hl.out hrW hy)) (by have := frK_len l f (m + 1); omega)
        have HS := Lib.hid hS
        have Hob := Lib.hid hob
        have Hdv := Lib.hid hdv
        have Hdl := Lib.hid hdl
        obtain ⟨M, hM⟩ : ∃ M, M = (frK l f (m + 1)).length := ⟨_, rfl⟩
        rw [← hM] at HS Hob Hdl ⊢
        have HM := Lib.hid hM
        clear hS hob hdv hdl hdc hown hd hmem h hbx4 hM
        go_wp2_with fail
        refine HS.out.mono ?_
        rintro e w5 ⟨rfl, d', hp, hsd, hown5, hgr⟩
        have hb5 : RowKit.Below w.heap.size w w5 := hbw.grown hgr hbw.size (fun q hq => by have := Hob.out q hq; omega)
        obtain ⟨o', ho'⟩ : ∃ o', o' = d'.toList.map (fun x => x.1) := ⟨_, rfl⟩
        have hof : IsFr l f o' := by
          refine ⟨?_, ?_⟩
          · rw [Hl.out, ho', ← Hdv.out]; exact hp.map _
          · have hn : d'.toList.Nodup := hp.nodup_iff.2 (by
              have : (d.toList.map (fun x => x.1)).Nodup := by rw [Hdv.out]; exact List.nodup_range.filter _
              exact List.Pairwise.of_map (fun x : Fin (m + 1) => x.1) (fun a b h e => h (by rw [e])) this)
            rw [ho']
            refine List.Pairwise.map _ (fun a b h => ?_) (List.Pairwise.and hsd hn)
            obtain ⟨h1, h2⟩ := h
            unfold ltOf at h1
            have h1 := of_decide_eq_false h1
            rw [cmpP_lt] at h1
            have ha := a.2
            have hb := b.2
            rcases ltP_tri HP.out.2.2 (i := a.1) (k := b.1) (by rw [Hl.out]; exact ha) (by rw [Hl.out]; exact hb) with k | k | k
            · exact k
            · exact absurd (Fin.ext k) h2
            · exact absurd k h1
        have hol : o'.length = M := by rw [ho', List.length_map, hp.length_eq, ← Hdl.out]; simp
        have hr5 := hown5.toReads
        have hrv : (d'.toList.map fun x => Value.int .i64 ((x.1 : Nat) : Int)) = (natsI o').flatMap cInt := by rw [natsI_vals, ho', List.map_map]; rfl
        rw [hrv] at hr5
        have Hof := Lib.hid hof
        have Hol := Lib.hid hol
        clear hof hol hown5 hgr hp hsd ho' hrv HS
        go_wp2
        refine bodyPost_ret (by simp [results, Try.results40, go_sem]; try rfl) rfl ?_
        exact ⟨hb5, .inr ⟨HC.out, o', A', c', Hof.out, by rw [Hol.out], by rw [Hol.out]; exact hr5⟩⟩
end Go.Proofs.Ytpaodbkdmiedfaa
