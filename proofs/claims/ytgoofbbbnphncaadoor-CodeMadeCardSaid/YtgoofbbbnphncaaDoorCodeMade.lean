/- CodeMade's walk: a prefix-free code with given lengths exists if and only if the Kraft inequality holds. -/
import Derived.Test.YtgoofbbbnphncaaDoorCodes
import Derived.Test.YtgoofbbbnphncaaDoorMakeWalk
import Derived.Test.YtgoofbbbnphncaaDoorEqual
import Derived.Test.YtgoofbbbnphncaaDoorArgs
namespace Go.Proofs.YtgoofbbbnphncaaDoor
open Go.RowKit
set_option linter.unusedVariables false

theorem wds_strW (l : List Wd) : wds (l.map strW) = l := by
  unfold wds
  rw [List.map_map]
  exact (List.map_congr_left fun x _ => wd_strW x).trans (List.map_id l)
theorem lensI_of {ws : List Wd} {l : List Int} (h : ws.map List.length = nats l) (h0 : ∀ x ∈ l, 0 ≤ x) : lensI (ws.map strW) = l := by
  have e1 : nats (lensI (ws.map strW)) = nats l := by rw [lensI_nats, wds_strW, h]
  have e2 : ∀ a b : List Int, (∀ x ∈ a, 0 ≤ x) → (∀ x ∈ b, 0 ≤ x) → nats a = nats b → a = b := by
    intro a
    induction a with
    | nil => intro b _ _ h; cases b with
      | nil => rfl
      | cons _ _ => simp [nats] at h
    | cons x a ih => intro b ha hb h; cases b with
      | nil => simp [nats] at h
      | cons y b =>
        unfold nats at h
        rw [List.map_cons, List.map_cons] at h
        injection h with h1 h2
        have := ha x (by simp)
        have := hb y (by simp)
        rw [ih b (fun z hz => ha z (by simp [hz])) (fun z hz => hb z (by simp [hz])) h2, show x = y from by omega]
  exact e2 _ _ (fun x hx => by obtain ⟨s, _, rfl⟩ := List.mem_map.1 hx; omega) h0 e1
theorem fresh_ints (l : List Int) (w : World) : Reads (w.alloc (Obj.cells (l.map (Value.int .i64)).toArray 3)) (w.heap.size + 1) (some ⟨w.heap.size, 0, none⟩) l.length 1 (l.flatMap cInt) := by
  have h := Reads.of_fresh w (l.map (Value.int .i64)).toArray 3 l.length 1 (by simp)
  have e : ∀ l : List Int, (l.map (Value.int .i64)).toArray.toList = l.flatMap cInt := fun l => by
    rw [List.toList_toArray]
    induction l with
    | nil => rfl
    | cons x l ih => rw [List.map_cons, List.flatMap_cons, ← ih]; rfl
  rwa [e] at h
theorem made212 : makeE [2, 1, 2] = 0 ∧ (makeM (nats [2, 1, 2])).map strW = [⟨#[49, 48]⟩, ⟨#[48]⟩, ⟨#[49, 49]⟩] := by decide +kernel

set_option maxRecDepth 100000 in
set_option maxHeartbeats 4000000 in
theorem codeMade_walk (A : Option Addr) (len cap : Nat) (l : List Int) {w : World} (hl : IntsIn w A len cap l) :
    Calls Tryd.prog 9 #[.slice A len cap] w fun e w' => e = .returned (.bool true) ∧ Below w.heap.size w w' := by
  obtain ⟨hll, hrd, hlen, hok, hcap, _⟩ := hl
  have HS := Lib.hid (fun w r => codeSum_any A len cap w.heap.size l w (by omega) hll r)
  have HM := Lib.hid (fun w r => codeMake_any A len cap w.heap.size l w (by omega) hll r (Nat.le_refl _))
  have Hll := Lib.hid hll
  have M0 := Lib.hid made212
  clear hll hok
  go_enter Tryd.func9, Tryd.ntmps9
  go_wp2_with fail
  have r0 := fresh_ints [2, 1, 2] w
  refine (codeMake_any (some ⟨w.heap.size, 0, none⟩) 3 3 (w.heap.size + 1) [2, 1, 2] _ (by decide) rfl r0 (by simp)).mono ?_
  rintro e w1 ⟨hb1, ⟨hno, _⟩ | ⟨_, g, rfl, hgl, hr1, _⟩⟩
  · exact absurd M0.out.1 hno
  rw [M0.out.2] at hr1
  have hb1 : Below w.heap.size w w1 := ((Below.refl _ _).alloc (Nat.le_refl _) _).trans (hb1.mono (by simp))
  clear r0
  go_wp2_with fail
  have r1 := fresh_strs [⟨#[49, 48]⟩, ⟨#[48]⟩, ⟨#[49, 49]⟩] w1
  refine (equalStr_any (some ⟨g, 0, none⟩) (some ⟨w1.heap.size, 0, none⟩) 3 3 3 3 w1.heap.size (w1.heap.size + 1) [⟨#[49, 48]⟩, ⟨#[48]⟩, ⟨#[49, 49]⟩] [⟨#[49, 48]⟩, ⟨#[48]⟩, ⟨#[49, 49]⟩] _ (by decide) (by decide) rfl rfl (hr1.alloc (Nat.le_refl _) _) r1).mono ?_
  rintro e w2 ⟨rfl, hb2⟩
  have hb2 : Below w.heap.size w w2 := (hb1.alloc hb1.size _).trans (hb2.mono (by have := hb1.size; simp; omega))
  have q0 : decide (([⟨#[49, 48]⟩, ⟨#[48]⟩, ⟨#[49, 49]⟩] : List ByteArray) = [⟨#[49, 48]⟩, ⟨#[48]⟩, ⟨#[49, 49]⟩]) = true := decide_eq_true rfl
  clear r1 hr1
  go_wp2_with fail
  refine (codes_any _).mono ?_
  rintro e w3 ⟨rfl, hb3⟩
  have hb3 := chain hb3 hb2
  have r3 := (hrd.below hb3).more hb3.size
  clear hb1 hb2
  go_wp2_with fail
  refine (HS.out _ r3).mono ?_
  rintro e w4 ⟨rfl, rfl⟩
  have hmE : makeE l = if sumE l ≠ 0 then sumE l else if 4096 < sumV l then 4 else 0 := rfl
  have HmE := Lib.hid hmE
  have hsz := (sumE_zero l).1
  have Hsz := Lib.hid hsz
  clear hmE hsz
  by_cases h1 : sumE l = 0
  case neg =>
    have hme : makeE l = sumE l := by rw [HmE.out, if_pos h1]
    rw [hme] at HM
    have q1 : (sumE l != 0) = true := by simpa using h1
    have q1' : (sumE l == 0) = false := by simpa using h1
    have q2 : (sumE l == sumE l) = true := by simp
    generalize sumV l = V at *
    generalize sumE l = E at *
    clear HmE hme Hsz
    go_wp2_with fail
    refine (HM.out _ r3).mono ?_
    rintro e w5 ⟨hb5, ⟨_, rfl⟩ | ⟨hno, _⟩⟩
    · have hb5 := chain hb5 hb3
      go_wp2
      all_goals (go_ret; exact ⟨by simp, hb5⟩)
    · exact absurd hno h1
  by_cases h2 : 4096 < sumV l
  · have hme : makeE l = 4 := by rw [HmE.out, if_neg (fun h => h h1), if_pos h2]
    rw [hme] at HM
    rw [h1]
    have q1 : decide ((4096 : Int) < sumV l) = true := decide_eq_true h2
    generalize sumV l = V at *
    clear HmE hme Hsz
    go_wp2_with fail
    refine (HM.out _ r3).mono ?_
    rintro e w5 ⟨hb5, ⟨_, rfl⟩ | ⟨hno, _⟩⟩
    · have hb5 := chain hb5 hb3
      go_wp2
      all_goals (go_ret; exact ⟨by simp, hb5⟩)
    · cases hno
  have hme : makeE l = 0 := by rw [HmE.out, if_neg (fun h => h h1), if_neg h2]
  rw [hme] at HM
  rw [h1]
  have q1 : decide (sumV l ≤ 4096) = true := decide_eq_true (by omega)
  have hpos := fun x hx => ((Hsz.out h1).2 x hx)
  have Hpos := Lib.hid hpos
  generalize sumV l = V at *
  clear HmE hme Hsz h1 h2 hpos
  go_wp2_with fail
  refine (HM.out _ r3).mono ?_
  rintro e w5 ⟨hb5, ⟨hno, _⟩ | ⟨_, g5, rfl, hg5, hr5, hl5, hok5, hf5, hlen5⟩⟩
  · exact absurd rfl hno
  have hb5 := chain hb5 hb3
  have r5 := (hrd.below hb5).more hb5.size
  obtain ⟨out, hout⟩ : ∃ out, out = (makeM (nats l)).map strW := ⟨_, rfl⟩
  have hlI : lensI out = l := by rw [hout]; exact lensI_of hlen5 fun x hx => by have := Hpos.out x hx; omega
  have hwo : wds out = makeM (nats l) := by rw [hout, wds_strW]
  have hc0 : checkC (wds out) = 0 := by rw [hwo]; exact (checkC_zero _).2 hok5
  have hfr : frontB (wds out) = true := (frontB_iff _).2 ⟨hc0, by rw [hwo]; exact hf5⟩
  have hoz : ∀ p ∈ out, p.size ≤ 140737488351232 := fun p hp => by
    have := hok5.len (wd p) (by rw [← hwo]; exact mem_wds.2 hp)
    have h3 : (wd p).length = p.size := rfl
    omega
  have hol : out.length = len := by rw [hout, List.length_map]; exact hl5
  have hn12 : len ≤ 12 := by have := hok5.few; omega
  rw [← hout] at hr5
  have HF := codeFront_any (some ⟨g5, 0, none⟩) len len w5.heap.size out w5 (by omega) (Nat.le_refl _) hol hoz hr5 (Nat.le_refl _)
  rw [hfr, hc0] at HF
  have HF2 := Lib.hid HF
  have HLo := Lib.hid (fun w r => lensOf_any (some ⟨g5, 0, none⟩) len len w.heap.size out w (by omega) hol r (Nat.le_refl _))
  have HlI := Lib.hid hlI
  clear hout hwo hc0 hfr hoz HF hlI hok5 hf5 hlen5 hl5
  go_wp2_with fail
  refine HF2.out.mono ?_
  rintro e w6 ⟨rfl, hb6⟩
  have hr6 := hr5.after hb6
  have r6 := r5.after hb6
  have hb6 := chain hb6 hb5
  go_wp2_with fail
  refine (HLo.out _ hr6).mono ?_
  rintro e w7 ⟨A7, c7, rfl, hown, hb7⟩
  have r7 := r6.after hb7
  have hb7 := chain hb7 hb6
  have ho7 := hown.toReads
  rw [HlI.out] at ho7
  go_wp2_with fail
  refine (equalInt_any A7 A len len c7 cap _ _ l l _ (by omega) (by omega) Hll.out Hll.out ho7 r7).mono ?_
  rintro e w8 ⟨rfl, hb8⟩
  have hb8 := chain hb8 hb7
  have q9 : decide (l = l) = true := decide_eq_true rfl
  go_wp2
  all_goals (go_ret; exact ⟨by simp, hb8⟩)
end Go.Proofs.YtgoofbbbnphncaaDoor
