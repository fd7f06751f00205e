import Derived.Test.YtaogegpfapfchaaGreatDoorDeskM45
import Derived.Test.YtaogegpfapfchaaGreatDoorDeskM44
/- Several texts in one: XDeskRun. -/
/- The walk of the desk's Run. -/
namespace Go.Proofs.YtaogegpfapfchaaGreatDoor
open Go.RowKit
set_option linter.unusedVariables false

abbrev KRun (gd : Nat) (A : Option Addr) (n c : Nat) (b : Nat) : Prop := b = gd ∨ (Value.slice A n c).ownBlock = some b
theorem lineD_empty (x : List ByteArray × List Pg) {line : ByteArray} (h : line = ⟨#[]⟩) : lineD x line = x := by unfold lineD; rw [if_pos h]
theorem lineD_line (x : List ByteArray × List Pg) {line : ByteArray} (h : line ≠ ⟨#[]⟩) : lineD x line = (x.1 ++ [(ansD x.2 line).1], (ansD x.2 line).2) := by unfold lineD; rw [if_neg h]
/-- One line more in the answers' row. -/
theorem run_grow {w1 w3 w4 w5 w6 wr : World} {gh gd : Nat} {P' : List Pg} {A A3 : Option Addr} {n c c3 : Nat} {u : Value} {xs ys : List Value}
    (hT : DeskTo w1 gh (KRun gd A n c) wr P' w4) (h5 : w5 = w4.alloc (Obj.cells #[u] 9)) (hg : w5.grownBy w6 (Value.slice A n c).ownBlock) (hp : ∀ k, (Value.slice A3 (n + 1) c3).ownBlock = some k → (Value.slice A n c).ownBlock = some k ∨ w5.heap.size ≤ k)
    (h13 : w1.heap.size ≤ w3.heap.size) (hown : OwnK 9 1 wr (· < w3.heap.size) A n c xs) (hown3 : OwnK 9 1 w6 (· < w3.heap.size) A3 (n + 1) c3 ys) : LoneK w1 gh P' (KRun gd A3 (n + 1) c3) w6 := by
  have l4 := hT.1
  have hb : Below w4.heap.size w4 w5 := by rw [h5]; exact (Below.refl _ _).alloc (Nat.le_refl _) _
  have l5 := l4.stay hb
  have l6 := l5.grown hg fun g e => ⟨.inr e, by have := (hown.lt g e).1; omega⟩
  refine l6.weak fun b hk => ?_
  rcases hk with rfl | hk
  · exact .inl (.inl rfl)
  · rcases hp b hk with h | h
    · exact .inl (.inr h)
    · exact .inr ⟨h, (hown3.lt b hk).2⟩

set_option maxRecDepth 100000 in
set_option maxHeartbeats 2000000 in
theorem run_any (text : ByteArray) (hs : text.size ≤ 4294967280) (w : World) (ht : Tab w) (hm : MaxL w) :
    Calls Tryz.prog 5 #[.string text] w fun e w' => ∃ A n c, e = .returned (.tuple #[.slice A n c, .int .i64 (runE text)]) ∧ (runR text).length = n ∧ n ≤ c ∧ n ≤ 60 ∧ Reads w' w'.heap.size A n 1 ((runR text).flatMap cStr) ∧ Below w.heap.size w w' := by
  have SP := Lib.hid (split_any text 10 hs w hm)
  have hcl := cutL_len 10 text.data.toList
  have hlen : text.data.toList.length = text.size := rfl
  have hrl : (rowsD text).length = (cutL 10 text.data.toList).length := List.length_map _
  have hrr : (cutL 10 text.data.toList).map tx = rowsD text := rfl
  have hpl : ∀ x ∈ rowsD text, x.size ≤ text.size := fun x hx => by
    rw [← hrr] at hx
    obtain ⟨p, hp, rfl⟩ := List.mem_map.1 hx
    exact hcl.2 p hp
  have hcnt : (cutL 10 text.data.toList).length ≤ text.size + 1 := by
    rw [hcl.1, ← hlen]
    exact Nat.succ_le_succ List.count_le_length
  unfold runE runR
  rw [hrr] at SP
  rw [← hrl] at SP hcnt
  generalize rowsD text = rows at *
  obtain ⟨m, hmm⟩ : ∃ m, rows.length = m := ⟨_, rfl⟩
  rw [hmm] at SP hcnt ⊢
  have HM := Lib.hid hmm
  clear hcl hlen hrl hrr hmm
  by_cases hbig : 4096 < text.size ∨ 60 < m
  · rw [if_pos hbig, if_pos hbig]
    have hg : (4096 < text.size) ∨ (¬ 4096 < text.size ∧ 60 < m) := by omega
    rcases hg with h1 | ⟨h1, h2⟩
    all_goals
      go_enter Tryz.func5, Tryz.ntmps5
      go_wp2_with fail
      refine SP.out.mono ?_
      rintro e w1 ⟨rfl, hw1⟩
      have hb1 : Below w.heap.size w w1 := by rw [hw1]; exact (Below.refl _ _).alloc (Nat.le_refl _) _
      clear hw1
      go_wp2
      go_ret2
      exact ⟨none, 0, 0, rfl, rfl, Nat.le_refl _, Nat.zero_le _, Reads.nil, hb1⟩
  · rw [if_neg hbig, if_neg hbig]
    have h1 : ¬ 4096 < text.size := by omega
    have h2 : ¬ 60 < m := by omega
    have hm60 : m ≤ 60 := by omega
    clear hbig
    go_enter Tryz.func5, Tryz.ntmps5
    go_wp2_with fail
    refine SP.out.mono ?_
    rintro e w1 ⟨rfl, hw1⟩
    have hb1 : Below w.heap.size w w1 := by rw [hw1]; exact (Below.refl _ _).alloc (Nat.le_refl _) _
    have hR1 : Blk w1 w.heap.size 9 (rows.flatMap cStr).toArray := by rw [hw1]; exact Blk.new _ _ _
    have hlw := hR1.lt
    have ht1 := ht.after hb1
    have hm1 := hm.after hb1
    clear hw1 SP
    have NW := Lib.hid (LoneK.new (w := w1))
    go_wp2_with fail
    refine NW.out.mono ?_
    rintro e w2 ⟨rfl, hl2⟩
    go_wp2_with fail
    obtain ⟨w3, hw3⟩ : ∃ w3, w3 = w2.alloc (Obj.cells #[.pointer (some ⟨w1.heap.size, 0, none⟩)] 35) := ⟨_, rfl⟩
    have hb23 : Below w2.heap.size w2 w3 := by rw [hw3]; exact (Below.refl _ _).alloc (Nat.le_refl _) _
    have hD3 : Blk w3 w2.heap.size 35 #[.pointer (some ⟨w1.heap.size, 0, none⟩)] := by rw [hw3]; exact Blk.new _ _ _
    have hl3 : LoneK w1 w1.heap.size [] (KRun w2.heap.size none 0 0) w3 := (hl2.after hb23).weak fun b hb => by
      rcases hb with rfl | hb
      · exact .inr ⟨Nat.le_refl _, hD3.lt⟩
      · cases hb
    have h13 := hl3.below.size
    have hg3 := hD3.lt
    rw [← hw3]
    clear hw3 hb23 hl2 NW
    generalize w2.heap.size = gd at *
    have HP := Lib.hid (fun (k : Nat) (x : ByteArray) (hx : rows[k]? = some x) => show (rows.flatMap cStr).toArray[k]? = some (Value.string x) by rw [← str_cells, List.getElem?_toArray, List.getElem?_map, hx]; rfl)
    go_loopw [6, 8, 24] (fun ov _ i wr => ∃ (k : Nat) (A' : Option Addr) (n' c' : Nat), k ≤ m ∧ n' ≤ k ∧ i = .int .i64 k ∧ ov = .slice A' n' c' ∧ Hid ((linesD (rows.take k)).1.length = n') ∧
      OwnK 9 1 wr (· < w3.heap.size) A' n' c' ((linesD (rows.take k)).1.flatMap cStr) ∧ LoneK w1 w1.heap.size (linesD (rows.take k)).2 (KRun gd A' n' c') wr ∧ Blk wr gd 35 #[.pointer (some ⟨w1.heap.size, 0, none⟩)] ∧ w3.heap.size ≤ wr.heap.size) (fun _ _ i _ => m - (intOf i).toNat)
    case atStart => exact ⟨0, none, 0, 0, Nat.zero_le _, Nat.le_refl _, rfl, rfl, Lib.hid rfl, OwnK.nil _ _ _ _, hl3, hD3, Nat.le_refl _⟩
    case round =>
      obtain ⟨k, A', n', c', hk, hnk, rfl, rfl, Hn, hown, hl, hD, hsz⟩ := hrel
      by_cases hlt : k < m
      · obtain ⟨x, hx⟩ : ∃ x, rows[k]? = some x := ⟨_, List.getElem?_eq_getElem (by rw [HM.out]; exact hlt)⟩
        have hbr := hl.below
        have c0 : wr.cell? ⟨w.heap.size, k, none⟩ = some (.string x) := by
          rw [(hR1.below hbr (by omega)).cell k]
          exact HP.out k x hx
        have hxs : x.size ≤ 4096 := by have := hpl x (List.mem_of_getElem? hx); omega
        have Hs := Lib.hid (linesD_snoc rows k x hx)
        clear hx
        by_cases hs : x = ⟨#[]⟩
        · have q1 : x.toList = [] := by rw [hs]; decide +kernel
          have q2 : x.toList.isEmpty = true := by rw [q1]; rfl
          have e := Hs.out
          rw [lineD_empty _ hs] at e
          have E := Lib.hid e
          clear hs e
          go_wp2
          go_roundw
          case rel => exact ⟨k + 1, A', n', c', by omega, by omega, by go_num, rfl, by rw [E.out]; exact Hn, by rw [E.out]; exact hown, by rw [E.out]; exact hl, hD, hsz⟩
          case measure => simp only [intOf]; omega
        · have q1 : ¬ x.toList = [] := fun h => hs (by rw [ByteArray.toList_eq] at h; exact str_ext h)
          have q2 : x.toList.isEmpty = false := by simpa using q1
          have e := Hs.out
          rw [lineD_line _ hs] at e
          obtain ⟨⟨s, P'⟩, hr⟩ : ∃ r, ansD (linesD (rows.take k)).2 x = r := ⟨_, rfl⟩
          have AN := answer_any w1 wr w1.heap.size gd (KRun gd A' n' c') _ x hl ht1 hm1 hD (.inl rfl) hxs
          rw [hr] at AN e
          have AN := Lib.hid AN
          have E := Lib.hid e
          clear hs e hr
          go_wp2_with fail
          refine AN.out.mono ?_
          rintro e w4 ⟨rfl, hT⟩
          have hown4 : OwnK 9 1 w4 (· < w3.heap.size) A' n' c' ((linesD (rows.take k)).1.flatMap cStr) := hown.keep fun k _ hq _ => hT.2.block k (.inr hq)
          have h4s : wr.heap.size ≤ w4.heap.size := hT.2.size
          have hD4 : Blk w4 gd 35 #[.pointer (some ⟨w1.heap.size, 0, none⟩)] := (hT.2.block gd (.inl rfl)).trans hD
          obtain ⟨W, hW⟩ : ∃ W, W = w4.alloc (Obj.cells #[.string s] 9) := ⟨_, rfl⟩
          have hoa := hown4.alloc (Obj.cells #[.string s] 9)
          have hDa := hD4.alloc (Obj.cells #[.string s] 9)
          have hWs : W.heap.size = w4.heap.size + 1 := by rw [hW]; simp
          have hcl : ∀ j, j < 1 → W.cell? ((⟨w4.heap.size, 0, none⟩ : Addr).add j) = ([.string s] : List Value)[j]? := fun j hj => by
            obtain rfl : j = 0 := by omega
            have := (Blk.new w4 9 #[.string s]).cell 0
            rw [← hW] at this
            rw [add_at]; exact this
          rw [← hW] at hoa hDa
          have hk8 : n' ≤ 8000000000000 := by omega
          have hk9 : (n' + 1) * 16 ≤ 140737488355328 := by omega
          have hKl : ∀ j, j < w3.heap.size → j < W.heap.size := fun j hj => by omega
          have HW2 := Lib.hid hW
          have HWs := Lib.hid hWs
          clear hW hWs hown4 AN hD hD4
          go_wp2_with (first | (at_builtin; go_must (rw [← HW2.out]; refine wpList_append_K rfl (.tmp 30) (.tmp 34) 22 rfl (· < w3.heap.size) (.string ByteArray.empty) 16 infoStrE Tryz.underlying22 rfl (by decide) (by decide) A' n' c' _ rfl hoa ⟨w4.heap.size, 0, none⟩ 1 [.string s] rfl rfl (by simp [Value.oneCell']) hcl hk9 hk8 hKl ?_); intro A3 c3 w6 hown3 hg3' hp3))
          have hl6 := run_grow hT HW2.out hg3' hp3 h13 hown hown3
          have hD6 := hDa.grown hg3' fun e => by have := (hown.lt gd e).1; omega
          have h6s : w3.heap.size ≤ w6.heap.size := by have := hg3'.size; have := HWs.out; omega
          clear hoa hcl hDa hT hl hown
          go_wp2
          go_roundw
          case rel => exact ⟨k + 1, A3, n' + 1, c3, by omega, by omega, by go_num, rfl, Lib.hid (by rw [E.out, List.length_append, Hn.out]; rfl), by rw [E.out, List.flatMap_append]; exact hown3, by rw [E.out]; exact hl6, hD6, h6s⟩
          case measure => simp only [intOf]; omega
      · obtain rfl : k = m := by omega
        have hall : rows.take k = rows := List.take_of_length_le (by rw [HM.out]; exact Nat.le_refl _)
        have hn := Hn.out
        rw [hall] at hn hown
        have hb := chain hl.below hb1
        go_wp2
        go_ret2
        exact ⟨A', n', c', rfl, hn, hown.cap.1, by omega, hown.toReads, hb⟩
end Go.Proofs.YtaogegpfapfchaaGreatDoor

