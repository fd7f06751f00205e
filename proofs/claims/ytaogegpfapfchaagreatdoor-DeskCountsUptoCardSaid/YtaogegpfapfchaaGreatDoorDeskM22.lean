import Derived.Test.YtaogegpfapfchaaGreatDoorDeskM21
import Derived.Test.YtaogegpfapfchaaGreatDoorDeskM13
import Derived.Test.YtaogegpfapfchaaGreatDoorDeskM04
import Derived.Deep.QuietTactic
import Derived.BigQuiet
import Derived.Deep.DeepMust
import Derived.Test.YtaogegpfapfchaaGreatDoorDeskM20
/- Several texts in one: XWordWalk XDeskList. -/
/- The walks of word.Borders, word.Periods and word.Root. -/
namespace Go.Proofs.YtaogegpfapfchaaGreatDoor
open Go.RowKit
set_option linter.unusedVariables false

theorem infoIntW : (Tryz.prog.info? 3).map (fun i => (i.zero, i.size, i.bytes)) = some (some (.int .i64 0), 1, 8) := by kernel_rfl
theorem IntsAt.drewN {w : World} {g : Nat} {l : List Int} (h : IntsAt w g l) (k : Nat) : IntsAt (w.drewN k) g l := h
theorem intsAt_reads {w : World} {g : Nat} {l : List Int} (h : IntsAt w g l) : Reads w w.heap.size (some ⟨g, 0, none⟩) l.length 1 (l.flatMap cInt) := by
  refine ⟨by rw [flat_length cInt 1 cInt_len], fun _ => ⟨g, 0, rfl, h.1, fun j hj => ?_⟩⟩
  rw [flat_length cInt 1 cInt_len, Nat.mul_one] at hj
  have := flat_getD cInt 1 cInt_len 0 l j 0 hj (by omega)
  rw [Nat.mul_one, Nat.add_zero] at this
  rw [this, Nat.zero_add, (h.2 j hj).1]; rfl

set_option maxHeartbeats 2000000 in
theorem borders_own (s : ByteArray) (hs : s.size ≤ 200) (w : World) :
    Calls Tryz.prog 65 #[.string s] w fun e w' => ∃ g, e = .returned (.tuple #[.slice (some ⟨g, 0, none⟩) s.size s.size, .int .i64 0]) ∧ w.heap.size ≤ g ∧ IntsAt w' g (bordersOf s.data.toList) ∧ Below w.heap.size w w' := by
  have hmk := fun w : World => make_ints (P := Tryz.prog) 76 3 Tryz.underlying76 infoIntW s.size (s.size : Int) rfl (by omega) w
  go_enter Tryz.func65, Tryz.ntmps65
  go_wp2_with fail
  refine (wordCheck_ok s hs _).mono ?_
  rintro e w1 ⟨rfl, rfl⟩
  go_wp2
  obtain ⟨hb0, hz0, hat0⟩ := ints_made w s.size 3
  generalize hW : World.alloc _ _ = W at *
  clear hW hmk
  have hgW : w.heap.size < W.heap.size := by omega
  generalize hgg : w.heap.size = g at *
  have Hgg := Lib.hid hgg
  clear hgg hz0
  go_loopw [6, 7] (fun iv _ wr => ∃ (i : Nat) (l : List Int), 1 ≤ i ∧ (i ≤ s.size ∨ i = 1) ∧ iv = .int .i64 i ∧ Hid (l.length = s.size) ∧ IntsAt wr g l ∧ Below g w wr ∧ Hid (∀ j, j < i → j < s.size → l.getD j 0 = ((pi s.data.toList (j + 1) : Nat) : Int)))
    (fun iv _ _ => s.size - (intOf iv).toNat)
  case atStart =>
    refine ⟨1, List.replicate s.size 0, Nat.le_refl _, .inr rfl, rfl, Lib.hid (by rw [List.length_replicate]), hat0, hb0, Lib.hid fun j hj hjs => ?_⟩
    obtain rfl : j = 0 := by omega
    rw [pi_one, getD_some _ _ _ (by rw [List.length_replicate]; exact hjs), List.getElem_replicate]; rfl
  case round =>
    clear hat0 hb0
    obtain ⟨i, l, hi1, hi2, rfl, Hl, hat, hbr, Hv⟩ := hrel
    by_cases hlt : i < s.size
    · obtain ⟨i', hi'⟩ : ∃ i', i - 1 = i' := ⟨_, rfl⟩
      have hci := (hat.2 i' (by rw [Hl.out]; omega)).1
      rw [Hv.out i' (by omega) (by omega), show i' + 1 = i from by omega] at hci
      have e1 : (i : Int) - 1 = (i' : Int) := by omega
      have hi'' : i' < s.size := by omega
      have hpl := pi_lt s.data.toList (p := i) (by omega)
      have hcs := cand_start s.data.toList (i := i) (by omega)
      have Hcs := Lib.hid hcs
      have hlt' : (i : Int) < s.size := by omega
      clear hi' hcs
      generalize hK0 : pi s.data.toList i = K0 at *
      have HK0 := Lib.hid hK0
      clear hK0
      go_wp2
      clear e1
      go_loopw [7] (fun kv wq => ∃ k : Nat, k < i ∧ kv = .int .i64 k ∧ Hid (Cand s.data.toList i k) ∧ IntsAt wq g l ∧ Below g w wq) (fun kv _ => (intOf kv).toNat)
      case atStart => exact ⟨K0, hpl, rfl, Hcs, hat, hbr⟩
      case round =>
        clear hat hbr hci
        obtain ⟨k, hk, rfl, Hc, hat, hbr⟩ := hrel
        have hks : (k : Int) < s.size := by omega
        have hks' : k < s.size := by omega
        have hgk := getD_bytes s k hks'
        have hgi := getD_bytes s i hlt
        have Hgk := Lib.hid hgk
        have Hgi := Lib.hid hgi
        clear hgk hgi
        obtain ⟨hci, hfi⟩ := hat.2 i (by rw [Hl.out]; exact hlt)
        have hset : ∀ x : Nat, pi s.data.toList (i + 1) = x → ∀ j, j < i + 1 → j < s.size → (l.set i (x : Int)).getD j 0 = ((pi s.data.toList (j + 1) : Nat) : Int) := fun x hx j hj hjs => by
          rw [getD_set _ _ _ _ (by rw [Hl.out]; exact hlt)]
          by_cases e : j = i
          · rw [if_pos e, e, hx]
          · rw [if_neg e]; exact Hv.out j (by omega) hjs
        have Hset := Lib.hid hset
        clear hset
        by_cases heq : s[k] = s[i]
        · have q1 : ((s[k].toNat : Int) == (s[i].toNat : Int)) = true := by rw [heq]; simp
          have q1' : ((s[k].toNat : Int) != (s[i].toNat : Int)) = false := by rw [heq]; simp
          have hh := cand_hit Hc.out (by rw [Hgk.out, Hgi.out]; exact heq)
          have Hh := Lib.hid hh
          clear heq hh
          by_cases hk0 : 0 < k
          · have q0 : decide ((0 : Int) < (k : Int)) = true := decide_eq_true (by omega)
            go_wp2
            go_quiet (fail)
            go_wp2
            go_quiet (fail)
            go_wp2
            go_roundw
            case rel => exact ⟨i + 1, l.set i (k + 1 : Nat), by omega, by omega, by go_num, Lib.hid (by rw [List.length_set]; exact Hl.out), (hat.drewN _).set i (by rw [Hl.out]; exact hlt) _, (below_drewN hbr _).setCell (Nat.le_refl _) _, Lib.hid (Hset.out _ Hh.out)⟩
            case measure => simp [intOf]; omega
          · have q0 : decide ((0 : Int) < (k : Int)) = false := decide_eq_false (by omega)
            go_wp2
            go_quiet (fail)
            go_wp2
            go_quiet (fail)
            go_wp2
            go_roundw
            case rel => exact ⟨i + 1, l.set i (k + 1 : Nat), by omega, by omega, by go_num, Lib.hid (by rw [List.length_set]; exact Hl.out), (hat.drewN _).set i (by rw [Hl.out]; exact hlt) _, (below_drewN hbr _).setCell (Nat.le_refl _) _, Lib.hid (Hset.out _ Hh.out)⟩
            case measure => simp [intOf]; omega
        · have q1 : ((s[k].toNat : Int) == (s[i].toNat : Int)) = false := by rw [beq_eq_false_iff_ne]; intro h; exact heq (UInt8.toNat_inj.1 (by omega))
          have q1' : ((s[k].toNat : Int) != (s[i].toNat : Int)) = true := by rw [bne_iff_ne]; intro h; exact heq (UInt8.toNat_inj.1 (by omega))
          by_cases hk0 : 0 < k
          · have q0 : decide ((0 : Int) < (k : Int)) = true := decide_eq_true (by omega)
            obtain ⟨m, hm⟩ : ∃ m, k - 1 = m := ⟨_, rfl⟩
            have hms : m < s.size := by omega
            have hcm := (hat.2 m (by rw [Hl.out]; exact hms)).1
            rw [Hv.out m (by omega) hms, show m + 1 = k from by omega] at hcm
            have e1 : (k : Int) - 1 = (m : Int) := by omega
            have hpk := pi_lt s.data.toList (p := k) hk0
            have hn := cand_next Hc.out hk0 (by rw [Hgk.out, Hgi.out]; exact heq)
            have Hn := Lib.hid hn
            clear hm heq hn
            generalize hK1 : pi s.data.toList k = K1 at *
            clear hK1
            go_wp2
            go_quiet (fail)
            go_wp2
            clear e1
            go_roundw
            case rel => exact ⟨K1, by omega, rfl, Hn, hat.drewN _, below_drewN hbr _⟩
            case measure => simp [intOf]; omega
          · have q0 : decide ((0 : Int) < (k : Int)) = false := decide_eq_false (by omega)
            have hh : pi s.data.toList (i + 1) = k := by
              obtain rfl : k = 0 := by omega
              exact cand_miss Hc.out (by rw [Hgk.out, Hgi.out]; exact heq)
            have Hh := Lib.hid hh
            clear heq hh
            go_wp2
            go_quiet (fail)
            go_wp2
            go_quiet (fail)
            go_wp2
            go_roundw
            case rel => exact ⟨i + 1, l.set i (k : Nat), by omega, by omega, by go_num, Lib.hid (by rw [List.length_set]; exact Hl.out), (hat.drewN _).set i (by rw [Hl.out]; exact hlt) _, (below_drewN hbr _).setCell (Nat.le_refl _) _, Lib.hid (Hset.out _ Hh.out)⟩
            case measure => simp [intOf]; omega
    · go_wp2
      go_ret2
      have hle : l = bordersOf s.data.toList := by
        refine ext_getD _ _ 0 (by rw [Hl.out, bordersOf_length]; rfl) fun j hj => ?_
        rw [Hl.out] at hj
        rw [Hv.out j (by omega) hj, bordersOf_at _ _ hj]
      exact ⟨g, rfl, by rw [Hgg.out]; exact Nat.le_refl _, by rw [← hle]; exact hat, by rw [Hgg.out]; exact hbr⟩
theorem borders_ok (s : ByteArray) (hs : s.size ≤ 200) (w : World) :
    Calls Tryz.prog 65 #[.string s] w fun e w' => ∃ A, e = .returned (.tuple #[.slice A s.size s.size, .int .i64 0]) ∧
      Reads w' w'.heap.size A s.size 1 ((bordersOf s.data.toList).flatMap cInt) ∧ Below w.heap.size w w' := by
  refine (borders_own s hs w).mono ?_
  rintro e w' ⟨g, rfl, hg, hat, hb⟩
  have := intsAt_reads hat
  rw [show (bordersOf s.data.toList).length = s.size from bordersOf_length _] at this
  exact ⟨some ⟨g, 0, none⟩, rfl, this, hb⟩

set_option maxHeartbeats 400000 in
theorem borders_no (s : ByteArray) (hs : 200 < s.size) (w : World) :
    Calls Tryz.prog 65 #[.string s] w fun e w' => e = .returned (.tuple #[.slice none 0 0, .int .i64 2]) ∧ w = w' := by
  go_enter Tryz.func65, Tryz.ntmps65
  go_wp2_with fail
  refine (wordCheck_no s hs _).mono ?_
  rintro e w1 ⟨rfl, rfl⟩
  go_wp2
  go_ret2
  exact ⟨rfl, rfl⟩

theorem getD_map {α β : Type} (f : α → β) (l : List α) (j : Nat) (d : α) : (l.map f).getD j (f d) = f (l.getD j d) := by
  simp [List.getD_eq_getElem?_getD]
/-- Numbers as they are told. -/
def nI (l : List Nat) : List Int := l.map fun p => ((p : Nat) : Int)
theorem nI_length (l : List Nat) : (nI l).length = l.length := by simp [nI]
theorem nI_snoc (l : List Nat) (x : Nat) : nI (l ++ [x]) = nI l ++ [(x : Int)] := by simp [nI]
theorem ownCapW {w : World} {B size n c : Nat} {e : TypeId} {A : Option Addr} {xs : List Value} (h : w.ownsRow B e size (.slice A n c) n xs) : n ≤ c := by
  rcases h.2 with ⟨h1, h0⟩ | ⟨g, cap, cur, h1, _, _, h2, _⟩
  · omega
  · injection h1 with _ _ h3
    omega

/-- A list of numbers is told, and no error. -/
def ToldInts (L : List Int) (w : World) (e : Ending) (w' : World) : Prop := ∃ A c, e = .returned (.tuple #[.slice A L.length c, .int .i64 0]) ∧ Reads w' w'.heap.size A L.length 1 (L.flatMap cInt) ∧ Below w.heap.size w w' ∧ L.length ≤ c

set_option maxHeartbeats 2000000 in
theorem periods_ok (s : ByteArray) (hs : s.size ≤ 200) (w : World) :
    Calls Tryz.prog 33 #[.string s] w (ToldInts (nI (periodsOf s.data.toList)) w) := by
  have hsl : s.data.toList.length = s.size := rfl
  by_cases h0 : s.size = 0
  · have q0 : s.toList = [] := by rw [ByteArray.toList_eq]; exact List.eq_nil_of_length_eq_zero h0
    have q0' : (!s.toList.isEmpty) = false := by rw [q0]; rfl
    have q0'' : (s.toList == []) = true := by rw [q0]; rfl
    have hp : periodsOf s.data.toList = [] := by unfold periodsOf; rw [if_pos (by rw [hsl]; exact h0)]
    have Hp := Lib.hid hp
    have H1 := Lib.hid (borders_ok s hs)
    clear hp hsl h0
    go_enter Tryz.func33, Tryz.ntmps33
    go_wp2_with fail
    refine (H1.out _).mono ?_
    rintro e w1 ⟨A, rfl, hr1, hb1⟩
    go_wp2
    go_ret2
    refine ⟨none, 0, ?_, ?_, hb1, ?_⟩
    · rw [Hp.out]; rfl
    · rw [Hp.out]; exact Reads.nil
    · rw [Hp.out]; exact Nat.le_refl _
  · have q0 : s.toList.isEmpty = false := by
      rw [ByteArray.toList_eq, List.isEmpty_eq_false_iff]
      intro h
      exact h0 (by rw [← hsl, h]; rfl)
    have q0' : (s.toList == []) = false := by
      rw [beq_eq_false_iff_ne]; intro h; rw [h] at q0; cases q0
    have hpn := pi_lt s.data.toList (p := s.size) (by omega)
    have hper : periodsOf s.data.toList = pchain s.data.toList s.size (pi s.data.toList s.size) ++ [s.size] := by unfold periodsOf; rw [if_neg (by rw [hsl]; exact h0), hsl]
    have hbl := bordersOf_length s.data.toList
    have hba := bordersOf_at s.data.toList
    have H1 := Lib.hid (borders_ok s hs)
    have Hper := Lib.hid hper
    have Hbl := Lib.hid hbl
    have Hba := Lib.hid hba
    obtain ⟨n', hn'⟩ : ∃ n', s.size - 1 = n' := ⟨_, rfl⟩
    have hns : n' < s.size := by omega
    have en : (s.size : Int) - 1 = (n' : Int) := by omega
    have hlast : (bordersOf s.data.toList).getD n' 0 = ((pi s.data.toList s.size : Nat) : Int) := by rw [hba n' hns, show n' + 1 = s.size from by omega]
    have Hlast := Lib.hid hlast
    generalize bordersOf s.data.toList = bo at *
    generalize hK : pi s.data.toList s.size = K at *
    have HK := Lib.hid hK
    clear hper hbl hba hn' hlast hsl h0 hK
    go_enter Tryz.func33, Tryz.ntmps33
    go_wp2_with fail
    refine (H1.out _).mono ?_
    rintro e w1 ⟨A, rfl, hr1, hb1⟩
    obtain ⟨b, o, rfl, hbB, hc⟩ := hr1.2 (by omega)
    have hcell : ∀ j, j < s.size → w1.cell? ⟨b, o + j, none⟩ = some (.int .i64 (bo.getD j 0)) := fun j hj => by
      have c0 := hc (j * 1 + 0) (by rw [flat_length cInt 1 cInt_len, Hbl.out]; show j * 1 + 0 < s.size * 1; omega)
      rw [flat_getD cInt 1 cInt_len 0 bo j _ (by rw [Hbl.out]; exact hj) (by omega)] at c0
      simpa [cInt] using c0
    have c0 := hcell n' hns
    rw [Hlast.out] at c0
    have Hcell := Lib.hid hcell
    clear hcell hc
    go_wp2
    clear en c0
    go_loopw [6, 7] (fun ov kv wr => ∃ (k f m : Nat) (R : List Nat) (A' : Option Addr) (c' : Nat), k < s.size ∧ kv = .int .i64 k ∧ ov = .slice A' m c' ∧ Hid (R.length = m) ∧ m + k ≤ s.size ∧ Hid (k ≤ f) ∧ Hid (R ++ pchain s.data.toList f k = pchain s.data.toList s.size K) ∧
        wr.ownsRow w1.heap.size 3 1 (.slice A' m c') m ((nI R).flatMap cInt) ∧ Below w1.heap.size w1 wr) (fun _ kv _ => (intOf kv).toNat)
    case atStart => exact ⟨K, s.size, 0, [], none, 0, hpn, rfl, rfl, rfl, by omega, Lib.hid (by omega), rfl, World.ownsRow_nil _ _ _ _, Below.refl _ _⟩
    case round =>
      obtain ⟨k, f, m, R, A', c', hk, rfl, rfl, Hm, hmk, Hf, HR, hown, hbr⟩ := hrel
      by_cases hk0 : 0 < k
      · have q1 : decide ((0 : Int) < (k : Int)) = true := decide_eq_true (by omega)
        obtain ⟨f', rfl⟩ : ∃ f', f = f' + 1 := ⟨f - 1, by have := Hf.out; omega⟩
        have hst : pchain s.data.toList (f' + 1) k = (s.size - k) :: pchain s.data.toList f' (pi s.data.toList k) := by rw [pchain, if_neg (by omega)]; rfl
        obtain ⟨k', hk'⟩ : ∃ k', k - 1 = k' := ⟨_, rfl⟩
        have hks : k' < s.size := by omega
        have ek : (k : Int) - 1 = (k' : Int) := by omega
        have ck := Hcell.out k' hks
        rw [Hba.out k' hks, show k' + 1 = k from by omega] at ck
        have ckw := (hbr.cell (p := ⟨b, o + k', none⟩) hbB).trans ck
        have hpk := pi_lt s.data.toList (p := k) hk0
        have hR2 : (R ++ [s.size - k]) ++ pchain s.data.toList f' (pi s.data.toList k) = pchain s.data.toList s.size K := by
          have := HR.out
          rw [hst] at this
          rw [List.append_assoc]; exact this
        have HR2 := Lib.hid hR2
        have esk : (s.size : Int) - (k : Int) = ((s.size - k : Nat) : Int) := by omega
        have Hesk := Lib.hid esk
        clear hst hk' ck hR2 esk
        generalize pi s.data.toList k = K1 at *
        have hbB2 : b < wr.heap.size := by have := hbr.size; omega
        go_wp2_with (first | (at_builtin; go_must (refine wpList_append_new _ 76 (.tmp 33) (.tmp 38) rfl rfl w1.heap.size 3 infoIntW Tryz.underlying76 rfl (by decide) _ _ _ _ rfl hown #[.int .i64 ((s.size : Int) - (k : Int))] 1 rfl rfl (by simp [Value.oneCell']) (by unfold maxLen; omega) (by omega) hbr.size ?_); intro A3 c3 w3 hown3 hb3 hg3; have ckw3 := (hb3.cell (p := ⟨b, o + k', none⟩) hbB).trans ckw))
        clear ek
        go_roundw
        case rel =>
          refine ⟨K1, f', m + 1, R ++ [s.size - k], A3, c3, by omega, rfl, rfl, Lib.hid (by rw [List.length_append, Hm.out]; rfl), by omega, Lib.hid (by have := Hf.out; omega), HR2, ?_, hbr.trans hb3⟩
          rw [nI_snoc, flat_snoc, ← Hesk.out]; exact hown3
        case measure => simp [intOf]; omega
      · have q1 : decide ((0 : Int) < (k : Int)) = false := decide_eq_false (by omega)
        have hfin : periodsOf s.data.toList = R ++ [s.size] := by
          have h1 := HR.out
          have h2 : pchain s.data.toList f k = [] := by
            obtain rfl : k = 0 := by omega
            cases f <;> rfl
          rw [h2, List.append_nil] at h1
          rw [Hper.out, h1]
        have Hfin := Lib.hid hfin
        clear hfin
        go_wp2_with (first | (at_builtin; go_must (refine wpList_append_new _ 76 (.tmp 40) (.tmp 43) rfl rfl w1.heap.size 3 infoIntW Tryz.underlying76 rfl (by decide) _ _ _ _ rfl hown #[.int .i64 (s.size : Int)] 1 rfl rfl (by simp [Value.oneCell']) (by unfold maxLen; omega) (by omega) hbr.size ?_); intro A3 c3 w3 hown3 hb3 hg3))
        go_ret2
        have hn : (nI (R ++ [s.size])).length = m + 1 := by rw [nI_length, List.length_append, Hm.out]; rfl
        refine ⟨A3, c3, ?_, ?_, chain (hbr.trans hb3) hb1, ?_⟩
        · rw [Hfin.out, hn]; rfl
        · rw [Hfin.out, hn, nI_snoc, flat_snoc]; exact Reads.of_own hown3
        · rw [Hfin.out, hn]; exact ownCapW hown3

set_option maxHeartbeats 400000 in
theorem periods_no (s : ByteArray) (hs : 200 < s.size) (w : World) :
    Calls Tryz.prog 33 #[.string s] w fun e w' => e = .returned (.tuple #[.slice none 0 0, .int .i64 2]) ∧ w = w' := by
  go_enter Tryz.func33, Tryz.ntmps33
  go_wp2_with fail
  refine (borders_no s hs _).mono ?_
  rintro e w1 ⟨rfl, rfl⟩
  go_wp2
  go_ret2
  exact ⟨rfl, rfl⟩

theorem find_at (f : Nat → Bool) : ∀ (l : List Nat) (j : Nat), j < l.length → (∀ q ∈ l.take j, f q = false) → f (l.getD j 0) = true → l.find? f = some (l.getD j 0)
  | a :: l, 0, _, _, h => by rw [List.find?_cons]; simp only [List.getD_cons_zero] at h ⊢; rw [h]
  | a :: l, j + 1, hj, hn, h => by
    rw [List.find?_cons, hn a (by simp), List.getD_cons_succ]
    exact find_at f l j (by simpa using hj) (fun q hq => hn q (by simp [hq])) (by simpa using h)


end Go.Proofs.YtaogegpfapfchaaGreatDoor

/- The walk of the desk's listed. -/
namespace Go.Proofs.YtaogegpfapfchaaGreatDoor
open Go.RowKit
set_option linter.unusedVariables false

def decB (n : Nat) : ByteArray := ⟨(Lib.decDigits n).toArray⟩
def listO (l : List Nat) : ByteArray := l.foldl (fun o x => o ++ (decB x ++ ⟨#[32]⟩)) ⟨#[]⟩
/-- Numbers, each with a blank behind it. -/
def listD (l : List Nat) : ByteArray := listO l ++ ⟨#[46]⟩
theorem listO_snoc (l : List Nat) (x : Nat) : listO (l ++ [x]) = listO l ++ (decB x ++ ⟨#[32]⟩) := by unfold listO; rw [List.foldl_append]; rfl
theorem listO_le : ∀ (l : List Nat), (∀ x ∈ l, x ≤ 1000000) → (listO l.reverse).size ≤ l.length * 1000002
  | [], _ => by decide
  | x :: l, h => by
    have ih := listO_le l fun y hy => h y (List.mem_cons_of_mem _ hy)
    have h1 := decDigits_le x
    have h2 := h x (List.mem_cons_self ..)
    have h3 : (decB x).size = (Lib.decDigits x).length := rfl
    rw [List.reverse_cons, listO_snoc, ByteArray.size_append, ByteArray.size_append, List.length_cons, h3, show (ByteArray.mk #[32]).size = 1 from rfl]
    omega
theorem listO_le' (l : List Nat) (h : ∀ x ∈ l, x ≤ 1000000) : (listO l).size ≤ l.length * 1000002 := by
  have := listO_le l.reverse fun x hx => h x (List.mem_reverse.1 hx)
  rwa [List.reverse_reverse, List.length_reverse] at this

set_option maxHeartbeats 1000000 in
theorem listed_any (R : List Nat) (A : Option Addr) (n c B : Nat) (hn : R.length = n) (h1 : n ≤ 1000000) (hx : ∀ x ∈ R, x ≤ 1000000) (w : World) (h : Reads w B A n 1 ((nI R).flatMap cInt)) (hB : B ≤ w.heap.size) (ht : Tab w) :
    Calls Tryz.prog 34 #[.slice A n c] w fun e w' => e = .returned (.string (listD R)) ∧ Below w.heap.size w w' := by
  have z32 : (ByteArray.mk #[32]).size = 1 := rfl
  have z46 : (ByteArray.mk #[46]).size = 1 := rfl
  have Hn := Lib.hid hn
  clear hn
  go_enter Tryz.func34, Tryz.ntmps34
  go_wp2
  go_loopw [3, 5, 8] (fun out _ iv wr => ∃ k : Nat, k ≤ n ∧ iv = .int .i64 k ∧ out = .string (listO (R.take k)) ∧ Below w.heap.size w wr) (fun _ _ iv _ => n - (intOf iv).toNat)
  case atStart => exact ⟨0, Nat.zero_le _, rfl, rfl, Below.refl _ _⟩
  case round =>
    obtain ⟨k, hk, rfl, rfl, hbr⟩ := hrel
    have hle := listO_le' (R.take k) fun x hm => hx x (List.mem_of_mem_take hm)
    rw [List.length_take, Hn.out] at hle
    by_cases hlt : k < n
    · have hr := h.below' hbr hB
      obtain ⟨b, o, rfl, hbB, _⟩ := h.2 (by omega)
      have hl : (nI R).length = n := by rw [nI_length]; exact Hn.out
      have c0 := ints_cell hr hl k hlt
      obtain ⟨x, hxx⟩ : ∃ x : Nat, (nI R).getD k 0 = (x : Int) ∧ R.getD k 0 = x := ⟨R.getD k 0, by unfold nI; rw [List.getD_eq_getElem?_getD, List.getElem?_map, List.getElem?_eq_getElem (by rw [Hn.out]; exact hlt), List.getD_eq_getElem?_getD, List.getElem?_eq_getElem (by rw [Hn.out]; exact hlt)]; rfl, rfl⟩
      rw [hxx.1] at c0
      have hm : x ∈ R := by rw [← hxx.2, List.getD_eq_getElem?_getD, List.getElem?_eq_getElem (by rw [Hn.out]; exact hlt)]; exact List.getElem_mem _
      have hx1 := hx x hm
      have htk := take_succ_getD R k 0 (by rw [Hn.out]; exact hlt)
      rw [hxx.2] at htk
      have hs := listO_snoc (R.take k) x
      rw [← htk] at hs
      have Hs := Lib.hid hs
      have I := Lib.hid (itoa_tab x hx1 wr (ht.after hbr))
      have l1 := decDigits_le x
      have l2 : (decB x).size = (Lib.decDigits x).length := rfl
      have a1 : ∀ w, (Op.stringOp .add (decB x) ⟨#[32]⟩).run Tryz.prog w = .ok (.string (decB x ++ ⟨#[32]⟩)) w := fun w => run_string_add_sum w _ _ (by omega)
      have a2 : ∀ w, (Op.stringOp .add (listO (R.take k)) (decB x ++ ⟨#[32]⟩)).run Tryz.prog w = .ok (.string (listO (R.take k) ++ (decB x ++ ⟨#[32]⟩))) w := fun w => run_string_add_sum w _ _ (by simp only [ByteArray.size_append]; omega)
      clear hs htk hxx hm hl hr h hx l1 l2 hle
      generalize listO (R.take k) = O at *
      go_wp2_with fail
      refine I.out.mono ?_
      rintro e w1 ⟨rfl, hb1⟩
      change ∀ w, (Op.stringOp .add ⟨(Lib.decDigits x).toArray⟩ ⟨#[32]⟩).run Tryz.prog w = .ok (.string (decB x ++ ⟨#[32]⟩)) w at a1
      go_wp2
      go_roundw
      case rel => exact ⟨k + 1, by omega, by go_num, by rw [Hs.out], chain hb1 hbr⟩
      case measure => simp [intOf]; omega
    · obtain rfl : k = n := by omega
      have a3 : ∀ w, (Op.stringOp .add (listO (R.take k)) ⟨#[46]⟩).run Tryz.prog w = .ok (.string (listO (R.take k) ++ ⟨#[46]⟩)) w := fun w => run_string_add_sum w _ _ (by omega)
      have hf : listD R = listO (R.take k) ++ ⟨#[46]⟩ := by unfold listD; rw [List.take_of_length_le (by rw [Hn.out]; exact Nat.le_refl _)]
      have Hf := Lib.hid hf
      clear hf h hx hle
      generalize listO (R.take k) = O at *
      go_wp2
      go_ret
      exact ⟨by rw [Hf.out]; rfl, hbr⟩
end Go.Proofs.YtaogegpfapfchaaGreatDoor

