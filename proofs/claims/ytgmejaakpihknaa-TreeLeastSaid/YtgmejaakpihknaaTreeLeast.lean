/- TreeLeast's walk: no uniquely decodable code costs less than Huffman's. -/
import Derived.Test.YtgmejaakpihknaaTrees
import Derived.Test.YtgmejaakpihknaaArgs
namespace Go.Proofs.Ytgmejaakpihknaa
open Go.RowKit
set_option linter.unusedVariables false

theorem krW_kr (L : Nat) : ∀ (ws q : List Nat), q.length = ws.length → krW L (ws.zip q) = kr L q
  | [], [], _ => rfl
  | w :: ws, x :: q, h => by
    have h' : q.length = ws.length := by simpa using h
    show 2 ^ (L - x) + krW L (ws.zip q) = 2 ^ (L - x) + kr L q
    rw [krW_kr L ws q h']
  | [], _ :: _, h => by simp at h
  | _ :: _, [], h => by simp at h
theorem nats_ikN (o : List Nat) : nats (ikN o) = o := by
  unfold nats ikN
  rw [List.map_map]
  exact (List.map_congr_left fun x _ => by simp).trans (List.map_id o)
theorem nats_len (l : List Int) : (nats l).length = l.length := by unfold nats; rw [List.length_map]
/-- What Lens told is a row of lengths. -/
theorem lens_cost {ws : List Int} {o : List Nat} (hc : checkT ws = 0) (h : LensOk (nats ws) o) : costE ws (ikN o) = 0 ∧ costV ws (ikN o) = ((costO (nats ws) o : Nat) : Int) := by
  have hl := (checkT_zero ws).1 hc
  have hlen : o.length = ws.length := by rw [h.len, nats_len]
  have hs : sumE (ikN o) = 0 := (sumE_zero _).2 ⟨by rw [ikN_len, hlen]; exact hl.1, fun x hx => by
    obtain ⟨k, hk, rfl⟩ := List.getElem_of_mem hx
    rw [ikN_len] at hk
    have hb := h.bd k (by rw [← h.len]; exact hk)
    have e : (ikN o)[k] = ((o.getD k 0 : Nat) : Int) := by
      rw [← ikN_getD, List.getD_eq_getElem?_getD, List.getElem?_eq_getElem (by rw [ikN_len]; exact hk)]; rfl
    rw [e]
    rw [nats_len] at hb
    omega⟩
  have he : costE ws (ikN o) = 0 := by
    unfold costE
    rw [if_neg (fun h => h hc), if_neg (fun h => h hs), if_neg (fun h => h (by rw [ikN_len, hlen]))]
  refine ⟨he, ?_⟩
  unfold costV
  rw [if_pos he, nats_ikN]
theorem lens_least {ws q : List Int} {o : List Nat} (h : LensOk (nats ws) o) (hq : costE ws q = 0) (hk : sumV q ≤ 4096) : ((costO (nats ws) o : Nat) : Int) ≤ costV ws q := by
  obtain ⟨h1, h2, h3⟩ := costE_zero hq
  have hs := (sumE_zero q).1 h2
  have hln : (nats q).length = (nats ws).length := by rw [nats_len, nats_len, h3]
  have hb : ∀ k, k < (nats q).length → 1 ≤ (nats q).getD k 0 ∧ (nats q).getD k 0 ≤ 12 := fun k hk => by
    rw [nats_len] at hk
    rw [nats_getD, List.getD_eq_getElem?_getD, List.getElem?_eq_getElem hk]
    have := hs.2 _ (List.getElem_mem hk)
    show 1 ≤ (q[k]).toNat ∧ (q[k]).toNat ≤ 12
    omega
  have hK : Kr 12 ((nats ws).zip (nats q)) := by
    refine ⟨fun x hx => ?_, ?_⟩
    · obtain ⟨i, hi, rfl⟩ := List.getElem_of_mem hx
      have hi' := hi
      rw [List.length_zip, hln, Nat.min_self] at hi'
      rw [List.getElem_zip]
      have := (hb i (by rw [hln]; exact hi')).2
      rw [List.getD_eq_getElem?_getD, List.getElem?_eq_getElem (by rw [hln]; exact hi')] at this
      exact this
    · rw [krW_kr 12 _ _ hln]
      unfold sumV at hk
      rw [if_pos h2] at hk
      have : (2 : Nat) ^ 12 = 4096 := by decide
      omega
  have := h.least (nats q) 12 hln (fun k hk => (hb k (by rw [hln]; exact hk)).1) hK
  unfold costV
  rw [if_pos hq]
  exact Int.ofNat_le.2 this

set_option maxRecDepth 100000 in
set_option maxHeartbeats 4000000 in
theorem treeLeast_walk (A : Option Addr) (n cap : Nat) (ws : List Int) (A1 : Option Addr) (n1 cap1 : Nat) (q : List Int) {w : World} (ha : IntsIn w A n cap ws) (hb : IntsIn w A1 n1 cap1 q) :
    Calls Try.prog 4 #[.slice A n cap, .slice A1 n1 cap1] w fun e w' => e = .returned (.bool true) ∧ Below w.heap.size w w' := by
  obtain ⟨hla, hra, hlena, _, hcapa, hma, _⟩ := ha
  obtain ⟨hlb, hrb, hlenb, _, hcapb, hmb, _⟩ := hb
  have HL := Lib.hid (fun w (r : Reads w w.heap.size A n 1 (ws.flatMap cInt)) => treeLens_any A n cap w.heap.size ws w (by omega) hla r (Nat.le_refl _))
  have HC := Lib.hid (fun w A' m c' (o : List Int) (hm : m ≤ 1125899906842624) (ho : o.length = m) (r : Reads w w.heap.size A n 1 (ws.flatMap cInt)) (r' : Reads w w.heap.size A' m 1 (o.flatMap cInt)) => treeCost_any A n cap w.heap.size ws A' m c' w.heap.size o w (by omega) hm hla ho r r')
  have HS := Lib.hid (fun w (r : Reads w w.heap.size A1 n1 1 (q.flatMap cInt)) => codeSum_any A1 n1 cap1 w.heap.size q w (by omega) hlb r)
  have Hlb := Lib.hid hlb
  have Hla := Lib.hid hla
  have G := Lib.hid (fun w => good_fresh [0, 0] 2 2 rfl (by decide) w 24)
  have hn1 : n1 ≤ 1125899906842624 := by omega
  have hn0 : n ≤ 1125899906842624 := by omega
  have hce : costE ws q = 0 → sumE q = 0 := fun h => (costE_zero h).2.1
  have Hce := Lib.hid hce
  clear hla hlb hma hmb hce
  go_enter Try.func4, Try.ntmps4
  go_wp2_with fail
  refine (trees_any _).mono ?_
  rintro e w1 ⟨rfl, hb1⟩
  have ra1 := (hra.below hb1).more hb1.size
  have rb1 := (hrb.below hb1).more hb1.size
  clear hra hrb
  go_wp2_with fail
  refine (HL.out _ ra1).mono ?_
  rintro e w2 ⟨hb2, hx⟩
  have ra2 := ra1.after hb2
  have rb2 := rb1.after hb2
  have hb2 := chain hb2 hb1
  clear ra1 rb1 hb1
  rcases hx with ⟨hno, rfl⟩ | ⟨hc, g, o, rfl, hok, hro⟩
  · have q1 : (checkT ws != 0) = true := by simpa using hno
    have q1' : (checkT ws == 0) = false := by simpa using hno
    have HC2 := Lib.hid (HC.out _ A1 n1 cap1 q hn1 Hlb.out ra2 rb2)
    clear hno HC HL HS
    generalize checkT ws = E at *
    generalize costE ws q = F at *
    generalize costV ws q = C at *
    go_wp2_with fail
    refine HC2.out.mono ?_
    rintro e w3 ⟨rfl, rfl⟩
    go_wp2
    all_goals (go_ret; exact ⟨by simp, hb2⟩)
  · have HC2 := Lib.hid (HC.out _ A1 n1 cap1 q hn1 Hlb.out ra2 rb2)
    obtain ⟨e1, e2⟩ := lens_cost hc hok
    have hol : (ikN o).length = n := by rw [ikN_len, hok.len, nats_len, Hla.out]
    have HC3 := Lib.hid (HC.out _ (some ⟨g, 0, none⟩) n n (ikN o) hn0 hol ra2 hro)
    have HS2 := Lib.hid (HS.out _ rb2)
    rw [e1, e2] at HC3
    have hle := fun h => lens_least hok (q := q) h
    have Hle := Lib.hid hle
    clear HC HL HS hle hol e1 e2 hok hc ra2 rb2 hro
    generalize costO (nats ws) o = D at *
    generalize costE ws q = F at *
    generalize costV ws q = C at *
    generalize sumV q = V at *
    generalize sumE q = S at *
    by_cases hF : F = 0
    case neg =>
      have q2 : (F != 0) = true := by simpa using hF
      clear hF Hce Hle
      go_wp2_with fail
      refine HC2.out.mono ?_
      rintro e w3 ⟨rfl, rfl⟩
      go_wp2
      all_goals (go_ret; exact ⟨by simp, hb2⟩)
    have hS := Hce.out hF
    subst hF hS
    go_wp2_with fail
    refine HC2.out.mono ?_
    rintro e w3 ⟨rfl, rfl⟩
    go_wp2_with fail
    refine HC3.out.mono ?_
    rintro e w3 ⟨rfl, rfl⟩
    go_wp2_with fail
    refine HS2.out.mono ?_
    rintro e w3 ⟨rfl, rfl⟩
    go_wp2_with fail
    refine (G.out _).mono ?_
    rintro e w4 ⟨rfl, hb4⟩
    have hb5 := chain hb4 hb2
    by_cases hV : (4096 : Int) < V
    · have q3 : decide ((4096 : Int) < V) = true := decide_eq_true hV
      clear Hle
      go_wp2
      all_goals (go_ret; exact ⟨by simp, hb5⟩)
    · have q3 : decide ((4096 : Int) < V) = false := decide_eq_false hV
      have q4 : decide ((D : Int) ≤ C) = true := decide_eq_true (Hle.out trivial (by omega))
      clear Hle
      go_wp2
      all_goals (go_ret; exact ⟨by simp, hb5⟩)
end Go.Proofs.Ytgmejaakpihknaa
