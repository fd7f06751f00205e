/- The walk of rope.Join. -/
import Derived.Test.YtkeeggklgdinhaaRopeCut
import Derived.Test.YtkeeggklgdinhaaConcatS
namespace Go.Proofs.Ytkeeggklgdinhaa
open Go.RowKit
set_option linter.unusedVariables false

theorem big_txt {l : List ByteArray} (h : checkR l = 0) : l.length ≤ 60 ∧ ∀ p ∈ l, p.size ≤ 200 := by
  obtain ⟨k1, k2, k3⟩ := (checkR_iff l).1 h
  refine ⟨k1, fun p hp => ?_⟩
  have : p.size ≤ (txt l).length := by
    obtain ⟨a, b, rfl⟩ := List.append_of_mem hp
    rw [txt_append, txt_cons, List.length_append, List.length_append, dlen]; omega
  omega

theorem cut_ok {l : List ByteArray} {a : Int} (h : cutE l a = 0) : checkR l = 0 := by
  unfold cutE at h
  by_cases hc : checkR l = 0
  · exact hc
  · rw [if_pos hc] at h; exact absurd h hc
theorem ok_small {l : List ByteArray} (h : checkR l = 0) : l.length ≤ 1000000000000000 ∧ ∀ p ∈ l, p.size ≤ 140737488355328 := by
  obtain ⟨h1, h2⟩ := big_txt h
  exact ⟨by omega, fun p hp => by have := h2 p hp; omega⟩

theorem Reads.setFar {w : World} {B : Nat} {A : Option Addr} {n size g i : Nat} {xs : List Value} {u : Value} (h : Reads w B A n size xs) (hA : ∀ b o, A = some ⟨b, o, none⟩ → b ≠ g) : Reads (w.setCell ⟨g, i, none⟩ u) B A n size xs := by
  refine ⟨h.1, fun hn => ?_⟩
  obtain ⟨b, o, e, hb, hc⟩ := h.2 hn
  refine ⟨b, o, e, hb, fun j hj => ?_⟩
  rw [← hc j hj]
  have := Below.heap_setCell w ⟨g, i, none⟩ u b (hA b o e)
  simp only [World.cell?, this]

set_option maxHeartbeats 8000000 in
theorem join_own (A1 A2 : Option Addr) (n1 c1 n2 c2 B : Nat) (l1 l2 : List ByteArray) (hl1 : l1.length = n1) (hl2 : l2.length = n2) (hn1 : n1 ≤ 1000000000000000) (hn2 : n2 ≤ 1000000000000000) (hz1 : ∀ p ∈ l1, p.size ≤ 140737488355328) (hz2 : ∀ p ∈ l2, p.size ≤ 140737488355328)
    (w : World) (r1 : Reads w B A1 n1 1 (l1.flatMap cStr)) (r2 : Reads w B A2 n2 1 (l2.flatMap cStr)) (hB : B ≤ w.heap.size) :
    Calls Try.prog 12 #[ropeV A1 n1 c1, ropeV A2 n2 c2] w fun e w' => ToldRopeO w e w' (if joinE l1 l2 = 0 then l1 ++ l2 else []) (joinE l1 l2) := by
  obtain ⟨E, hE⟩ : ∃ E, E = joinE l1 l2 := ⟨_, rfl⟩
  obtain ⟨L, hL⟩ : ∃ L, L = if joinE l1 l2 = 0 then l1 ++ l2 else [] := ⟨_, rfl⟩
  rw [← hL, ← hE]
  rw [← hE] at hL
  have hb0 : Below w.heap.size w (((w.alloc (Obj.cells #[.slice A1 n1 c1] 24)).alloc (Obj.cells #[.slice A2 n2 c2] 24)).alloc (Obj.cells #[.slice none 0 0] 24)) := (((Below.refl _ _).alloc (Nat.le_refl _) _).alloc (by simp) _).alloc (by simp; omega) _
  have g0 : Blk (((w.alloc (Obj.cells #[.slice A1 n1 c1] 24)).alloc (Obj.cells #[.slice A2 n2 c2] 24)).alloc (Obj.cells #[.slice none 0 0] 24)) w.heap.size 24 #[.slice A1 n1 c1] := ((Blk.new w _ _).alloc _).alloc _
  have g1 : Blk (((w.alloc (Obj.cells #[.slice A1 n1 c1] 24)).alloc (Obj.cells #[.slice A2 n2 c2] 24)).alloc (Obj.cells #[.slice none 0 0] 24)) (w.heap.size + 1) 24 #[.slice A2 n2 c2] := by
    have := (Blk.new (w.alloc (Obj.cells #[.slice A1 n1 c1] 24)) 24 #[.slice A2 n2 c2]).alloc (Obj.cells #[.slice none 0 0] 24)
    rwa [show (w.alloc (Obj.cells #[.slice A1 n1 c1] 24)).heap.size = w.heap.size + 1 from by simp] at this
  have g2 : Blk (((w.alloc (Obj.cells #[.slice A1 n1 c1] 24)).alloc (Obj.cells #[.slice A2 n2 c2] 24)).alloc (Obj.cells #[.slice none 0 0] 24)) (w.heap.size + 1 + 1) 24 #[.slice none 0 0] := by
    have := Blk.new ((w.alloc (Obj.cells #[.slice A1 n1 c1] 24)).alloc (Obj.cells #[.slice A2 n2 c2] 24)) 24 #[.slice none 0 0]
    rwa [show ((w.alloc (Obj.cells #[.slice A1 n1 c1] 24)).alloc (Obj.cells #[.slice A2 n2 c2] 24)).heap.size = w.heap.size + 1 + 1 from by simp] at this
  have cz0 : (((w.alloc (Obj.cells #[.slice A1 n1 c1] 24)).alloc (Obj.cells #[.slice A2 n2 c2] 24)).alloc (Obj.cells #[.slice none 0 0] 24)).cell? ⟨w.heap.size, 0, none⟩ = some (.slice A1 n1 c1) := g0.cell 0
  have ha := rcheck_any A1 n1 c1 B l1 hl1 hn1 hz1 _ (r1.below (hb0.mono hB)) (Nat.le_trans hB hb0.size)
  have hbk : ∀ w', Below w.heap.size w w' → Calls Try.prog 21 #[ropeV A2 n2 c2] w' fun e w'' => e = .returned (.int .i64 (checkR l2)) ∧ Below w'.heap.size w' w'' := fun w' hw => rcheck_any A2 n2 c2 B l2 hl2 hn2 hz2 w' (r2.below (hw.mono hB)) (Nat.le_trans hB hw.size)
  have Ha := Lib.hid ha
  have Hbk := Lib.hid hbk
  clear ha hbk
  by_cases hc1 : checkR l1 = 0
  case neg =>
    have hE2 : E = checkR l1 := by rw [hE]; unfold joinE; rw [if_neg hc1]
    obtain rfl : L = [] := by rw [hL, hE2, if_neg hc1]
    clear hE hL
    subst hE2
    have q1 : (checkR l1 != 0) = true := by simpa using hc1
    generalize checkR l1 = E at *
    clear r1 r2 hl1 hl2 hz1 hz2 hc1 Hbk
    go_enter Try.func12, Try.ntmps12
    go_wp2_with fail
    refine Ha.out.mono ?_
    rintro e w2 ⟨rfl, hb2⟩
    have k2 := g2.after hb2
    have c2' : w2.cell? ⟨w.heap.size + 1 + 1, 0, none⟩ = some (.slice none 0 0) := k2.cell 0
    have f2 : w2.frozen? ⟨w.heap.size + 1 + 1, 0, none⟩ = false := k2.frozen 0
    have hbw := chain hb2 hb0
    clear hb2 hb0 cz0 g0 g1 g2 Ha
    go_wp2
    have x2 : (w2.setCell ⟨w.heap.size + 1 + 1, 0, none⟩ (.slice none 0 0)).cell? ⟨w.heap.size + 1 + 1, 0, none⟩ = some (.slice none 0 0) := (k2.set_ 0 (.slice none 0 0)).cell 0
    refine bodyPost_ret (by simp [results, Try.results12, go_sem, x2]; try rfl) rfl ?_
    exact ⟨none, 0, 0, rfl, OwnS.nil _ _, hbw.setCell (p := ⟨w.heap.size + 1 + 1, 0, none⟩) (by show w.heap.size ≤ w.heap.size + 1 + 1; omega) _⟩
  rw [hc1] at Ha
  by_cases hc2 : checkR l2 = 0
  case neg =>
    have hE2 : E = checkR l2 := by rw [hE]; unfold joinE; rw [if_pos hc1, if_neg hc2]
    obtain rfl : L = [] := by rw [hL, hE2, if_neg hc2]
    clear hE hL
    subst hE2
    have q1 : (checkR l2 != 0) = true := by simpa using hc2
    generalize checkR l2 = E at *
    clear r1 r2 hl1 hl2 hz1 hz2 hc1 hc2
    go_enter Try.func12, Try.ntmps12
    go_wp2_with fail
    refine Ha.out.mono ?_
    rintro e w2 ⟨rfl, hb2⟩
    have k1 := g1.after hb2
    have k2 := g2.after hb2
    have c1' : w2.cell? ⟨w.heap.size + 1, 0, none⟩ = some (.slice A2 n2 c2) := k1.cell 0
    have hbw := chain hb2 hb0
    clear hb2 hb0 cz0 g0 g1 g2 Ha
    go_wp2_with fail
    refine (Hbk.out w2 hbw).mono ?_
    rintro e w3 ⟨rfl, hb3⟩
    have k3 := k2.after hb3
    have c3' : w3.cell? ⟨w.heap.size + 1 + 1, 0, none⟩ = some (.slice none 0 0) := k3.cell 0
    have f3 : w3.frozen? ⟨w.heap.size + 1 + 1, 0, none⟩ = false := k3.frozen 0
    have hbw3 := chain hb3 hbw
    clear hb3 hbw k1 k2 c1'
    go_wp2
    have x2 : (w3.setCell ⟨w.heap.size + 1 + 1, 0, none⟩ (.slice none 0 0)).cell? ⟨w.heap.size + 1 + 1, 0, none⟩ = some (.slice none 0 0) := (k3.set_ 0 (.slice none 0 0)).cell 0
    refine bodyPost_ret (by simp [results, Try.results12, go_sem, x2]; try rfl) rfl ?_
    exact ⟨none, 0, 0, rfl, OwnS.nil _ _, hbw3.setCell (p := ⟨w.heap.size + 1 + 1, 0, none⟩) (by show w.heap.size ≤ w.heap.size + 1 + 1; omega) _⟩
  rw [hc2] at Hbk
  obtain ⟨h60a, hza⟩ := big_txt hc1
  obtain ⟨h60b, hzb⟩ := big_txt hc2
  have hE2 : E = if checkR (l1 ++ l2) = 0 then 0 else 11 := by rw [hE]; unfold joinE; rw [if_pos hc1, if_pos hc2]
  have HE := Lib.hid hE2
  have HL := Lib.hid hL
  have Hl1 := Lib.hid hl1
  have Hl2 := Lib.hid hl2
  have n60a : n1 ≤ 60 := by omega
  have n60b : n2 ≤ 60 := by omega
  have Hza := Lib.hid hza
  have Hzb := Lib.hid hzb
  clear hE hL hE2 hl1 hl2 hz1 hz2 hc1 hc2 h60a h60b hza hzb
  go_enter Try.func12, Try.ntmps12
  go_wp2_with fail
  refine Ha.out.mono ?_
  rintro e w2 ⟨rfl, hb2⟩
  have k0 := g0.after hb2
  have k1 := g1.after hb2
  have k2 := g2.after hb2
  have c1' : w2.cell? ⟨w.heap.size + 1, 0, none⟩ = some (.slice A2 n2 c2) := k1.cell 0
  have hbw := chain hb2 hb0
  clear hb2 hb0 cz0 g0 g1 g2 Ha
  go_wp2_with fail
  refine (Hbk.out w2 hbw).mono ?_
  rintro e w3 ⟨rfl, hb3⟩
  have m0 := k0.after hb3
  have m1 := k1.after hb3
  have m2 := k2.after hb3
  have e0 : w3.cell? ⟨w.heap.size, 0, none⟩ = some (.slice A1 n1 c1) := m0.cell 0
  have e1 : w3.cell? ⟨w.heap.size + 1, 0, none⟩ = some (.slice A2 n2 c2) := m1.cell 0
  have hbw3 := chain hb3 hbw
  clear hb3 hbw k0 k1 k2 c1' Hbk
  go_wp2_with fail
  have hba : Below w.heap.size w (w3.alloc (Obj.cells #[.slice A1 n1 c1, .slice A2 n2 c2] 22)) := hbw3.alloc hbw3.size _
  have hsa : (w3.alloc (Obj.cells #[.slice A1 n1 c1, .slice A2 n2 c2] 22)).heap.size = w3.heap.size + 1 := by simp
  have gB := Blk.new w3 22 #[.slice A1 n1 c1, .slice A2 n2 c2]
  have hco := concatS_ok w3.heap.size 2 A1 A2 n1 n2 c1 c2 B l1 l2 Hl1.out Hl2.out (by omega) (by omega) _ (r1.below (hba.mono hB)) (r2.below (hba.mono hB)) (gB.cell 0) (gB.cell 1) (by rw [hsa]; omega) (Nat.le_trans hB hba.size)
  refine hco.mono ?_
  rintro e w5 ⟨A5, c5, rfl, hown5, hb5⟩
  have m25 := (m2.alloc (Obj.cells #[.slice A1 n1 c1, .slice A2 n2 c2] 22)).after hb5
  have hbw5 := chain hb5 hba
  have r5 := Reads.of_own hown5
  have hl5 : (l1 ++ l2).length = n1 + n2 := by rw [List.length_append, Hl1.out, Hl2.out]
  have o5 : OwnS w5 (· < w.heap.size) A5 (n1 + n2) c5 (l1 ++ l2) := (OwnS.of_own hown5 hl5).weak (fun k hk => by have := (hown5.lt k hk).1; show ¬ k < w.heap.size; have := hba.size; omega)
  have hcap5 : n1 + n2 ≤ c5 := by
    rcases hown5.2 with ⟨h1, h0⟩ | ⟨g, cap, cur, h1, _, _, h2, _⟩
    · omega
    · injection h1 with _ _ h3
      omega
  have hz5 : ∀ p ∈ l1 ++ l2, p.size ≤ 140737488355328 := fun p hp => by
    rcases List.mem_append.1 hp with h | h
    · have := Hza.out p h; omega
    · have := Hzb.out p h; omega
  have hap : ∀ b o, A5 = some ⟨b, o, none⟩ → b ≠ w.heap.size + 1 + 1 := fun b o hA => by
    have h1 := (hown5.lt b (by rw [hA]; rfl)).1
    have h2 := m2.lt
    omega
  clear hco hown5 hb5 m0 m1 m2 e0 e1 hbw3 hba hsa gB r1 r2
  have h63 : (n1 : Int) + (n2 : Int) ≤ 120 := by omega
  have g7 := Blk.new w5 24 #[.slice A5 (n1 + n2) c5]
  have hb7 : Below w5.heap.size w5 (w5.alloc (Obj.cells #[.slice A5 (n1 + n2) c5] 24)) := (Below.refl _ _).alloc (Nat.le_refl _) _
  have hck := rcheck_any A5 (n1 + n2) c5 w5.heap.size (l1 ++ l2) hl5 (by omega) hz5 _ (r5.below hb7) hb7.size
  have Hck := Lib.hid hck
  have Hl5 := Lib.hid hl5
  have cz7 : (w5.alloc (Obj.cells #[.slice A5 (n1 + n2) c5] 24)).cell? ⟨w5.heap.size, 0, none⟩ = some (.slice A5 (n1 + n2) c5) := g7.cell 0
  have m27 := m25.alloc (Obj.cells #[.slice A5 (n1 + n2) c5] 24)
  have r7 := r5.below hb7
  clear hck hl5 hz5 m25 r5
  generalize hX : n1 + n2 = N at *
  by_cases hc : checkR (l1 ++ l2) = 0
  · rw [hc] at Hck
    obtain rfl : E = 0 := by rw [HE.out, if_pos hc]
    have HL2 : Hid (L = l1 ++ l2) := Lib.hid (by rw [HL.out]; rfl)
    clear hc HE HL
    go_wp2_with fail
    refine Hck.out.mono ?_
    rintro e w8 ⟨rfl, hb8⟩
    have m8 := m27.after hb8
    have g8 := g7.after hb8
    have o8 := (o5.after hb7).after hb8
    have m8' := m8
    have c8 : w8.cell? ⟨w5.heap.size, 0, none⟩ = some (.slice A5 N c5) := g8.cell 0
    have d8 : w8.cell? ⟨w.heap.size + 1 + 1, 0, none⟩ = some (.slice none 0 0) := m8.cell 0
    have f8 : w8.frozen? ⟨w.heap.size + 1 + 1, 0, none⟩ = false := m8.frozen 0
    have r8 := r7.below (hb8.mono hb7.size)
    have hbw8 := chain hb8 (chain hb7 hbw5)
    have hb8s := hb8.size
    have hb7s := hb7.size
    clear g7 cz7 m27 r7 Hck hb7 hb8 g8
    go_wp2
    have x2 : (w8.setCell ⟨w.heap.size + 1 + 1, 0, none⟩ (.slice A5 N c5)).cell? ⟨w.heap.size + 1 + 1, 0, none⟩ = some (.slice A5 N c5) := (m8.set_ 0 (.slice A5 N c5)).cell 0
    refine bodyPost_ret (by simp [results, Try.results12, go_sem, x2]; try rfl) rfl ?_
    refine ⟨A5, N, c5, rfl, ?_, hbw8.setCell (p := ⟨w.heap.size + 1 + 1, 0, none⟩) (by show w.heap.size ≤ w.heap.size + 1 + 1; omega) _⟩
    rw [HL2.out]
    exact o8.far (o8.ne_blk m8' (by decide)) 0 _
  · have q1 : (checkR (l1 ++ l2) != 0) = true := by simpa using hc
    obtain rfl : E = 11 := by rw [HE.out, if_neg hc]
    obtain rfl : L = [] := by rw [HL.out]; rfl
    generalize checkR (l1 ++ l2) = E at *
    clear hc HE HL
    go_wp2_with fail
    refine Hck.out.mono ?_
    rintro e w8 ⟨rfl, hb8⟩
    have m8 := m27.after hb8
    have d8 : w8.cell? ⟨w.heap.size + 1 + 1, 0, none⟩ = some (.slice none 0 0) := m8.cell 0
    have f8 : w8.frozen? ⟨w.heap.size + 1 + 1, 0, none⟩ = false := m8.frozen 0
    have hbw8 := chain hb8 (chain hb7 hbw5)
    clear g7 cz7 m27 r7 Hck hb7 hb8
    go_wp2
    have x2 : (w8.setCell ⟨w.heap.size + 1 + 1, 0, none⟩ (.slice none 0 0)).cell? ⟨w.heap.size + 1 + 1, 0, none⟩ = some (.slice none 0 0) := (m8.set_ 0 (.slice none 0 0)).cell 0
    refine bodyPost_ret (by simp [results, Try.results12, go_sem, x2]; try rfl) rfl ?_
    exact ⟨none, 0, 0, rfl, OwnS.nil _ _, hbw8.setCell (p := ⟨w.heap.size + 1 + 1, 0, none⟩) (by show w.heap.size ≤ w.heap.size + 1 + 1; omega) _⟩
theorem join_ropes (A1 A2 : Option Addr) (n1 c1 n2 c2 B : Nat) (l1 l2 : List ByteArray) (hl1 : l1.length = n1) (hl2 : l2.length = n2) (hn1 : n1 ≤ 1000000000000000) (hn2 : n2 ≤ 1000000000000000) (hz1 : ∀ p ∈ l1, p.size ≤ 140737488355328) (hz2 : ∀ p ∈ l2, p.size ≤ 140737488355328)
    (w : World) (r1 : Reads w B A1 n1 1 (l1.flatMap cStr)) (r2 : Reads w B A2 n2 1 (l2.flatMap cStr)) (hB : B ≤ w.heap.size) :
    Calls Try.prog 12 #[ropeV A1 n1 c1, ropeV A2 n2 c2] w fun e w' => ToldRope w e w' (if joinE l1 l2 = 0 then l1 ++ l2 else []) (joinE l1 l2) :=
  (join_own A1 A2 n1 c1 n2 c2 B l1 l2 hl1 hl2 hn1 hn2 hz1 hz2 w r1 r2 hB).mono fun _ _ h => h.weak
end Go.Proofs.Ytkeeggklgdinhaa
