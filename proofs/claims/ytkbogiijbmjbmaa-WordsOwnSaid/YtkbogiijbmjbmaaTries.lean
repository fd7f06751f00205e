/- Hits told are one list; the walk of the laws' helper tries. -/
import Derived.Test.YtkbogiijbmjbmaaTrieFind
import Derived.Test.YtkbogiijbmjbmaaEqual
namespace Go.Proofs.Ytkbogiijbmjbmaa
open Go.RowKit Go.Sort
set_option linter.unusedVariables false

theorem IsHits.nodup {s : List UInt8} {P : List (List UInt8)} {H : List (Nat × Nat)} (h : IsHits s P H) : H.Nodup := by
  refine List.nodup_iff_pairwise_ne.2 (h.sorted.imp ?_)
  intro a b k e
  rw [e] at k
  exact ltH_irrefl b k
theorem IsHits.unique {s : List UInt8} {P : List (List UInt8)} {H H' : List (Nat × Nat)} (h : IsHits s P H) (h' : IsHits s P H') : H = H' := by
  have hp : H.Perm H' := (List.perm_ext_iff_of_nodup h.nodup h'.nodup).2 fun ⟨a, k⟩ => by rw [h.mem, h'.mem]
  exact sorted_eq (R := ltH) (fun a b h1 h2 => absurd (ltH_trans h1 h2) (ltH_irrefl a)) hp h.sorted h'.sorted
def hI (x : Nat × Nat) : Int × Int := ((x.1 : Int), (x.2 : Int))
theorem cHt_cHit (H : List (Nat × Nat)) : H.flatMap cHt = (H.map hI).flatMap cHit := by rw [List.flatMap_map]; rfl
def ushP : List (List UInt8) := [[104, 101], [115, 104, 101], [104, 101, 114, 115]]
def ushS : List UInt8 := [117, 115, 104, 101, 114, 115]
theorem ush_hits : IsHits ushS ushP [(1, 1), (2, 0), (2, 2)] := by
  refine ⟨by unfold ltH; decide, fun a k => ?_⟩
  have key : ∀ a, a < 6 → ∀ k, k < 3 → ((a, k) ∈ [(1, 1), (2, 0), (2, 2)] ↔ (ushP.getD k []) <+: ushS.drop a) := by decide
  constructor
  · intro h
    have hk : k < 3 ∧ a < 6 := by
      simp only [List.mem_cons, List.not_mem_nil, or_false, Prod.mk.injEq] at h
      omega
    exact ⟨hk.1, (key a hk.2 k hk.1).1 h⟩
  · rintro ⟨hk, hp⟩
    have hk : k < 3 := hk
    rcases Nat.lt_or_ge a 6 with ha | ha
    · exact (key a ha k hk).2 hp
    · exfalso
      have hl := hp.length_le
      rw [List.length_drop] at hl
      have h6 : ushS.length = 6 := rfl
      have h0 : ∀ k, k < 3 → 0 < (ushP.getD k []).length := by decide
      have := h0 k hk
      omega
theorem fresh_strsT (l : List ByteArray) (w : World) : Reads (w.alloc (Obj.cells (l.map Value.string).toArray 9)) (w.heap.size + 1) (some ⟨w.heap.size, 0, none⟩) l.length 1 (l.flatMap cStr) := by
  have h := Reads.of_fresh w (l.map Value.string).toArray 9 l.length 1 (by simp)
  have e : ∀ l : List ByteArray, (l.map Value.string).toArray.toList = l.flatMap cStr := fun l => by
    rw [List.toList_toArray]
    induction l with
    | nil => rfl
    | cons x l ih => rw [List.map_cons, List.flatMap_cons, ← ih]; rfl
  rwa [e] at h
theorem fresh_hits (l : List (Int × Int)) (w : World) : Reads (w.alloc (Obj.cells (l.flatMap cHit).toArray 35)) (w.heap.size + 1) (some ⟨w.heap.size, 0, none⟩) l.length 2 (l.flatMap cHit) := by
  have h := Reads.of_fresh w (l.flatMap cHit).toArray 35 l.length 2 (by rw [List.size_toArray, flat_length cHit 2 cHit_len])
  rwa [List.toList_toArray] at h

set_option maxRecDepth 100000 in
set_option maxHeartbeats 2000000 in
theorem tries_any (w : World) : Calls Try.prog 7 #[] w fun e w' => e = .returned (.bool true) ∧ Below w.heap.size w w' := by
  have hb0 : Below w.heap.size w (w.alloc (Obj.cells #[.string ⟨#[104, 101]⟩, .string ⟨#[115, 104, 101]⟩, .string ⟨#[104, 101, 114, 115]⟩] 9)) := (Below.refl _ _).alloc (Nat.le_refl _) _
  have H1 := Lib.hid (tfind_any ⟨#[117, 115, 104, 101, 114, 115]⟩ (some ⟨w.heap.size, 0, none⟩) 3 3 (w.heap.size + 1) [⟨#[104, 101]⟩, ⟨#[115, 104, 101]⟩, ⟨#[104, 101, 114, 115]⟩] (w.alloc (Obj.cells #[.string ⟨#[104, 101]⟩, .string ⟨#[115, 104, 101]⟩, .string ⟨#[104, 101, 114, 115]⟩] 9)) (by decide) (by decide) rfl (by decide)
    (fresh_strsT [⟨#[104, 101]⟩, ⟨#[115, 104, 101]⟩, ⟨#[104, 101, 114, 115]⟩] w) (by simp))
  have hE : findE ⟨#[117, 115, 104, 101, 114, 115]⟩ [⟨#[104, 101]⟩, ⟨#[115, 104, 101]⟩, ⟨#[104, 101, 114, 115]⟩] = 0 := by decide
  go_enter Try.func7, Try.ntmps7
  go_wp2_with fail
  refine H1.out.mono ?_
  rintro e w1 ⟨A, n, c, H, rfl, hHl, hown, hhits, -, hb1⟩
  rw [hE]
  have hH := (hhits hE).unique ush_hits
  subst hH
  have hn : n = 3 := hHl.symm
  subst hn
  have hr := hown.toReads
  rw [cHt_cHit] at hr
  have hb1 := chain hb1 hb0
  have HE := Lib.hid (equalHit_any A (some ⟨w1.heap.size, 0, none⟩) 3 3 c 3 _ _ [(1, 1), (2, 0), (2, 2)] [(1, 1), (2, 0), (2, 2)] (w1.alloc (Obj.cells #[.int .i64 1, .int .i64 1, .int .i64 2, .int .i64 0, .int .i64 2, .int .i64 2] 35)) (by decide) (by decide) rfl rfl (hr.alloc (Nat.le_refl _) _) (fresh_hits [(1, 1), (2, 0), (2, 2)] w1))
  have hb2 := hb1.alloc hb1.size (Obj.cells #[.int .i64 1, .int .i64 1, .int .i64 2, .int .i64 0, .int .i64 2, .int .i64 2] 35)
  clear hhits hown hr H1 hE hHl hb1 hb0
  go_wp2_with fail
  refine HE.out.mono ?_
  rintro e w3 ⟨rfl, hb3⟩
  have hb4 := hb2.trans (hb3.mono hb2.size)
  go_wp2
  go_ret
  exact ⟨by simp, hb4⟩
end Go.Proofs.Ytkbogiijbmjbmaa
