/- Plain: bytes by how long ago they came (move to front). -/
import Derived.Test.YtccbfhaoepomnaaPlain
namespace Go.Proofs.Ytccbfhaoepomnaa
set_option linter.unusedVariables false

/-- The byte at place k is taken to the front. -/
def takeF (σ : List UInt8) (k : Nat) : List UInt8 := σ.getD k 0 :: (σ.take k ++ σ.drop (k + 1))
/-- All bytes, each once. -/
def Shelf (σ : List UInt8) : Prop := σ.length = 256 ∧ σ.Nodup ∧ ∀ c, c ∈ σ
def shelf0 : List UInt8 := (List.range 256).map UInt8.ofNat

theorem split_at (σ : List UInt8) (k : Nat) (h : k < σ.length) : σ = σ.take k ++ σ.getD k 0 :: σ.drop (k + 1) := by
  rw [← drop_getD σ k 0 h, List.take_append_drop]
theorem takeF_perm (σ : List UInt8) (k : Nat) (h : k < σ.length) : (takeF σ k).Perm σ := by
  conv => rhs; rw [split_at σ k h]
  exact List.perm_middle.symm
theorem Shelf.take {σ : List UInt8} (h : Shelf σ) {k : Nat} (hk : k < 256) : Shelf (takeF σ k) := by
  have hp := takeF_perm σ k (by rw [h.1]; exact hk)
  exact ⟨by rw [hp.length_eq, h.1], hp.nodup_iff.2 h.2.1, fun c => hp.mem_iff.2 (h.2.2 c)⟩
theorem shelf0_ok : Shelf shelf0 := by
  refine ⟨by simp [shelf0], ?_, fun c => ?_⟩
  · unfold shelf0
    rw [List.nodup_iff_pairwise_ne, List.pairwise_map]
    refine List.Pairwise.imp_of_mem ?_ List.nodup_range
    intro a b ha hb hne e
    have h1 := congrArg UInt8.toNat e
    rw [List.mem_range] at ha hb
    rw [UInt8.toNat_ofNat', UInt8.toNat_ofNat'] at h1
    omega
  · unfold shelf0
    refine List.mem_map.2 ⟨c.toNat, List.mem_range.2 c.toNat_lt, by simp⟩

theorem idxOf_lt' {σ : List UInt8} (h : Shelf σ) (c : UInt8) : σ.idxOf c < 256 := by rw [← h.1]; exact List.idxOf_lt_length_of_mem (h.2.2 c)
theorem getD_idxOf {σ : List UInt8} (h : Shelf σ) (c : UInt8) : σ.getD (σ.idxOf c) 0 = c := by
  rw [getD_some _ _ _ (List.idxOf_lt_length_of_mem (h.2.2 c))]
  exact List.getElem_idxOf _
theorem idxOf_getD {σ : List UInt8} (h : Shelf σ) (k : Nat) (hk : k < 256) : σ.idxOf (σ.getD k 0) = k := by
  have hk' : k < σ.length := by rw [h.1]; exact hk
  rw [getD_some _ _ _ hk']
  exact h.2.1.idxOf_getElem k hk'

/-- The shelf behind a text. -/
def shelfOf (σ : List UInt8) : List UInt8 → List UInt8
  | [] => σ
  | c :: s => shelfOf (takeF σ (σ.idxOf c)) s
def encF (σ : List UInt8) : List UInt8 → List Int
  | [] => []
  | c :: s => ((σ.idxOf c : Nat) : Int) :: encF (takeF σ (σ.idxOf c)) s
def decF (σ : List UInt8) : List Int → List UInt8
  | [] => []
  | k :: l => σ.getD k.toNat 0 :: decF (takeF σ k.toNat) l
def shelfBy (σ : List UInt8) : List Int → List UInt8
  | [] => σ
  | k :: l => shelfBy (takeF σ k.toNat) l
theorem shelfOf_ok {σ : List UInt8} (h : Shelf σ) : ∀ s, Shelf (shelfOf σ s)
  | [] => h
  | c :: s => shelfOf_ok (h.take (idxOf_lt' h c)) s
theorem shelfOf_snoc (σ : List UInt8) (c : UInt8) : ∀ s, shelfOf σ (s ++ [c]) = takeF (shelfOf σ s) ((shelfOf σ s).idxOf c)
  | [] => rfl
  | d :: s => by rw [List.cons_append, shelfOf, shelfOf, shelfOf_snoc]
theorem encF_snoc (σ : List UInt8) (c : UInt8) : ∀ s, encF σ (s ++ [c]) = encF σ s ++ [(((shelfOf σ s).idxOf c : Nat) : Int)]
  | [] => rfl
  | d :: s => by rw [List.cons_append, encF, encF, shelfOf, encF_snoc, List.cons_append]
theorem shelfBy_snoc (σ : List UInt8) (k : Int) : ∀ l, shelfBy σ (l ++ [k]) = takeF (shelfBy σ l) k.toNat
  | [] => rfl
  | d :: s => by rw [List.cons_append, shelfBy, shelfBy, shelfBy_snoc]
theorem decF_snoc (σ : List UInt8) (k : Int) : ∀ l, decF σ (l ++ [k]) = decF σ l ++ [(shelfBy σ l).getD k.toNat 0]
  | [] => rfl
  | d :: s => by rw [List.cons_append, decF, decF, shelfBy, decF_snoc, List.cons_append]
theorem encF_length (σ : List UInt8) : ∀ s, (encF σ s).length = s.length
  | [] => rfl
  | c :: s => by rw [encF, List.length_cons, List.length_cons, encF_length]
theorem decF_length (σ : List UInt8) : ∀ s, (decF σ s).length = s.length
  | [] => rfl
  | c :: s => by rw [decF, List.length_cons, List.length_cons, decF_length]
theorem encF_bd {σ : List UInt8} (h : Shelf σ) : ∀ s, ∀ k ∈ encF σ s, 0 ≤ k ∧ k ≤ 255
  | c :: s, k, hk => by
    rw [encF, List.mem_cons] at hk
    rcases hk with rfl | hk
    · have := idxOf_lt' h c; omega
    · exact encF_bd (h.take (idxOf_lt' h c)) s k hk
theorem shelfBy_ok {σ : List UInt8} (h : Shelf σ) : ∀ l : List Int, (∀ k ∈ l, 0 ≤ k ∧ k ≤ 255) → Shelf (shelfBy σ l)
  | [], _ => h
  | k :: l, hl => shelfBy_ok (h.take (by have := hl k (by simp); omega)) l fun x hx => hl x (by simp [hx])
theorem dec_enc {σ : List UInt8} (h : Shelf σ) : ∀ s, decF σ (encF σ s) = s
  | [] => rfl
  | c :: s => by rw [encF, decF, Int.toNat_natCast, getD_idxOf h, dec_enc (h.take (idxOf_lt' h c))]
theorem enc_dec {σ : List UInt8} (h : Shelf σ) : ∀ l : List Int, (∀ k ∈ l, 0 ≤ k ∧ k ≤ 255) → encF σ (decF σ l) = l
  | [], _ => rfl
  | k :: l, hl => by
    have hk := hl k (by simp)
    rw [decF, encF, idxOf_getD h _ (by omega), enc_dec (h.take (by omega)) l fun x hx => hl x (by simp [hx]), Int.toNat_of_nonneg hk.1]

/-- The shelf's first byte is the one that came last. -/
theorem shelf_first (σ : List UInt8) (s : List UInt8) (hσ : Shelf σ) (h : 0 < s.length) : (shelfOf σ s).getD 0 0 = s.getD (s.length - 1) 0 := by
  obtain ⟨t, c, rfl⟩ : ∃ t c, s = t ++ [c] := by
    rcases List.eq_nil_or_concat s with rfl | ⟨t, c, rfl⟩
    · simp at h
    · exact ⟨t, c, by simp⟩
  rw [shelfOf_snoc, List.length_append, List.length_singleton, Nat.add_sub_cancel, getD_app_right _ _ _ _ (Nat.le_refl _), Nat.sub_self]
  show (shelfOf σ t).getD _ 0 = c
  exact getD_idxOf (shelfOf_ok hσ t) c
theorem idx_zero {σ : List UInt8} (h : Shelf σ) (c : UInt8) : σ.idxOf c = 0 ↔ c = σ.getD 0 0 := by
  constructor
  · intro e
    have := getD_idxOf h c
    rw [e] at this; exact this.symm
  · intro e
    have := idxOf_getD h 0 (by omega)
    rw [← e] at this; exact this
/-- The number at a place. -/
theorem encF_at (σ : List UInt8) (s : List UInt8) (i : Nat) (h : i < s.length) : (encF σ s).getD i 0 = (((shelfOf σ (s.take i)).idxOf (s.getD i 0) : Nat) : Int) := by
  have h1 : encF σ s = encF σ (s.take i ++ [s.getD i 0] ++ s.drop (i + 1)) := by
    rw [List.append_assoc, List.singleton_append, ← split_at s i h]
  have h2 : ∀ (a b : List UInt8) (τ : List UInt8), encF τ (a ++ b) = encF τ a ++ encF (shelfOf τ a) b := by
    intro a
    induction a with
    | nil => intro b τ; rfl
    | cons x a ih => intro b τ; rw [List.cons_append, encF, encF, shelfOf, ih, List.cons_append]
  rw [h1, h2, encF_snoc, getD_app_left _ _ _ _ (by rw [List.length_append, encF_length, List.length_take]; simp; omega), getD_app_right _ _ _ _ (by rw [encF_length, List.length_take]; omega),
    encF_length, List.length_take, show i - min i s.length = 0 from by omega]
  rfl
/-- FrontBack's second part. -/
theorem enc_zero (s : List UInt8) (i : Nat) (h0 : 0 < i) (h : i < s.length) : ((encF shelf0 s).getD i 0 = 0) ↔ (s.getD i 0 = s.getD (i - 1) 0) := by
  rw [encF_at _ _ _ h]
  have hs := shelfOf_ok shelf0_ok (s.take i)
  have h1 := idx_zero hs (s.getD i 0)
  rw [shelf_first _ _ shelf0_ok (by rw [List.length_take]; omega), List.length_take, Nat.min_eq_left (by omega), getD_take _ _ _ _ (by omega)] at h1
  rw [← h1]
  omega

end Go.Proofs.Ytccbfhaoepomnaa
