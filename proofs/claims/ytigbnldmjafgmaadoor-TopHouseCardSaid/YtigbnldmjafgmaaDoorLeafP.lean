/- Plain: what a leaf's log tells: texts, and edits of the text before. -/
import Derived.Test.YtigbnldmjafgmaaDoorScriptP
import Derived.Test.YtigbnldmjafgmaaDoorLogP
namespace Go.Proofs.YtigbnldmjafgmaaDoor
set_option linter.unusedVariables false

theorem item_len53 {x : Ed} (h : OkXs x) : (itemL x).length ≤ 53 := by
  obtain ⟨h1, h2, h3⟩ := h
  have e1 := dec_len (n := x.1.toNat) (by omega)
  have e2 := dec_len (n := x.2.1.toNat) (by omega)
  have e3 := dec_len (n := x.2.2.size) (by omega)
  have e4 : x.2.2.data.toList.length = x.2.2.size := rfl
  simp only [itemL, List.length_append, List.length_cons, List.length_nil]
  omega
theorem write_len53 : ∀ {l : List Ed}, OkLs l → (writeL l).length ≤ 53 * l.length
  | [], _ => by simp [writeL]
  | x :: l, h => by
    have h1 := item_len53 (h x (by simp))
    have h2 := write_len53 (l := l) fun z hz => h z (by simp [hz])
    rw [writeL, List.length_append, List.length_cons]; omega
theorem oke_okls {n : Int} (hn : n ≤ 200) : ∀ (l : List Ed) (f : Bool) (e : Int), OkE n f e l → OkLs l
  | [], _, _, _ => fun x hx => by cases hx
  | y :: l, f, e, h => fun x hx => by
    obtain ⟨h1, h2, h3, h4, h5, h6, h7⟩ := h
    rcases List.mem_cons.1 hx with rfl | hx
    · exact ⟨by omega, by omega, h4⟩
    · exact oke_okls hn l _ _ h7 x hx
/-- Edits that fit a text may be written. -/
theorem check_wr {n : Nat} {l : List Ed} (h : checkE n l = 0) : l.length ≤ 20 ∧ OkLs l := by
  obtain ⟨h0, h1, h2, h3, h4⟩ := checkE_ok h
  exact ⟨h2, oke_okls h1 l _ _ h3⟩

/-- One record, and the text behind it. -/
inductive LStep (p : ByteArray) : List UInt8 → ByteArray → Prop
  | base (t : ByteArray) (h : t.size ≤ 200) : LStep p (98 :: t.data.toList) t
  | edit (l : List Ed) (h : checkE p.size l = 0) (t : ByteArray) (ht : t.data.toList = app p.data.toList 0 l) (hs : t.size ≤ 200) : LStep p (101 :: writeL l) t
abbrev LH := List (List UInt8 × ByteArray)
def Hist : ByteArray → LH → Prop
  | _, [] => True
  | p, x :: H => LStep p x.1 x.2 ∧ Hist x.2 H
def endT : ByteArray → LH → ByteArray
  | p, [] => p
  | _, x :: H => endT x.2 H
def recs (H : LH) : List (List UInt8) := H.map (·.1)
theorem recs_len (H : LH) : (recs H).length = H.length := by simp [recs]
theorem recs_take (H : LH) (k : Nat) : recs (H.take k) = (recs H).take k := by simp [recs]
theorem recs_app (H K : LH) : recs (H ++ K) = recs H ++ recs K := by simp [recs]
theorem endT_app : ∀ (H K : LH) (p : ByteArray), endT p (H ++ K) = endT (endT p H) K
  | [], K, p => rfl
  | x :: H, K, p => endT_app H K x.2
theorem hist_app : ∀ (H K : LH) (p : ByteArray), Hist p (H ++ K) ↔ Hist p H ∧ Hist (endT p H) K
  | [], K, p => by simp [Hist, endT]
  | x :: H, K, p => by
    show LStep p x.1 x.2 ∧ Hist x.2 (H ++ K) ↔ (LStep p x.1 x.2 ∧ Hist x.2 H) ∧ Hist (endT x.2 H) K
    rw [hist_app H K x.2, and_assoc]
theorem hist_snoc {p : ByteArray} {H : LH} {r : List UInt8} {t : ByteArray} (h : Hist p H) (hs : LStep (endT p H) r t) : Hist p (H ++ [(r, t)]) := (hist_app H _ p).2 ⟨h, hs, trivial⟩
theorem endT_snoc (p : ByteArray) (H : LH) (r : List UInt8) (t : ByteArray) : endT p (H ++ [(r, t)]) = t := by rw [endT_app]; rfl
theorem hist_take {p : ByteArray} {H : LH} (h : Hist p H) (k : Nat) : Hist p (H.take k) := by
  have := (hist_app (H.take k) (H.drop k) p).1 (by rw [List.take_append_drop]; exact h)
  exact this.1
theorem LStep.size {p t : ByteArray} {r : List UInt8} (h : LStep p r t) : t.size ≤ 200 := by cases h <;> assumption
theorem LStep.len {p t : ByteArray} {r : List UInt8} (h : LStep p r t) : r.length ≤ 1100 := by
  cases h with
  | base t h => rw [List.length_cons]; show t.data.toList.length + 1 ≤ 1100; have : t.data.toList.length = t.size := rfl; omega
  | edit l h t ht hs =>
    obtain ⟨h1, h2⟩ := check_wr h
    have := write_len53 h2
    rw [List.length_cons]; omega
theorem LStep.pos {p t : ByteArray} {r : List UInt8} (h : LStep p r t) : 0 < r.length := by cases h <;> simp
theorem hist_len : ∀ {H : LH} {p : ByteArray}, Hist p H → ∀ r ∈ recs H, r.length ≤ 1100
  | [], p, _, r, hr => by simp [recs] at hr
  | x :: H, p, h, r, hr => by
    rcases List.mem_cons.1 hr with rfl | hr
    · exact h.1.len
    · exact hist_len h.2 r hr
theorem endT_size : ∀ {H : LH} {p : ByteArray}, Hist p H → p.size ≤ 200 → (endT p H).size ≤ 200
  | [], p, _, hp => hp
  | x :: H, p, h, _ => by
    show (endT x.2 H).size ≤ 200
    exact endT_size h.2 h.1.size
/-- The k-th record is a step from the text before it. -/
theorem hist_at {p : ByteArray} {H : LH} (h : Hist p H) {k : Nat} (hk : k < H.length) : LStep (endT p (H.take k)) H[k].1 H[k].2 := by
  have e : H = H.take k ++ H[k] :: H.drop (k + 1) := by rw [← List.drop_eq_getElem_cons hk, List.take_append_drop]
  have h2 := h
  rw [e] at h2
  exact ((hist_app _ _ p).1 h2).2.1
theorem endT_succ (p : ByteArray) (H : LH) {k : Nat} (hk : k < H.length) : endT p (H.take (k + 1)) = H[k].2 := by
  rw [List.take_succ_eq_append_getElem hk]
  exact endT_snoc p _ _ _
/-- Texts from place j on. -/
theorem frames_lt (L : List (List UInt8)) (i j : Nat) (h : i < j) (hj : j ≤ L.length) : (framesL (L.take i)).length + 6 ≤ (framesL (L.take j)).length := by
  have e : L.take (i + 1) = L.take i ++ [L[i]'(by omega)] := by rw [List.take_succ_eq_append_getElem (by omega)]
  have h1 : (framesL (L.take (i + 1))).length = (framesL (L.take i)).length + (L[i]'(by omega)).length + 6 := by rw [e, frames_snoc, List.length_append, frame_len]; omega
  have h2 := frames_take_le (L.take j) (i + 1)
  rw [List.take_take, Nat.min_eq_left (by omega)] at h2
  omega
end Go.Proofs.YtigbnldmjafgmaaDoor
