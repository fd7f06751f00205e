/- Plain: edits as a text, written and read. -/
import Derived.Test.YtigbnldmjafgmaaDoorEdit
import Derived.Lib.ItoaNum
namespace Go.Proofs.YtigbnldmjafgmaaDoor
set_option linter.unusedVariables false

def IsDig (c : UInt8) : Prop := 48 ≤ c.toNat ∧ c.toNat ≤ 57
def valD (l : List UInt8) : Nat := l.foldl (fun a c => 10 * a + (c.toNat - 48)) 0
theorem valD_snoc (l : List UInt8) (c : UInt8) : valD (l ++ [c]) = 10 * valD l + (c.toNat - 48) := by simp [valD]
theorem valD_le : ∀ (b a : List UInt8), valD a ≤ valD (a ++ b)
  | [], a => by simp
  | c :: b, a => by
    have h1 := valD_le b (a ++ [c])
    rw [valD_snoc, List.append_assoc] at h1
    have : a ++ ([c] ++ b) = a ++ c :: b := rfl
    rw [this] at h1; omega
/-- Digits, and no 0 ahead of others. -/
structure Canon (l : List UInt8) : Prop where
  ne : l ≠ []
  dig : ∀ c ∈ l, IsDig c
  lead : l.getD 0 0 ≠ 48 ∨ l.length = 1
theorem dec_small {n : Nat} (h : n < 10) : Lib.decDigits n = [UInt8.ofNat (48 + n)] := by rw [Lib.decDigits, dif_pos h]
theorem dec_big {n : Nat} (h : ¬ n < 10) : Lib.decDigits n = Lib.decDigits (n / 10) ++ [UInt8.ofNat (48 + n % 10)] := by rw [Lib.decDigits, dif_neg h]
theorem u8_48 (d : Nat) (h : d < 10) : (UInt8.ofNat (48 + d)).toNat = 48 + d := by rw [UInt8.toNat_ofNat']; omega
theorem dec_ok : ∀ (n : Nat), Canon (Lib.decDigits n) ∧ valD (Lib.decDigits n) = n ∧ (1 ≤ n → (Lib.decDigits n).getD 0 0 ≠ 48)
  | n => by
    by_cases h : n < 10
    · rw [dec_small h]
      have := u8_48 n h
      refine ⟨⟨by simp, fun c hc => by rw [List.mem_singleton.1 hc]; unfold IsDig; omega, .inr rfl⟩, by show 10 * 0 + ((UInt8.ofNat (48 + n)).toNat - 48) = n; rw [this]; omega, fun h1 e => ?_⟩
      have e : UInt8.ofNat (48 + n) = 48 := e
      have := congrArg UInt8.toNat e
      rw [u8_48 n h, show (48 : UInt8).toNat = 48 from rfl] at this
      omega
    · obtain ⟨h1, h2, h3⟩ := dec_ok (n / 10)
      rw [dec_big h]
      have h4 := h3 (by omega)
      have hd := u8_48 (n % 10) (by omega)
      have hl : 0 < (Lib.decDigits (n / 10)).length := List.length_pos_iff.2 h1.ne
      have hg : (Lib.decDigits (n / 10) ++ [UInt8.ofNat (48 + n % 10)]).getD 0 0 ≠ 48 := by rw [getD_app_left _ _ _ _ hl]; exact h4
      refine ⟨⟨by simp, fun c hc => ?_, .inl hg⟩, by rw [valD_snoc, h2, hd]; omega, fun _ => hg⟩
      rcases List.mem_append.1 hc with hc | hc
      · exact h1.dig c hc
      · rw [List.mem_singleton.1 hc]; unfold IsDig; omega
termination_by n => n
decreasing_by omega
theorem canon_pos {l : List UInt8} (hl : l ≠ []) (hd : ∀ c ∈ l, IsDig c) (h0 : l.getD 0 0 ≠ 48) : 1 ≤ valD l := by
  match l, hl with
  | c :: l, _ =>
    have h1 := hd c (by simp)
    have h2 : c.toNat ≠ 48 := fun e => h0 (by show c = 48; exact UInt8.toNat_inj.1 e)
    have h3 := valD_le l [c]
    have h4 : valD [c] = c.toNat - 48 := by simp [valD]
    unfold IsDig at h1
    have : valD ([c] ++ l) = valD (c :: l) := rfl
    omega
theorem canon_dec : ∀ (n : Nat) (l : List UInt8), l.length = n → Canon l → Lib.decDigits (valD l) = l
  | 0, l, hn, h => absurd (List.eq_nil_of_length_eq_zero hn) h.ne
  | n + 1, l, hn, h => by
    obtain ⟨a, x, rfl⟩ : ∃ a x, l = a ++ [x] := ⟨l.dropLast, l.getLast h.ne, (List.dropLast_concat_getLast _).symm⟩
    have hx := h.dig x (by simp)
    unfold IsDig at hx
    have ex : UInt8.ofNat (48 + (x.toNat - 48)) = x := by rw [show 48 + (x.toNat - 48) = x.toNat from by omega]; simp
    by_cases ha : a = []
    · subst ha
      rw [List.nil_append, show valD [x] = x.toNat - 48 from by simp [valD], dec_small (by omega), ex]
    · have hal : 0 < a.length := List.length_pos_iff.2 ha
      have h0 : a.getD 0 0 ≠ 48 := by
        rcases h.lead with h1 | h1
        · rwa [getD_app_left _ _ _ _ hal] at h1
        · rw [List.length_append, List.length_singleton] at h1; omega
      have hc : Canon a := ⟨ha, fun c hc => h.dig c (by simp [hc]), .inl h0⟩
      have hp := canon_pos ha hc.dig h0
      rw [valD_snoc, dec_big (by omega), show (10 * valD a + (x.toNat - 48)) / 10 = valD a from by omega, show (10 * valD a + (x.toNat - 48)) % 10 = x.toNat - 48 from by omega, ex,
        canon_dec n a (by simpa using hn) hc]

/-- A number ahead of a byte. -/
def NumOk (s : List UInt8) (e : UInt8) (most n : Nat) (r : List UInt8) : Prop := s = Lib.decDigits n ++ e :: r ∧ n ≤ most
theorem split_uniq {e : UInt8} : ∀ {a b r t : List UInt8}, e ∉ a → e ∉ b → a ++ e :: r = b ++ e :: t → a = b ∧ r = t
  | [], [], r, t, _, _, h => ⟨rfl, by simpa using h⟩
  | [], y :: b, r, t, _, hb, h => by
    simp only [List.nil_append, List.cons_append, List.cons.injEq] at h
    exact absurd (by rw [h.1]; simp) hb
  | x :: a, [], r, t, ha, _, h => by
    simp only [List.nil_append, List.cons_append, List.cons.injEq] at h
    exact absurd (by rw [h.1]; simp) ha
  | x :: a, y :: b, r, t, ha, hb, h => by
    simp only [List.cons_append, List.cons.injEq] at h
    obtain ⟨h1, h2⟩ := split_uniq (fun g => ha (by simp [g])) (fun g => hb (by simp [g])) h.2
    exact ⟨by rw [h.1, h1], h2⟩
theorem dec_no {e : UInt8} (he : ¬ IsDig e) (n : Nat) : e ∉ Lib.decDigits n := fun h => he ((dec_ok n).1.dig e h)
theorem NumOk.uniq {s : List UInt8} {e : UInt8} {most n m : Nat} {r t : List UInt8} (he : ¬ IsDig e) (h : NumOk s e most n r) (k : NumOk s e most m t) : n = m ∧ r = t := by
  obtain ⟨h1, h2⟩ := split_uniq (dec_no he n) (dec_no he m) (h.1.symm.trans k.1)
  exact ⟨by rw [← (dec_ok n).2.1, h1, (dec_ok m).2.1], h2⟩
/-- So far all are digits. -/
structure NumS (s : List UInt8) (most k n : Nat) : Prop where
  le : k ≤ s.length
  dig : ∀ j, j < k → IsDig (s.getD j 0)
  val : n = valD (s.take k)
  bd : n ≤ most
theorem nums_start (s : List UInt8) (most : Nat) : NumS s most 0 0 := ⟨Nat.zero_le _, fun j hj => by omega, by simp [valD], Nat.zero_le _⟩
theorem NumS.far {s : List UInt8} {e : UInt8} {most k n m : Nat} {r : List UInt8} (h : NumS s most k n) (he : ¬ IsDig e) (hk : NumOk s e most m r) : k ≤ (Lib.decDigits m).length ∧ s.getD (Lib.decDigits m).length 0 = e ∧ (Lib.decDigits m).length < s.length ∧ (∀ j, j < (Lib.decDigits m).length → IsDig (s.getD j 0)) := by
  have hg : s.getD (Lib.decDigits m).length 0 = e := by rw [hk.1, getD_app_right _ _ _ _ (Nat.le_refl _), Nat.sub_self]; rfl
  have hl : (Lib.decDigits m).length < s.length := by rw [hk.1, List.length_append, List.length_cons]; omega
  refine ⟨?_, hg, hl, fun j hj => ?_⟩
  · rcases Nat.lt_or_ge (Lib.decDigits m).length k with h1 | h1
    · have := h.dig _ h1
      rw [hg] at this
      exact absurd this he
    · exact h1
  · rw [hk.1, getD_app_left _ _ _ _ hj, getD_some _ _ _ hj]
    exact (dec_ok m).1.dig _ (List.getElem_mem _)
theorem NumS.done {s : List UInt8} {e : UInt8} {most k n : Nat} (h : NumS s most k n) (he : ¬ IsDig e) (hk : k < s.length) (hs : s.getD k 0 = e) (h0 : 0 < k ∧ (s.getD 0 0 ≠ 48 ∨ k = 1)) : NumOk s e most n (s.drop (k + 1)) := by
  have hl : (s.take k).length = k := by rw [List.length_take]; omega
  have hc : Canon (s.take k) := by
    refine ⟨fun g => by rw [g] at hl; simp at hl; omega, fun c hc => ?_, ?_⟩
    · obtain ⟨j, hj, rfl⟩ := List.getElem_of_mem hc
      have := h.dig j (by omega)
      rw [← getD_some (s.take k) 0 j hj, getD_take _ _ _ _ (by omega)]
      exact this
    · rw [getD_take _ _ _ _ h0.1, hl]; exact h0.2
  refine ⟨?_, h.bd⟩
  rw [h.val, canon_dec _ _ rfl hc, ← hs, ← drop_getD s k 0 hk, List.take_append_drop]
theorem NumS.bad0 {s : List UInt8} {e : UInt8} {most k n : Nat} (h : NumS s most k n) (he : ¬ IsDig e) (hk : k < s.length) (hs : s.getD k 0 = e) (h0 : ¬ (0 < k ∧ (s.getD 0 0 ≠ 48 ∨ k = 1))) (m : Nat) (r : List UInt8) : ¬ NumOk s e most m r := fun hm => by
  obtain ⟨h1, h2, h3, h4⟩ := h.far he hm
  have hkl : k = (Lib.decDigits m).length := by
    rcases Nat.lt_or_ge k (Lib.decDigits m).length with g | g
    · have := h4 k g
      rw [hs] at this
      exact absurd this he
    · omega
  have hc := (dec_ok m).1
  have hp : 0 < (Lib.decDigits m).length := List.length_pos_iff.2 hc.ne
  refine h0 ⟨by omega, ?_⟩
  rcases hc.lead with g | g
  · refine .inl ?_
    rw [hm.1, getD_app_left _ _ _ _ hp]; exact g
  · exact .inr (by omega)
theorem NumS.bad1 {s : List UInt8} {e : UInt8} {most k n : Nat} (h : NumS s most k n) (he : ¬ IsDig e) (hk : k < s.length) (hs : s.getD k 0 ≠ e) (hd : ¬ IsDig (s.getD k 0)) (m : Nat) (r : List UInt8) : ¬ NumOk s e most m r := fun hm => by
  obtain ⟨h1, h2, h3, h4⟩ := h.far he hm
  rcases Nat.lt_or_ge k (Lib.decDigits m).length with g | g
  · exact hd (h4 k g)
  · rw [show (Lib.decDigits m).length = k from by omega] at h2
    exact hs h2
theorem NumS.step {s : List UInt8} {most k n : Nat} (h : NumS s most k n) (hk : k < s.length) (hd : IsDig (s.getD k 0)) (hb : 10 * n + ((s.getD k 0).toNat - 48) ≤ most) : NumS s most (k + 1) (10 * n + ((s.getD k 0).toNat - 48)) :=
  ⟨hk, fun j hj => by
    by_cases e : j = k
    · rw [e]; exact hd
    · exact h.dig j (by omega), by rw [take_succ_getD s k 0 hk, valD_snoc, ← h.val], hb⟩
theorem NumS.bad2 {s : List UInt8} {e : UInt8} {most k n : Nat} (h : NumS s most k n) (he : ¬ IsDig e) (hk : k < s.length) (hd : IsDig (s.getD k 0)) (hb : most < 10 * n + ((s.getD k 0).toNat - 48)) (m : Nat) (r : List UInt8) : ¬ NumOk s e most m r := fun hm => by
  obtain ⟨h1, h2, h3, h4⟩ := h.far he hm
  have hlt : k < (Lib.decDigits m).length := by
    rcases Nat.lt_or_ge k (Lib.decDigits m).length with g | g
    · exact g
    · rw [show (Lib.decDigits m).length = k from by omega] at h2
      rw [h2] at hd
      exact absurd hd he
  have h5 : s.take (k + 1) = (Lib.decDigits m).take (k + 1) := by rw [hm.1, List.take_append_of_le_length (by omega)]
  have h6 : valD (s.take (k + 1)) ≤ m := by
    rw [h5]
    have := valD_le ((Lib.decDigits m).drop (k + 1)) ((Lib.decDigits m).take (k + 1))
    rwa [List.take_append_drop, (dec_ok m).2.1] at this
  rw [take_succ_getD s k 0 hk, valD_snoc, ← h.val] at h6
  have := hm.2
  omega
theorem NumS.bad3 {s : List UInt8} {e : UInt8} {most n : Nat} (h : NumS s most s.length n) (he : ¬ IsDig e) (m : Nat) (r : List UInt8) : ¬ NumOk s e most m r := fun hm => by
  obtain ⟨h1, h2, h3, h4⟩ := h.far he hm
  omega

/-- An edit as a text. -/
def OkXs (x : Ed) : Prop := (0 ≤ x.1 ∧ x.1 ≤ 200) ∧ (0 ≤ x.2.1 ∧ x.2.1 ≤ 200) ∧ x.2.2.size ≤ 40
def itemL (x : Ed) : List UInt8 := Lib.decDigits x.1.toNat ++ 32 :: (Lib.decDigits x.2.1.toNat ++ 32 :: (Lib.decDigits x.2.2.size ++ 58 :: (x.2.2.data.toList ++ [59])))
def writeL : List Ed → List UInt8
  | [] => []
  | x :: l => itemL x ++ writeL l
theorem writeL_app : ∀ a b : List Ed, writeL (a ++ b) = writeL a ++ writeL b
  | [], b => rfl
  | x :: a, b => by rw [List.cons_append, writeL, writeL, writeL_app a b, List.append_assoc]
theorem n32 : ¬ IsDig 32 := by unfold IsDig; decide
theorem n58 : ¬ IsDig 58 := by unfold IsDig; decide
theorem item_ne (x : Ed) : itemL x ≠ [] := by unfold itemL; simp
/-- It begins with an edit. -/
def Heads (s : List UInt8) (x : Ed) (r : List UInt8) : Prop := s = itemL x ++ r ∧ OkXs x
theorem heads_parts {s : List UInt8} {x : Ed} {r : List UInt8} (h : Heads s x r) : ∃ r1 r2 r3, NumOk s 32 200 x.1.toNat r1 ∧ NumOk r1 32 200 x.2.1.toNat r2 ∧ NumOk r2 58 40 x.2.2.size r3 ∧ r3 = x.2.2.data.toList ++ 59 :: r := by
  obtain ⟨h1, h2, h3, h4⟩ := h
  refine ⟨_, _, _, ⟨?_, by omega⟩, ⟨rfl, by omega⟩, ⟨rfl, h4⟩, rfl⟩
  rw [h1]; simp [itemL]
theorem ba_extS {a b : ByteArray} (h : a.data.toList = b.data.toList) : a = b := by
  obtain ⟨⟨a⟩⟩ := a
  obtain ⟨⟨b⟩⟩ := b
  simp at h
  rw [h]
theorem heads_of {s r1 r2 r3 : List UInt8} {a d n : Nat} (h1 : NumOk s 32 200 a r1) (h2 : NumOk r1 32 200 d r2) (h3 : NumOk r2 58 40 n r3) (hl : n < r3.length) (h4 : r3.getD n 0 = 59) (b : ByteArray) (hb : b.data.toList = r3.take n) :
    Heads s ((a : Int), (d : Int), b) (r3.drop (n + 1)) := by
  have hbs : b.size = n := by show b.data.toList.length = n; rw [hb, List.length_take]; omega
  refine ⟨?_, ⟨by have := h1.2; simp; omega, by have := h2.2; simp; omega, by show b.size ≤ 40; have := h3.2; omega⟩⟩
  have e3 : r3 = r3.take n ++ 59 :: r3.drop (n + 1) := by
    rw [← h4, ← drop_getD r3 n 0 hl, List.take_append_drop]
  rw [h1.1, h2.1, h3.1]
  conv => lhs; rw [e3]
  simp [itemL, hb, hbs]
theorem heads_uniq {s : List UInt8} {x y : Ed} {r t : List UInt8} (h : Heads s x r) (k : Heads s y t) : x = y ∧ r = t := by
  obtain ⟨r1, r2, r3, a1, a2, a3, a4⟩ := heads_parts h
  obtain ⟨t1, t2, t3, b1, b2, b3, b4⟩ := heads_parts k
  obtain ⟨e1, rfl⟩ := a1.uniq n32 b1
  obtain ⟨e2, rfl⟩ := a2.uniq n32 b2
  obtain ⟨e3, rfl⟩ := a3.uniq n58 b3
  have e4 := a4.symm.trans b4
  have := List.append_inj e4 e3
  obtain ⟨x1, x2, x3⟩ := x
  obtain ⟨y1, y2, y3⟩ := y
  obtain ⟨_, hx1, hx2, _⟩ := h
  obtain ⟨_, hy1, hy2, _⟩ := k
  simp only at e1 e2 this hx1 hx2 hy1 hy2
  have i1 : x1 = y1 := by omega
  have i2 : x2 = y2 := by omega
  have i3 : x3 = y3 := ba_extS this.1
  rw [i1, i2, i3]
  exact ⟨rfl, by simpa using this.2⟩
/-- No edit begins there. -/
def NoHead (s : List UInt8) : Prop := ∀ x r, ¬ Heads s x r
theorem nohead1 {s : List UInt8} (h : ∀ n r, ¬ NumOk s 32 200 n r) : NoHead s := fun x r hx => by
  obtain ⟨r1, r2, r3, a1, a2, a3, a4⟩ := heads_parts hx
  exact h _ _ a1
theorem nohead2 {s r1 : List UInt8} {a : Nat} (h1 : NumOk s 32 200 a r1) (h : ∀ n r, ¬ NumOk r1 32 200 n r) : NoHead s := fun x r hx => by
  obtain ⟨t1, t2, t3, a1, a2, a3, a4⟩ := heads_parts hx
  obtain ⟨_, rfl⟩ := h1.uniq n32 a1
  exact h _ _ a2
theorem nohead3 {s r1 r2 : List UInt8} {a d : Nat} (h1 : NumOk s 32 200 a r1) (h2 : NumOk r1 32 200 d r2) (h : ∀ n r, ¬ NumOk r2 58 40 n r) : NoHead s := fun x r hx => by
  obtain ⟨t1, t2, t3, a1, a2, a3, a4⟩ := heads_parts hx
  obtain ⟨_, rfl⟩ := h1.uniq n32 a1
  obtain ⟨_, rfl⟩ := h2.uniq n32 a2
  exact h _ _ a3
theorem nohead4 {s r1 r2 r3 : List UInt8} {a d n : Nat} (h1 : NumOk s 32 200 a r1) (h2 : NumOk r1 32 200 d r2) (h3 : NumOk r2 58 40 n r3) (h : ¬ (n < r3.length ∧ r3.getD n 0 = 59)) : NoHead s := fun x r hx => by
  obtain ⟨t1, t2, t3, a1, a2, a3, a4⟩ := heads_parts hx
  obtain ⟨_, rfl⟩ := h1.uniq n32 a1
  obtain ⟨_, rfl⟩ := h2.uniq n32 a2
  obtain ⟨rfl, rfl⟩ := h3.uniq n58 a3
  refine h ⟨?_, ?_⟩
  · rw [a4, List.length_append, List.length_cons]; show x.2.2.data.toList.length < _; omega
  · rw [a4, show x.2.2.size = x.2.2.data.toList.length from rfl, getD_app_right _ _ _ _ (Nat.le_refl _), Nat.sub_self]; rfl
def OkLs (l : List Ed) : Prop := ∀ x ∈ l, OkXs x
theorem write_cancel : ∀ {a l : List Ed} {s : List UInt8}, OkLs a → OkLs l → writeL l = writeL a ++ s → ∃ m, l = a ++ m ∧ s = writeL m
  | [], l, s, _, _, h => ⟨l, rfl, h.symm⟩
  | x :: a, [], s, _, _, h => by
    have := congrArg List.length h
    have hx := List.length_pos_iff.2 (item_ne x)
    rw [writeL, writeL, List.length_append, List.length_append, List.length_nil] at this
    omega
  | x :: a, y :: l, s, ha, hl, h => by
    rw [writeL, writeL, List.append_assoc] at h
    obtain ⟨e, h2⟩ := heads_uniq (s := itemL y ++ writeL l) ⟨rfl, hl y (by simp)⟩ (show Heads (itemL y ++ writeL l) x (writeL a ++ s) from ⟨h, ha x (by simp)⟩)
    obtain ⟨m, h3, h4⟩ := write_cancel (fun z hz => ha z (by simp [hz])) (fun z hz => hl z (by simp [hz])) h2
    exact ⟨m, by rw [e, h3]; rfl, h4⟩
/-- What is read. -/
def ReadOk (s : List UInt8) (l : List Ed) : Prop := s = writeL l ∧ l.length ≤ 20 ∧ OkLs l
theorem read_bad {s0 s : List UInt8} {o : List Ed} (h : s0 = writeL o ++ s) (ho : OkLs o) (hs : s ≠ []) (hb : o.length = 20 ∨ NoHead s) : ∀ l, ¬ ReadOk s0 l := fun l ⟨h1, h2, h3⟩ => by
  obtain ⟨m, e1, e2⟩ := write_cancel ho h3 (h1.symm.trans h)
  cases m with
  | nil => exact hs e2
  | cons x m =>
    rcases hb with hb | hb
    · rw [e1, List.length_append, List.length_cons] at h2; omega
    · exact hb x (writeL m) ⟨e2, h3 x (by rw [e1]; simp)⟩
theorem read_uniq {s : List UInt8} {l m : List Ed} (h : ReadOk s l) (k : ReadOk s m) : l = m := by
  obtain ⟨t, e1, e2⟩ := write_cancel (a := l) (l := m) (s := []) h.2.2 k.2.2 (by rw [List.append_nil, ← h.1, k.1])
  cases t with
  | nil => rw [e1, List.append_nil]
  | cons x t =>
    have := congrArg List.length e2
    have hx := List.length_pos_iff.2 (item_ne x)
    simp [writeL] at this
    omega
theorem dec_len {n : Nat} (hn : n ≤ 200) : (Lib.decDigits n).length ≤ 3 := by
  by_cases g1 : n < 10
  · rw [dec_small g1, List.length_singleton]; omega
  · rw [dec_big g1]
    by_cases g2 : n / 10 < 10
    · rw [dec_small g2]; simp
    · rw [dec_big g2, dec_small (by omega)]; simp
theorem item_len {x : Ed} (h : OkXs x) : (itemL x).length ≤ 1000 := by
  obtain ⟨h1, h2, h3⟩ := h
  have e1 := dec_len (n := x.1.toNat) (by omega)
  have e2 := dec_len (n := x.2.1.toNat) (by omega)
  have e3 := dec_len (n := x.2.2.size) (by omega)
  have e4 : x.2.2.data.toList.length = x.2.2.size := rfl
  simp only [itemL, List.length_append, List.length_cons, List.length_nil]
  omega
theorem write_len : ∀ {l : List Ed}, OkLs l → (writeL l).length ≤ 1000 * l.length
  | [], _ => by simp [writeL]
  | x :: l, h => by
    have h1 := item_len (h x (by simp))
    have h2 := write_len (l := l) fun z hz => h z (by simp [hz])
    rw [writeL, List.length_append, List.length_cons]; omega
end Go.Proofs.YtigbnldmjafgmaaDoor
