/- Plain: words for weights that cost the least (Huffman). -/
import Derived.Test.YtlnobikecmgocaaDoorPlain
namespace Go.Proofs.YtlnobikecmgocaaDoor
set_option linter.unusedVariables false

/-- Weights with lengths: what they cost; how much room they take, of 2^L. -/
abbrev WL := List (Nat × Nat)
def costW : WL → Nat
  | [] => 0
  | x :: P => x.1 * x.2 + costW P
def krW (L : Nat) : WL → Nat
  | [] => 0
  | x :: P => 2 ^ (L - x.2) + krW L P
def Kr (L : Nat) (P : WL) : Prop := (∀ x ∈ P, x.2 ≤ L) ∧ krW L P ≤ 2 ^ L
theorem costW_perm {P Q : WL} (h : P.Perm Q) : costW P = costW Q := by
  induction h with
  | nil => rfl
  | cons x _ ih => rw [costW, costW, ih]
  | swap x y l => simp only [costW]; omega
  | trans _ _ h1 h2 => rw [h1, h2]
theorem krW_perm {P Q : WL} (L : Nat) (h : P.Perm Q) : krW L P = krW L Q := by
  induction h with
  | nil => rfl
  | cons x _ ih => rw [krW, krW, ih]
  | swap x y l => simp only [krW]; omega
  | trans _ _ h1 h2 => rw [h1, h2]
theorem Kr.perm {P Q : WL} {L : Nat} (h : Kr L P) (hp : P.Perm Q) : Kr L Q := ⟨fun x hx => h.1 x (hp.mem_iff.2 hx), by rw [← krW_perm L hp]; exact h.2⟩
theorem krW_scale {L M : Nat} (hLM : L ≤ M) : ∀ P : WL, (∀ x ∈ P, x.2 ≤ L) → krW M P = 2 ^ (M - L) * krW L P
  | [], _ => by simp [krW]
  | x :: P, h => by
    have hx := h x (by simp)
    rw [krW, krW, krW_scale hLM P fun y hy => h y (by simp [hy]), Nat.mul_add, ← Nat.pow_add]
    congr 2; omega
theorem Kr.at_ {P : WL} {L M : Nat} (h : Kr L P) (hM : ∀ x ∈ P, x.2 ≤ M) : Kr M P := by
  refine ⟨hM, ?_⟩
  rcases Nat.le_total L M with hl | hl
  · rw [krW_scale hl P h.1]
    have : 2 ^ M = 2 ^ (M - L) * 2 ^ L := by rw [← Nat.pow_add]; congr 1; omega
    rw [this]
    exact Nat.mul_le_mul_left _ h.2
  · have h1 := h.2
    rw [krW_scale hl P hM] at h1
    have : 2 ^ L = 2 ^ (L - M) * 2 ^ M := by rw [← Nat.pow_add]; congr 1; omega
    rw [this] at h1
    exact Nat.le_of_mul_le_mul_left h1 (Nat.pow_pos (by decide))
theorem weights_len {P : WL} {ws : List Nat} (h : (P.map (·.1)).Perm ws) : P.length = ws.length := by rw [← h.length_eq, List.length_map]
/-- A weight of the list has a length. -/
theorem pick_w {a : Nat} : ∀ {P : WL} {ws : List Nat}, (P.map (·.1)).Perm (a :: ws) → ∃ x R, P.Perm ((a, x) :: R) ∧ (R.map (·.1)).Perm ws := by
  intro P ws h
  have hm : a ∈ P.map (·.1) := h.mem_iff.2 (by simp)
  obtain ⟨⟨a', x⟩, hp, rfl⟩ := List.mem_map.1 hm
  refine ⟨x, P.erase (a', x), List.perm_cons_erase hp, ?_⟩
  have h1 := ((List.perm_cons_erase hp).map (·.1)).symm.trans h
  exact (List.perm_cons a').1 h1
/-- The greatest length may be moved to a weight that is no greater than any. -/
theorem lift_max (a : Nat) : ∀ (R : WL) (x : Nat), (∀ r ∈ R, a ≤ r.1) → ∃ x' R', (R'.map (·.1)) = R.map (·.1) ∧ x ≤ x' ∧ (∀ r ∈ R', r.2 ≤ x') ∧ (∀ b, (∀ r ∈ R, r.2 ≤ b) → x ≤ b → (x' ≤ b ∧ ∀ r ∈ R', r.2 ≤ b)) ∧ a * x' + costW R' ≤ a * x + costW R ∧ ∀ L, 2 ^ (L - x') + krW L R' = 2 ^ (L - x) + krW L R
  | [], x, _ => ⟨x, [], rfl, Nat.le_refl _, by simp, fun b _ hb => ⟨hb, by simp⟩, Nat.le_refl _, fun L => rfl⟩
  | (w, z) :: R, x, h => by
    have hw : a ≤ w := h (w, z) (by simp)
    by_cases hz : z ≤ x
    · obtain ⟨x', R', h1, h2, h3, h4, h5, h6⟩ := lift_max a R x fun r hr => h r (by simp [hr])
      refine ⟨x', (w, z) :: R', by simp [h1], h2, fun r hr => ?_, fun b hb hxb => ?_, ?_, fun L => ?_⟩
      · rcases List.mem_cons.1 hr with rfl | hr
        · show z ≤ x'; omega
        · exact h3 r hr
      · obtain ⟨g1, g2⟩ := h4 b (fun r hr => hb r (by simp [hr])) hxb
        refine ⟨g1, fun r hr => ?_⟩
        rcases List.mem_cons.1 hr with rfl | hr
        · exact hb (w, z) (by simp)
        · exact g2 r hr
      · simp only [costW]; omega
      · have := h6 L
        simp only [krW]; omega
    · obtain ⟨x', R', h1, h2, h3, h4, h5, h6⟩ := lift_max a R z fun r hr => h r (by simp [hr])
      refine ⟨x', (w, x) :: R', by simp [h1], by omega, fun r hr => ?_, fun b hb hxb => ?_, ?_, fun L => ?_⟩
      · rcases List.mem_cons.1 hr with rfl | hr
        · show x ≤ x'; omega
        · exact h3 r hr
      · obtain ⟨g1, g2⟩ := h4 b (fun r hr => hb r (by simp [hr])) (hb (w, z) (by simp))
        refine ⟨g1, fun r hr => ?_⟩
        rcases List.mem_cons.1 hr with rfl | hr
        · exact hxb
        · exact g2 r hr
      · simp only [costW]
        obtain ⟨d, rfl⟩ : ∃ d, z = x + d := ⟨z - x, by omega⟩
        have e1 : w * (x + d) = w * x + w * d := Nat.mul_add ..
        have e2 : a * (x + d) = a * x + a * d := Nat.mul_add ..
        have e3 : a * d ≤ w * d := Nat.mul_le_mul_right _ hw
        omega
      · have := h6 L
        simp only [krW]; omega
/-- A length that is greater than all others may be less by one. -/
theorem cut_one {a x L : Nat} {Q : WL} (h : Kr L ((a, x + 1) :: Q)) (hq : ∀ r ∈ Q, r.2 ≤ x) : Kr (x + 1) ((a, x) :: Q) := by
  have h1 := h.at_ (M := x + 1) (fun r hr => by
    rcases List.mem_cons.1 hr with rfl | hr
    · exact Nat.le_refl _
    · exact Nat.le_succ_of_le (hq r hr))
  refine ⟨fun r hr => ?_, ?_⟩
  · rcases List.mem_cons.1 hr with rfl | hr
    · exact Nat.le_succ _
    · exact Nat.le_succ_of_le (hq r hr)
  · have h2 := h1.2
    have e := krW_scale (L := x) (M := x + 1) (by omega) Q hq
    rw [show x + 1 - x = 1 from by omega, Nat.pow_one] at e
    simp only [krW, Nat.sub_self, Nat.pow_zero] at h2 ⊢
    rw [e] at h2 ⊢
    rw [show x + 1 - x = 1 from by omega, Nat.pow_one]
    rw [Nat.pow_succ] at h2 ⊢
    omega
theorem cut_many {a b y L : Nat} {Q : WL} (hq : ∀ r ∈ Q, r.2 ≤ y) : ∀ (d L : Nat), Kr L ((a, y + d) :: (b, y) :: Q) → ∃ L', Kr L' ((a, y) :: (b, y) :: Q)
  | 0, L, h => ⟨L, h⟩
  | d + 1, L, h => by
    have := cut_one (a := a) (x := y + d) (Q := (b, y) :: Q) h (fun r hr => by
      rcases List.mem_cons.1 hr with rfl | hr
      · show y ≤ y + d; omega
      · have := hq r hr; omega)
    exact cut_many (L := L) hq d _ this
/-- The two least weights may have the greatest length, both. -/
theorem two_last {a b x y L : Nat} {R : WL} (h : Kr L ((a, x) :: (b, y) :: R)) (hab : a ≤ b) (hb : ∀ r ∈ R, b ≤ r.1) :
    ∃ z R' L', Kr L' ((a, z + 1) :: (b, z + 1) :: R') ∧ R'.map (·.1) = R.map (·.1) ∧ a * (z + 1) + (b * (z + 1) + costW R') ≤ a * x + (b * y + costW R) := by
  obtain ⟨x1, R1, m1, le1, mx1, bd1, c1, k1⟩ := lift_max a ((b, y) :: R) x (fun r hr => by
    rcases List.mem_cons.1 hr with rfl | hr
    · exact hab
    · exact Nat.le_trans hab (hb r hr))
  have hL : ∀ r ∈ (b, y) :: R, r.2 ≤ L := fun r hr => h.1 r (by simp only [List.mem_cons] at hr ⊢; exact .inr hr)
  have hx := h.1 (a, x) (by simp)
  obtain ⟨b1, b2⟩ := bd1 L hL hx
  obtain ⟨y1, Q1, rfl, mq⟩ : ∃ y1 Q1, R1 = (b, y1) :: Q1 ∧ Q1.map (·.1) = R.map (·.1) := by
    cases R1 with
    | nil => cases m1
    | cons q Q =>
      obtain ⟨q1, q2⟩ := q
      simp only [List.map_cons, List.cons.injEq] at m1
      exact ⟨q2, Q, by rw [m1.1], m1.2⟩
  · obtain ⟨y2, R2, m2, le2, mx2, bd2, c2, k2⟩ := lift_max b Q1 y1 (fun r hr => by
      have : r.1 ∈ R.map (·.1) := by rw [← mq]; exact List.mem_map.2 ⟨r, hr, rfl⟩
      obtain ⟨s, hs, e⟩ := List.mem_map.1 this
      rw [← e]; exact hb s hs)
    obtain ⟨b3, b4⟩ := bd2 L (fun r hr => b2 r (by simp [hr])) (b2 (b, y1) (by simp))
    have hyx := (bd2 x1 (fun r hr => mx1 r (by simp [hr])) (mx1 (b, y1) (by simp))).1
    have hk : Kr L ((a, x1) :: (b, y2) :: R2) := by
      refine ⟨fun r hr => ?_, ?_⟩
      · rcases List.mem_cons.1 hr with rfl | hr
        · exact b1
        · rcases List.mem_cons.1 hr with rfl | hr
          · exact b3
          · exact b4 r hr
      · have h1 := h.2
        have e1 := k1 L
        have e2 := k2 L
        simp only [krW] at h1 e1 ⊢
        omega
    obtain ⟨d, rfl⟩ : ∃ d, x1 = y2 + d := ⟨x1 - y2, by omega⟩
    obtain ⟨L', h'⟩ := cut_many (L := L) mx2 d L hk
    have hp : y2 ≠ 0 := fun e => by
      subst e
      have h3 := h'.2
      simp only [krW, Nat.sub_zero] at h3
      have : 0 < 2 ^ L' := Nat.pow_pos (by decide)
      omega
    obtain ⟨z, rfl⟩ : ∃ z', y2 = z' + 1 := ⟨y2 - 1, by omega⟩
    refine ⟨z, R2, L', h', by rw [m2, mq], ?_⟩
    have e1 : a * (z + 1) ≤ a * (z + 1 + d) := Nat.mul_le_mul_left _ (by omega)
    simp only [costW] at c1
    omega

/-- What Huffman's way costs: the two least weights become one, again and again. -/
inductive Huff : List Nat → Nat → Prop
  | one (w : Nat) : Huff [w] 0
  | step (ws : List Nat) (a b : Nat) (r r' : List Nat) (c : Nat) (h : ws.Perm (a :: b :: r)) (hab : a ≤ b) (hb : ∀ x ∈ r, b ≤ x) (h' : r'.Perm ((a + b) :: r)) (hc : Huff r' c) : Huff ws (a + b + c)
theorem huff_least {ws : List Nat} {c : Nat} (h : Huff ws c) : ∀ (P : WL) (L : Nat), (P.map (·.1)).Perm ws → Kr L P → c ≤ costW P := by
  induction h with
  | one w => intro P L _ _; exact Nat.zero_le _
  | step ws a b r r' c h hab hb h' hc ih =>
    intro P L hP hK
    obtain ⟨x, Q, q1, q2⟩ := pick_w (hP.trans h)
    obtain ⟨y, R, r1, r2⟩ := pick_w q2
    have hp : P.Perm ((a, x) :: (b, y) :: R) := q1.trans (r1.cons _)
    have hbR : ∀ s ∈ R, b ≤ s.1 := fun s hs => hb _ (r2.mem_iff.1 (List.mem_map.2 ⟨s, hs, rfl⟩))
    obtain ⟨z, R', L', k1, k2, k3⟩ := two_last (hK.perm hp) hab hbR
    have hK' : Kr L' ((a + b, z) :: R') := by
      refine ⟨fun s hs => ?_, ?_⟩
      · rcases List.mem_cons.1 hs with rfl | hs
        · have := k1.1 (a, z + 1) (by simp)
          show z ≤ L'
          simp only at this; omega
        · exact k1.1 s (by simp [hs])
      · have h1 := k1.2
        have h2 := k1.1 (a, z + 1) (by simp)
        simp only at h2
        simp only [krW] at h1 ⊢
        have : 2 ^ (L' - z) = 2 ^ (L' - (z + 1)) + 2 ^ (L' - (z + 1)) := by
          rw [show L' - z = (L' - (z + 1)) + 1 from by omega, Nat.pow_succ]; omega
        omega
    have := ih ((a + b, z) :: R') L' (by
      refine List.Perm.trans ?_ h'.symm
      rw [List.map_cons, k2]
      exact r2.cons _) hK'
    rw [costW_perm hp]
    simp only [costW] at this ⊢
    rw [Nat.add_mul] at this
    rw [Nat.mul_add, Nat.mul_add] at k3
    omega

/-- Sums over places. -/
def sumL (f : Nat → Nat) : List Nat → Nat
  | [] => 0
  | k :: l => f k + sumL f l
theorem sumL_app (f : Nat → Nat) : ∀ a b : List Nat, sumL f (a ++ b) = sumL f a + sumL f b
  | [], b => by simp [sumL]
  | k :: a, b => by rw [List.cons_append, sumL, sumL, sumL_app f a b, Nat.add_assoc]
theorem sumL_perm (f : Nat → Nat) {a b : List Nat} (h : a.Perm b) : sumL f a = sumL f b := by
  induction h with
  | nil => rfl
  | cons x _ ih => rw [sumL, sumL, ih]
  | swap x y l => simp only [sumL]; omega
  | trans _ _ h1 h2 => rw [h1, h2]
theorem sumL_congr {f g : Nat → Nat} : ∀ {l : List Nat}, (∀ k ∈ l, f k = g k) → sumL f l = sumL g l
  | [], _ => rfl
  | k :: l, h => by rw [sumL, sumL, h k (by simp), sumL_congr fun j hj => h j (by simp [hj])]
theorem sumL_ge {f : Nat → Nat} : ∀ {l : List Nat} {k : Nat}, k ∈ l → f k ≤ sumL f l
  | x :: l, k, h => by
    rcases List.mem_cons.1 h with rfl | h
    · rw [sumL]; omega
    · have := sumL_ge (f := f) h
      rw [sumL]; omega
theorem sumL_double (f : Nat → Nat) : ∀ l : List Nat, sumL (fun k => 2 * f k) l = 2 * sumL f l
  | [] => rfl
  | k :: l => by rw [sumL, sumL, sumL_double f l, Nat.mul_add]
/-- One more at each of these places. -/
def inc (o : List Nat) (K : List Nat) : List Nat := K.foldl (fun o k => o.set k (o.getD k 0 + 1)) o
theorem inc_cons (o : List Nat) (k : Nat) (K : List Nat) : inc o (k :: K) = inc (o.set k (o.getD k 0 + 1)) K := rfl
theorem inc_snoc (o : List Nat) (K : List Nat) (k : Nat) : inc o (K ++ [k]) = (inc o K).set k ((inc o K).getD k 0 + 1) := by simp [inc]
theorem inc_length : ∀ (K : List Nat) (o : List Nat), (inc o K).length = o.length
  | [], o => rfl
  | k :: K, o => by rw [inc_cons, inc_length K]; simp
theorem inc_at : ∀ (K : List Nat) (o : List Nat), (∀ k ∈ K, k < o.length) → ∀ j, (inc o K).getD j 0 = o.getD j 0 + List.count j K
  | [], o, _, j => by simp [inc]
  | k :: K, o, h, j => by
    rw [inc_cons, inc_at K _ (fun x hx => by simp; exact h x (by simp [hx])), getD_set _ _ _ _ (h k (by simp))]
    by_cases e : j = k
    · subst e
      rw [if_pos rfl, List.count_cons_self]; omega
    · rw [if_neg e, List.count_cons_of_ne (fun g => e g.symm)]
def costO (ws o : List Nat) : Nat := sumL (fun k => ws.getD k 0 * o.getD k 0) (List.range ws.length)
theorem sumL_set {f g : Nat → Nat} {k d : Nat} : ∀ {l : List Nat}, l.Nodup → k ∈ l → (∀ j, j ≠ k → f j = g j) → f k = g k + d → sumL f l = sumL g l + d
  | x :: l, hn, hk, h1, h2 => by
    obtain ⟨hx, hl⟩ := List.nodup_cons.1 hn
    rcases List.mem_cons.1 hk with rfl | hk
    · rw [sumL, sumL, h2, sumL_congr (g := g) (fun j hj => h1 j (by rintro rfl; exact hx hj))]; omega
    · rw [sumL, sumL, h1 x (by rintro rfl; exact hx hk), sumL_set hl hk h1 h2]; omega
theorem costO_inc (ws : List Nat) : ∀ (K o : List Nat), o.length = ws.length → (∀ k ∈ K, k < ws.length) → costO ws (inc o K) = costO ws o + sumL (fun k => ws.getD k 0) K
  | [], o, _, _ => by simp [inc, sumL]
  | k :: K, o, ho, hK => by
    rw [inc_cons, costO_inc ws K _ (by simpa using ho) (fun x hx => hK x (by simp [hx])), sumL]
    have hk := hK k (by simp)
    have : costO ws (o.set k (o.getD k 0 + 1)) = costO ws o + ws.getD k 0 := by
      refine sumL_set List.nodup_range (List.mem_range.2 hk) (fun j hj => ?_) ?_
      · show ws.getD j 0 * (o.set k (o.getD k 0 + 1)).getD j 0 = _
        rw [getD_set _ _ _ _ (by omega), if_neg hj]
      · show ws.getD k 0 * (o.set k (o.getD k 0 + 1)).getD k 0 = _
        rw [getD_set _ _ _ _ (by omega), if_pos rfl, Nat.mul_add, Nat.mul_one]
    rw [this]; omega
theorem costW_zip (ws : List Nat) : ∀ o : List Nat, o.length = ws.length → costW (ws.zip o) = costO ws o := by
  have key : ∀ (a b : List Nat) (m : Nat), a.length = b.length → costW (a.zip b) = sumL (fun k => a.getD (k - m) 0 * b.getD (k - m) 0) (List.range' m a.length) := by
    intro a
    induction a with
    | nil => intro b m _; rfl
    | cons x a ih =>
      intro b m hl
      match b, hl with
      | y :: b, hl =>
        rw [List.zip_cons_cons, costW, List.length_cons, List.range'_succ, sumL, Nat.sub_self, ih b (m + 1) (by simpa using hl)]
        congr 1
        refine sumL_congr fun k hk => ?_
        have := (List.mem_range'_1.1 hk).1
        rw [show k - m = (k - (m + 1)) + 1 from by omega]; rfl
  intro o ho
  have := key ws o 0 ho.symm
  rw [this, costO, List.range_eq_range']
  rfl
theorem krW_zip (D : Nat) (ws : List Nat) : ∀ o : List Nat, o.length = ws.length → krW D (ws.zip o) = sumL (fun k => 2 ^ (D - o.getD k 0)) (List.range ws.length) := by
  have key : ∀ (a b : List Nat) (m : Nat), a.length = b.length → krW D (a.zip b) = sumL (fun k => 2 ^ (D - b.getD (k - m) 0)) (List.range' m a.length) := by
    intro a
    induction a with
    | nil => intro b m _; rfl
    | cons x a ih =>
      intro b m hl
      match b, hl with
      | y :: b, hl =>
        rw [List.zip_cons_cons, krW, List.length_cons, List.range'_succ, sumL, Nat.sub_self, ih b (m + 1) (by simpa using hl)]
        congr 1
        refine sumL_congr fun k hk => ?_
        have := (List.mem_range'_1.1 hk).1
        rw [show k - m = (k - (m + 1)) + 1 from by omega]; rfl
  intro o ho
  have := key ws o 0 ho.symm
  rw [this, List.range_eq_range']
  rfl

theorem Huff.perm {ws vs : List Nat} {c : Nat} (h : Huff ws c) (hp : ws.Perm vs) : Huff vs c := by
  cases h with
  | one w =>
    rw [List.perm_singleton.1 hp.symm]
    exact Huff.one w
  | step _ a b r r' c h hab hb h' hc => exact Huff.step _ a b r r' c (hp.symm.trans h) hab hb h' hc
/-- Piles on the way: what is true of them all. -/
abbrev Pile := Nat × List Nat
structure HInv (ws : List Nat) (l : List Pile) (o : List Nat) : Prop where
  part : (l.map (·.2)).flatten.Perm (List.range ws.length)
  len : o.length = ws.length
  cost : ∀ c, Huff (l.map (·.1)) c → Huff ws (costO ws o + c)
  weight : ∀ p ∈ l, p.1 = sumL (fun k => ws.getD k 0) p.2
  room : ∀ p ∈ l, ∀ D, (∀ k ∈ p.2, o.getD k 0 ≤ D) → sumL (fun k => 2 ^ (D - o.getD k 0)) p.2 = 2 ^ D
  deep : ∀ k, k < ws.length → o.getD k 0 + l.length ≤ ws.length
theorem HInv.perm {ws o : List Nat} {l m : List Pile} (h : HInv ws l o) (hp : l.Perm m) : HInv ws m o := by
  refine ⟨((hp.map (·.2)).flatten.symm).trans h.part, h.len, fun c hc => h.cost c ?_, fun p hm => h.weight p (hp.mem_iff.2 hm), fun p hm => h.room p (hp.mem_iff.2 hm), fun k hk => by rw [← hp.length_eq]; exact h.deep k hk⟩
  exact hc.perm (hp.map (·.1)).symm
theorem HInv.lt {ws o : List Nat} {l : List Pile} (h : HInv ws l o) {p : Pile} (hp : p ∈ l) : ∀ k ∈ p.2, k < ws.length := fun k hk =>
  List.mem_range.1 (h.part.mem_iff.1 (List.mem_flatten.2 ⟨p.2, List.mem_map.2 ⟨p, hp, rfl⟩, hk⟩))
theorem HInv.start (ws : List Nat) : HInv ws (ws.zipIdx.map fun x => (x.1, [x.2])) (List.replicate ws.length 0) := by
  have e1 : ((ws.zipIdx.map fun x => ((x.1, [x.2]) : Pile)).map (·.2)).flatten = List.range ws.length := by
    rw [List.map_map]
    have : (ws.zipIdx.map ((fun x : Pile => x.2) ∘ fun x => (x.1, [x.2]))) = (ws.zipIdx.map (·.2)).map fun k => [k] := by rw [List.map_map]; rfl
    rw [this, List.zipIdx_map_snd]
    simp [List.range_eq_range', List.flatten_eq_flatMap, List.flatMap_map]
  have e2 : (ws.zipIdx.map fun x => ((x.1, [x.2]) : Pile)).map (·.1) = ws := by
    rw [List.map_map]
    exact List.zipIdx_map_fst 0 ws
  have hz : ∀ k, (List.replicate ws.length 0).getD k 0 = 0 := fun k => by
    rw [List.getD_eq_getElem?_getD, List.getElem?_replicate]
    split <;> rfl
  refine ⟨by rw [e1], by simp, fun c hc => ?_, fun p hp => ?_, fun p hp D _ => ?_, fun k hk => by rw [hz]; simp⟩
  · rw [e2] at hc
    have : costO ws (List.replicate ws.length 0) = 0 := by
      unfold costO
      rw [sumL_congr (g := fun _ => 0) fun k _ => by rw [hz, Nat.mul_zero]]
      have : ∀ l : List Nat, sumL (fun _ => 0) l = 0 := fun l => by induction l with
        | nil => rfl
        | cons x l ih => rw [sumL, ih]
      exact this _
    rw [this, Nat.zero_add]; exact hc
  · obtain ⟨⟨x, i⟩, hx, rfl⟩ := List.mem_map.1 hp
    have := List.mem_zipIdx hx
    simp only [sumL, Nat.add_zero]
    rw [List.getD_eq_getElem?_getD, List.getElem?_eq_getElem (by omega)]
    simpa using this.2.2
  · obtain ⟨⟨x, i⟩, hx, rfl⟩ := List.mem_map.1 hp
    simp only [sumL, hz, Nat.sub_zero, Nat.add_zero]
/-- The two least piles become one. -/
theorem HInv.merge {ws o : List Nat} {a b : Nat} {A B : List Nat} {r : List Pile} (h : HInv ws ((a, A) :: (b, B) :: r) o) (hab : a ≤ b) (hb : ∀ p ∈ r, b ≤ p.1) :
    HInv ws (r ++ [(a + b, A ++ B)]) (inc o (A ++ B)) := by
  have hA := h.lt (p := (a, A)) (by simp)
  have hB := h.lt (p := (b, B)) (by simp)
  have hAB : ∀ k ∈ A ++ B, k < o.length := fun k hk => by
    rw [h.len]
    rcases List.mem_append.1 hk with hk | hk
    · exact hA k hk
    · exact hB k hk
  have hnd : (A ++ (B ++ (r.map (·.2)).flatten)).Nodup := by
    have := h.part.nodup_iff.2 List.nodup_range
    simpa using this
  have hnAB : (A ++ B).Nodup := by
    rw [← List.append_assoc] at hnd
    exact (List.nodup_append.1 hnd).1
  have hoth : ∀ p ∈ r, ∀ k ∈ p.2, k ∉ A ++ B := fun p hp k hk hm => by
    rw [← List.append_assoc] at hnd
    exact (List.nodup_append.1 hnd).2.2 k hm k (List.mem_flatten.2 ⟨p.2, List.mem_map.2 ⟨p, hp, rfl⟩, hk⟩) rfl
  have hat := inc_at (A ++ B) o hAB
  have h1 : ∀ k ∈ A ++ B, (inc o (A ++ B)).getD k 0 = o.getD k 0 + 1 := fun k hk => by rw [hat, hnAB.count, if_pos hk]
  have h0 : ∀ k, k ∉ A ++ B → (inc o (A ++ B)).getD k 0 = o.getD k 0 := fun k hk => by rw [hat, List.count_eq_zero_of_not_mem hk, Nat.add_zero]
  have wa := h.weight (a, A) (by simp)
  have wb := h.weight (b, B) (by simp)
  simp only at wa wb
  refine ⟨?_, by rw [inc_length]; exact h.len, fun c hc => ?_, fun p hp => ?_, fun p hp D hD => ?_, fun k hk => ?_⟩
  · refine List.Perm.trans ?_ h.part
    simp only [List.map_append, List.map_cons, List.map_nil, List.flatten_append, List.flatten_cons, List.flatten_nil, List.append_nil]
    refine List.perm_append_comm.trans ?_
    rw [List.append_assoc]
  · rw [costO_inc ws (A ++ B) o h.len (fun k hk => by rw [← h.len]; exact hAB k hk), sumL_app, ← wa, ← wb]
    have := h.cost (a + b + c) (Huff.step _ a b (r.map (·.1)) _ c (List.Perm.refl _) hab (fun x hx => by
      obtain ⟨p, hp, rfl⟩ := List.mem_map.1 hx
      exact hb p hp) (by
        rw [List.map_append]
        exact List.perm_append_comm (l₁ := r.map (·.1)) (l₂ := [a + b])) hc)
    rw [Nat.add_assoc]; exact this
  · rcases List.mem_append.1 hp with hp | hp
    · exact h.weight p (by simp [hp])
    · rw [List.mem_singleton.1 hp]
      show a + b = _
      rw [sumL_app, ← wa, ← wb]
  · rcases List.mem_append.1 hp with hp | hp
    · rw [sumL_congr (g := fun k => 2 ^ (D - o.getD k 0)) fun k hk => by rw [h0 k (hoth p hp k hk)]]
      exact h.room p (by simp [hp]) D fun k hk => by rw [← h0 k (hoth p hp k hk)]; exact hD k hk
    · obtain rfl := List.mem_singleton.1 hp
      simp only at hD ⊢
      have hd : ∀ k ∈ A ++ B, o.getD k 0 + 1 ≤ D := fun k hk => by rw [← h1 k hk]; exact hD k hk
      by_cases hz : A ++ B = []
      · -- no pile is empty
        have hAz : A = [] := (List.append_eq_nil_iff.1 hz).1
        have := h.room (a, A) (by simp) 0 (by rw [hAz]; simp)
        rw [hAz] at this
        simp [sumL] at this
      · have hD1 : 1 ≤ D := by
          obtain ⟨k, hk⟩ := List.exists_mem_of_ne_nil _ hz
          have := hd k hk; omega
        obtain ⟨D, rfl⟩ : ∃ d, D = d + 1 := ⟨D - 1, by omega⟩
        have e : sumL (fun k => 2 ^ (D + 1 - (inc o (A ++ B)).getD k 0)) (A ++ B) = sumL (fun k => 2 ^ (D - o.getD k 0)) (A ++ B) := sumL_congr fun k hk => by rw [h1 k hk]; congr 1; omega
        rw [e, sumL_app, h.room (a, A) (by simp) D (fun k hk => by have := hd k (by simp only at hk; simp [hk]); omega), h.room (b, B) (by simp) D (fun k hk => by have := hd k (by simp only at hk; simp [hk]); omega), Nat.pow_succ]
        omega
  · have := h.deep k hk
    simp only [List.length_cons, List.length_append, List.length_nil] at this ⊢
    by_cases hm : k ∈ A ++ B
    · rw [h1 k hm]; omega
    · rw [h0 k hm]; omega
/-- What Lens tells. -/
structure LensOk (ws o : List Nat) : Prop where
  len : o.length = ws.length
  bd : ∀ k, k < ws.length → 1 ≤ o.getD k 0 ∧ o.getD k 0 ≤ ws.length
  room : ∀ D, ws.length ≤ D → krW D (ws.zip o) ≤ 2 ^ D
  least : ∀ (q : List Nat) (L : Nat), q.length = ws.length → (∀ k, k < ws.length → 1 ≤ q.getD k 0) → Kr L (ws.zip q) → costO ws o ≤ costO ws q
theorem lens_one (w : Nat) : LensOk [w] [1] := by
  refine ⟨rfl, fun k hk => ?_, fun D hD => ?_, fun q L hq h1 _ => ?_⟩
  · obtain rfl : k = 0 := by simpa using hk
    exact ⟨Nat.le_refl 1, Nat.le_refl 1⟩
  · show 2 ^ (D - 1) + 0 ≤ 2 ^ D
    rw [Nat.add_zero]
    exact Nat.pow_le_pow_right (by decide) (by omega)
  · have := h1 0 (by simp)
    simp only [costO, List.length_singleton, List.range_one, sumL, List.getD_cons_zero]
    have : w * 1 ≤ w * q.getD 0 0 := Nat.mul_le_mul_left _ this
    omega
theorem lens_none : LensOk [] [] := ⟨rfl, fun k hk => by simp at hk, fun D hD => by simp [krW], fun q L _ _ _ => by simp [costO, sumL]⟩
theorem HInv.done {ws o : List Nat} {p : Pile} (h : HInv ws [p] o) (hn : 2 ≤ ws.length) : LensOk ws o := by
  have hp : p.2.Perm (List.range ws.length) := by simpa using h.part
  have hd : ∀ k, k < ws.length → o.getD k 0 + 1 ≤ ws.length := fun k hk => by simpa using h.deep k hk
  have hr : ∀ D, ws.length ≤ D → sumL (fun k => 2 ^ (D - o.getD k 0)) (List.range ws.length) = 2 ^ D := fun D hD => by
    rw [← sumL_perm _ hp]
    exact h.room p (by simp) D fun k hk => by
      have := hd k (List.mem_range.1 (hp.mem_iff.1 hk)); omega
  have hc := h.cost 0 (Huff.one p.1)
  rw [Nat.add_zero] at hc
  refine ⟨h.len, fun k hk => ⟨?_, by have := hd k hk; omega⟩, fun D hD => by rw [krW_zip D ws o h.len, hr D hD]; exact Nat.le_refl _, fun q L hq _ hK => ?_⟩
  · rcases Nat.eq_zero_or_pos (o.getD k 0) with h0 | h0
    · exfalso
      have h1 := hr ws.length (Nat.le_refl _)
      obtain ⟨j, hj, hjk⟩ : ∃ j, j < ws.length ∧ j ≠ k := by
        by_cases e : k = 0
        · exact ⟨1, by omega, by omega⟩
        · exact ⟨0, by omega, fun g => e g.symm⟩
      have hsp : (List.range ws.length).Perm (k :: (List.range ws.length).erase k) := List.perm_cons_erase (List.mem_range.2 hk)
      rw [sumL_perm _ hsp, sumL, h0, Nat.sub_zero] at h1
      have h2 := sumL_ge (f := fun k => 2 ^ (ws.length - o.getD k 0)) (l := (List.range ws.length).erase k) (k := j) ((List.mem_erase_of_ne hjk).2 (List.mem_range.2 hj))
      have : 0 < 2 ^ (ws.length - o.getD j 0) := Nat.pow_pos (by decide)
      omega
    · exact h0
  · have hz : (ws.zip q).map (·.1) = ws := List.map_fst_zip (by omega)
    have := huff_least hc (ws.zip q) L (by rw [hz]) hK
    rw [← costW_zip ws q hq]; exact this
end Go.Proofs.YtlnobikecmgocaaDoor
