/- Plain: whoever is first, and then what is left of the other one, comes to the same as both at one time. -/
import Derived.Test.YtookbaaicpapnaaMergeP
namespace Go.Proofs.Ytookbaaicpapnaa
set_option linter.unusedVariables false

/-- One edit alone. -/
def one (e : Ed) (t : List UInt8) : List UInt8 := t.take e.1.toNat ++ e.2.2.data.toList ++ t.drop (e.1 + e.2.1).toNat
/-- Two edits lie apart. -/
def Apart (x y : Ed) : Prop := x.1 + x.2.1 < y.1 ∨ y.1 + y.2.1 < x.1
theorem apart_of {x y : Ed} (h : ¬ Clash x y) (hne : x ≠ y) : Apart x y := by
  unfold Apart
  by_cases h1 : x.1 ≤ y.1 + y.2.1
  · by_cases h2 : y.1 ≤ x.1 + x.2.1
    · exact absurd ⟨hne, h1, h2⟩ h
    · omega
  · omega
theorem OkE.first {n : Int} : ∀ {l : List Ed} {f : Bool} {e : Int}, OkE n f e l → OkE n true 0 l
  | [], _, _, _ => trivial
  | x :: l, f, e, ⟨h1, h2, h3, h4, h5, h6, h7⟩ => ⟨h1, h2, h3, h4, h5, (fun h => by cases h), h7⟩
theorem OkE.below {n : Int} : ∀ {l : List Ed}, OkE n true 0 l → OkE n false (-1) l
  | [], _ => trivial
  | x :: l, ⟨h1, h2, h3, h4, h5, h6, h7⟩ => ⟨h1, h2, h3, h4, h5, (fun _ => by omega), h7⟩

theorem app_from (t : List UInt8) (q : Nat) : ∀ {l : List Ed} {n : Int}, OkE n false q l → app t 0 l = t.take q ++ app t q l
  | [], n, _ => by rw [app, app, List.drop_zero, List.take_append_drop]
  | y :: l, n, ⟨h1, h2, h3, h4, h5, h6, h7⟩ => by
    have hq := h6 rfl
    have e : t.take y.1.toNat = t.take q ++ (t.take y.1.toNat).drop q := by
      conv => lhs; rw [← List.take_append_drop q (t.take y.1.toNat)]
      rw [List.take_take, Nat.min_eq_left (by omega)]
    rw [app, app, List.drop_zero]
    conv => lhs; rw [e]
    simp only [List.append_assoc]
theorem app_one (t : List UInt8) (x : Ed) (l : List Ed) (h : OkE t.length true 0 (x :: l)) : app t 0 (x :: l) = one x (app t 0 l) := by
  obtain ⟨h1, h2, h3, h4, h5, h6, h7⟩ := h
  obtain ⟨i, hi⟩ : ∃ i : Nat, x.1 = i := ⟨x.1.toNat, by omega⟩
  obtain ⟨q, hq⟩ : ∃ q : Nat, x.1 + x.2.1 = q := ⟨(x.1 + x.2.1).toNat, by omega⟩
  have hl : (t.take q).length = q := by rw [List.length_take]; omega
  rw [hq] at h7
  rw [app_from t q h7, app, one, hq, hi, Int.toNat_natCast, Int.toNat_natCast, List.drop_zero, List.take_append_of_le_length (by omega), List.take_take, Nat.min_eq_left (by omega), List.drop_left' hl]

theorem one_comm (t : List UInt8) (x y : Ed) (h0 : 0 ≤ x.1) (h1 : 0 ≤ x.2.1) (h2 : x.1 + x.2.1 ≤ y.1) (h3 : 0 ≤ y.2.1) (h4 : y.1 + y.2.1 ≤ t.length) :
    one x (one y t) = one (y.1 + ((x.2.2.size : Int) - x.2.1), y.2) (one x t) := by
  obtain ⟨i, hi⟩ : ∃ i : Nat, x.1 = i := ⟨x.1.toNat, by omega⟩
  obtain ⟨q, hq⟩ : ∃ q : Nat, x.1 + x.2.1 = q := ⟨(x.1 + x.2.1).toNat, by omega⟩
  obtain ⟨k, hk⟩ : ∃ k : Nat, y.1 = (q : Int) + k := ⟨(y.1 - q).toNat, by omega⟩
  obtain ⟨m, hm⟩ : ∃ m : Nat, y.1 + y.2.1 = (q : Int) + m := ⟨(y.1 + y.2.1 - q).toNat, by omega⟩
  have hiq : i ≤ q := by omega
  have hkm : k ≤ m := by omega
  have hmt : q + m ≤ t.length := by omega
  have e1 : y.1.toNat = q + k := by omega
  have e2 : (y.1 + y.2.1).toNat = q + m := by omega
  have e3 : x.1.toNat = i := by omega
  have e4 : (x.1 + x.2.1).toNat = q := by omega
  have hxl : x.2.2.data.toList.length = x.2.2.size := rfl
  have e5 : (y.1 + ((x.2.2.size : Int) - x.2.1)).toNat = i + x.2.2.data.toList.length + k := by rw [hxl]; omega
  have e6 : (y.1 + ((x.2.2.size : Int) - x.2.1) + y.2.1).toNat = i + x.2.2.data.toList.length + m := by rw [hxl]; omega
  unfold one
  simp only
  rw [e1, e2, e3, e4, e5, e6]
  have hti : (t.take i).length = i := by rw [List.length_take]; omega
  have hP : (t.take i ++ x.2.2.data.toList).length = i + x.2.2.data.toList.length := by rw [List.length_append, hti]
  have l1 : (t.take i ++ x.2.2.data.toList ++ t.drop q).take (i + x.2.2.data.toList.length + k) = t.take i ++ x.2.2.data.toList ++ (t.drop q).take k := by
    rw [List.take_append, List.take_of_length_le (by omega), hP, show i + x.2.2.data.toList.length + k - (i + x.2.2.data.toList.length) = k from by omega]
  have l2 : (t.take i ++ x.2.2.data.toList ++ t.drop q).drop (i + x.2.2.data.toList.length + m) = t.drop (q + m) := by
    rw [List.drop_append, List.drop_of_length_le (by omega), hP, show i + x.2.2.data.toList.length + m - (i + x.2.2.data.toList.length) = m from by omega, List.nil_append, List.drop_drop]
  have hqk : (t.take (q + k)).length = q + k := by rw [List.length_take]; omega
  have l3 : (t.take (q + k) ++ y.2.2.data.toList ++ t.drop (q + m)).take i = t.take i := by
    rw [List.append_assoc, List.take_append_of_le_length (by omega), List.take_take, Nat.min_eq_left (by omega)]
  have l4 : (t.take (q + k) ++ y.2.2.data.toList ++ t.drop (q + m)).drop q = (t.drop q).take k ++ y.2.2.data.toList ++ t.drop (q + m) := by
    rw [List.append_assoc, List.drop_append_of_le_length (by omega), List.drop_take, show q + k - q = k from by omega, List.append_assoc]
  rw [l1, l2, l3, l4]
  simp only [List.append_assoc]

theorem moved_zero {n : Int} (p : Int) : ∀ {c : List Ed} {e : Int}, OkE n false e c → p ≤ e → movedE c p = 0
  | [], e, _, _ => rfl
  | z :: c, e, ⟨h1, h2, h3, h4, h5, h6, h7⟩, hp => by
    have h6 := h6 rfl
    rw [movedE, if_neg (by omega), moved_zero p h7 (by omega)]
    rfl
theorem OkE.del {n : Int} : ∀ {l : List Ed} {f : Bool} {e : Int}, OkE n f e l → ∀ x ∈ l, 0 ≤ x.2.1
  | [], _, _, _, x, h => by cases h
  | y :: l, f, e, ⟨h1, h2, h3, h4, h5, h6, h7⟩, x, h => by
    rcases List.mem_cons.1 h with h | h
    · rw [h]; exact h2
    · exact h7.del x h
/-- Where an edit stands behind others: no further ahead than an end that lies ahead of them all. -/
theorem moved_low {n : Int} (y : Ed) : ∀ {c : List Ed} {e : Int}, OkE n false e c → (∀ x ∈ c, Apart x y) → 0 ≤ y.2.1 → e < y.1 → e < y.1 + movedE c y.1
  | [], e, _, _, _, he => by rw [movedE]; omega
  | z :: c, e, ⟨h1, h2, h3, h4, h5, h6, h7⟩, ha, hy, he => by
    have hz := ha z (by simp)
    have h6 := h6 rfl
    rw [movedE]
    by_cases hlt : z.1 < y.1
    · rw [if_pos hlt]
      have hzy : z.1 + z.2.1 < y.1 := by rcases hz with h | h <;> omega
      have := moved_low y h7 (fun x hx => ha x (by simp [hx])) hy hzy
      omega
    · rw [if_neg hlt, moved_zero y.1 h7 (by omega)]
      omega
theorem gain_low {n : Int} : ∀ {c : List Ed} {e : Int}, OkE n false e c → e ≤ n → e ≤ n + gain c
  | [], e, _, he => by rw [gain]; omega
  | z :: c, e, ⟨h1, h2, h3, h4, h5, h6, h7⟩, he => by
    have h6 := h6 rfl
    have := gain_low h7 h3
    rw [gain]
    omega
theorem moved_high {n : Int} (y : Ed) : ∀ {c : List Ed} {f : Bool} {e : Int}, OkE n f e c → (∀ x ∈ c, Apart x y) → 0 ≤ y.2.1 → y.1 + y.2.1 ≤ n → y.1 + y.2.1 + movedE c y.1 ≤ n + gain c
  | [], f, e, _, _, _, he => by rw [movedE, gain]; omega
  | z :: c, f, e, ⟨h1, h2, h3, h4, h5, h6, h7⟩, ha, hy, he => by
    have hz := ha z (by simp)
    rw [movedE, gain]
    by_cases hlt : z.1 < y.1
    · rw [if_pos hlt]
      have := moved_high y h7 (fun x hx => ha x (by simp [hx])) hy he
      omega
    · rw [if_neg hlt, moved_zero y.1 h7 (by omega)]
      have := gain_low h7 h3
      rcases hz with h | h <;> omega
/-- Two edits of the other script stay in order, and apart. -/
theorem moved_order {n : Int} (y z : Ed) (hyz : y.1 + y.2.1 < z.1) (hy : 0 ≤ y.2.1) (hz0 : 0 ≤ z.2.1) : ∀ {c : List Ed} {f : Bool} {e : Int}, OkE n f e c → (∀ x ∈ c, Apart x y) → (∀ x ∈ c, Apart x z) → y.1 + y.2.1 + movedE c y.1 < z.1 + movedE c z.1
  | [], f, e, _, _, _ => by rw [movedE, movedE]; omega
  | x :: c, f, e, ⟨h1, h2, h3, h4, h5, h6, h7⟩, ha, hb => by
    have hx := ha x (by simp)
    by_cases hlt : x.1 < y.1
    · rw [movedE, movedE, if_pos hlt, if_pos (by omega)]
      have := moved_order y z hyz hy hz0 h7 (fun w hw => ha w (by simp [hw])) (fun w hw => hb w (by simp [hw]))
      omega
    · have hyx : y.1 + y.2.1 < x.1 := by rcases hx with h | h <;> omega
      have hok : OkE n false (y.1 + y.2.1) (x :: c) := ⟨h1, h2, h3, h4, h5, fun _ => hyx, h7⟩
      have := moved_low z hok hb hz0 hyz
      have h0 : movedE (x :: c) y.1 = 0 := moved_zero y.1 hok (by omega)
      omega

/-- An edit put into its place. -/
def insE (y : Ed) : List Ed → List Ed
  | [] => [y]
  | x :: c => if y.1 < x.1 then y :: x :: c else if x.1 < y.1 then x :: insE y c else x :: c
theorem ins_app (s : List UInt8) (y : Ed) (hy : 0 ≤ y.2.1) (hy2 : y.1 + y.2.1 ≤ s.length) (hy0 : 0 ≤ y.1) (hk : y.2.2.size ≤ 40) (hne : ¬ (y.2.1 = 0 ∧ y.2.2.size = 0)) : ∀ {c : List Ed}, OkE s.length true 0 c → (∀ x ∈ c, Apart x y) →
    app s 0 (insE y c) = one (y.1 + movedE c y.1, y.2) (app s 0 c) ∧ ∀ {f : Bool} {e : Int}, OkE s.length f e c → (f = false → e < y.1) → OkE s.length f e (insE y c)
  | [], _, _ => by
    refine ⟨?_, fun {f e} h he => ⟨hy0, hy, hy2, hk, hne, he, trivial⟩⟩
    rw [insE, movedE, Int.add_zero]
    exact app_one s y [] ⟨hy0, hy, hy2, hk, hne, (fun h => by cases h), trivial⟩
  | x :: c, h, ha => by
    obtain ⟨h1, h2, h3, h4, h5, h6, h7⟩ := h
    have hx := ha x (by simp)
    rw [insE]
    by_cases hlt : y.1 < x.1
    · have hyx : y.1 + y.2.1 < x.1 := by rcases hx with h | h <;> omega
      rw [if_pos hlt]
      have hok : OkE s.length false (y.1 + y.2.1) (x :: c) := ⟨h1, h2, h3, h4, h5, fun _ => hyx, h7⟩
      refine ⟨?_, fun {f e} h he => ⟨hy0, hy, hy2, hk, hne, he, hok⟩⟩
      rw [moved_zero y.1 hok (by omega), Int.add_zero]
      exact app_one s y (x :: c) ⟨hy0, hy, hy2, hk, hne, (fun h => by cases h), hok⟩
    · rw [if_neg hlt]
      have hxy : x.1 + x.2.1 < y.1 := by rcases hx with h | h <;> omega
      rw [if_pos (by omega)]
      obtain ⟨i1, i2⟩ := ins_app s y hy hy2 hy0 hk hne h7.first (fun w hw => ha w (by simp [hw]))
      have hok := i2 h7 (fun _ => hxy)
      refine ⟨?_, fun {f e} ⟨g1, g2, g3, g4, g5, g6, g7⟩ he => ⟨g1, g2, g3, g4, g5, g6, i2 g7 (fun _ => hxy)⟩⟩
      have hlow := moved_low y h7 (fun w hw => ha w (by simp [hw])) hy hxy
      have hhigh := moved_high y h7 (fun w hw => ha w (by simp [hw])) hy hy2
      have hlen := app_length (e := 0) h7.first (fun _ => rfl) (Nat.zero_le _)
      rw [app_one s x (insE y c) ⟨h1, h2, h3, h4, h5, (fun h => by cases h), hok⟩, i1, app_one s x c ⟨h1, h2, h3, h4, h5, (fun h => by cases h), h7⟩,
        one_comm _ x (y.1 + movedE c y.1, y.2) h1 h2 (by simp only; omega) hy (by simp only; omega), movedE, if_pos (by omega)]
      simp only
      rw [show y.1 + movedE c y.1 + ((x.2.2.size : Int) - x.2.1) = y.1 + ((x.2.2.size : Int) - x.2.1 + movedE c y.1) from by omega]

theorem ins_front (y : Ed) : ∀ {c : List Ed}, (∀ w ∈ c, y.1 < w.1) → insE y c = y :: c
  | [], _ => rfl
  | x :: c, h => by rw [insE, if_pos (h x (by simp))]
theorem ins_mem {n : Int} (y : Ed) : ∀ {c : List Ed} {f : Bool} {e : Int}, OkE n f e c → y ∈ c → insE y c = c
  | [], _, _, _, h => by cases h
  | x :: c, f, e, ⟨h1, h2, h3, h4, h5, h6, h7⟩, h => by
    rw [insE]
    rcases List.mem_cons.1 h with h | h
    · rw [h, if_neg (by omega), if_neg (by omega)]
    · have := h7.from rfl y h
      rw [if_neg (by omega), if_pos (by omega), ins_mem y h7 h]
theorem merge_head (x : Ed) (a : List Ed) : ∀ {b : List Ed}, (∀ w ∈ b, x.1 < w.1) → mergeE (x :: a) b = x :: mergeE a b
  | [], _ => by rw [mergeE_nil_right, mergeE_nil_right]
  | z :: b, h => by rw [mergeE_cons, if_pos (h z (by simp))]
theorem merge_ins {n m : Int} (y : Ed) (b : List Ed) (hb : ∀ w ∈ b, y.1 < w.1) : ∀ {a : List Ed} {f : Bool} {e : Int}, OkE n f e a → mergeE a (y :: b) = insE y (mergeE a b)
  | [], _, _, _ => by rw [mergeE_nil_left, mergeE_nil_left, ins_front y hb]
  | x :: a, f, e, ⟨h1, h2, h3, h4, h5, h6, h7⟩ => by
    rw [mergeE_cons]
    by_cases hlt : x.1 < y.1
    · rw [if_pos hlt, merge_head x a (fun w hw => by have := hb w hw; omega), insE, if_neg (by omega), if_pos hlt, merge_ins (m := m) y b hb h7]
    · rw [if_neg hlt]
      by_cases hgt : y.1 < x.1
      · rw [if_pos hgt, ins_front y]
        intro w hw
        rcases mem_merge _ _ w hw with hw | hw
        · rcases List.mem_cons.1 hw with hw | hw
          · rw [hw]; exact hgt
          · have := h7.from rfl w hw; omega
        · exact hb w hw
      · rw [if_neg hgt, merge_head x a (fun w hw => by have := hb w hw; omega), insE, if_neg hgt, if_neg hlt]
theorem merge_mem : ∀ (a b : List Ed), ∀ z ∈ a, z ∈ mergeE a b
  | [], b, z, h => by cases h
  | x :: a, [], z, h => by rw [mergeE_nil_right]; exact h
  | x :: a, y :: b, z, h => by
    rw [mergeE_cons]
    split
    · rcases List.mem_cons.1 h with h | h
      · rw [h]; simp
      · exact List.mem_cons_of_mem _ (merge_mem a (y :: b) z h)
    · split
      · exact List.mem_cons_of_mem _ (merge_mem (x :: a) b z h)
      · rcases List.mem_cons.1 h with h | h
        · rw [h]; simp
        · exact List.mem_cons_of_mem _ (merge_mem a b z h)
termination_by a b => a.length + b.length
theorem moved_merge (p : Int) : ∀ (a b : List Ed), (∀ w ∈ b, ¬ w.1 < p) → movedE (mergeE a b) p = movedE a p
  | [], b, h => by
    rw [mergeE_nil_left, movedE]
    induction b with
    | nil => rfl
    | cons z b ih => rw [movedE, if_neg (h z (by simp)), ih (fun w hw => h w (by simp [hw]))]; rfl
  | x :: a, [], h => by rw [mergeE_nil_right]
  | x :: a, y :: b, h => by
    rw [mergeE_cons]
    split
    · rw [movedE, moved_merge p a (y :: b) h, movedE]
    · split
      · rw [movedE, if_neg (h y (by simp)), moved_merge p (x :: a) b (fun w hw => h w (by simp [hw])), Int.zero_add]
      · rw [movedE, moved_merge p a b (fun w hw => h w (by simp [hw])), movedE]
termination_by a b => a.length + b.length
theorem merge_comm {n : Int} : ∀ (a b : List Ed) {f g : Bool} {e d : Int}, OkE n f e a → OkE n g d b → (∀ x ∈ a, ∀ y ∈ b, ¬ Clash x y) → mergeE a b = mergeE b a
  | [], b, _, _, _, _, _, _, _ => by rw [mergeE_nil_left, mergeE_nil_right]
  | x :: a, [], _, _, _, _, _, _, _ => by rw [mergeE_nil_left, mergeE_nil_right]
  | x :: a, y :: b, f, g, e, d, ha, hb, h => by
    have ha' := ha
    have hb' := hb
    obtain ⟨h1, h2, h3, h4, h5, h6, h7⟩ := ha
    obtain ⟨g1, g2, g3, g4, g5, g6, g7⟩ := hb
    rw [mergeE_cons, mergeE_cons]
    by_cases hlt : x.1 < y.1
    · rw [if_pos hlt, if_neg (by omega), if_pos hlt, merge_comm a (y :: b) h7 hb' (fun u hu v hv => h u (by simp [hu]) v hv)]
    · rw [if_neg hlt]
      by_cases hgt : y.1 < x.1
      · rw [if_pos hgt, if_pos hgt, merge_comm (x :: a) b ha' g7 (fun u hu v hv => h u hu v (by simp [hv]))]
      · have hxy : x = y := by
          by_cases e : x = y
          · exact e
          · exact absurd ⟨e, by omega, by omega⟩ (h x (by simp) y (by simp))
        rw [if_neg hgt, if_neg hgt, if_neg hlt, merge_comm a b h7 g7 (fun u hu v hv => h u (by simp [hu]) v (by simp [hv])), hxy]
termination_by a b => a.length + b.length

/-- The one script, and behind it what is left of the other one. -/
theorem meets_all (s : List UInt8) (a : List Ed) (ha : OkE s.length true 0 a) : ∀ {b : List Ed} {f : Bool} {e : Int}, OkE s.length f e b → (∀ x ∈ a, ∀ y ∈ b, ¬ Clash x y) →
    OkE s.length true 0 (mergeE a b) ∧ (∀ (g : Bool) (d : Int), (g = false → ∀ y ∈ b, y ∉ a → d < y.1 + movedE a y.1) → OkE (app s 0 a).length g d (behindE a b)) ∧ app (app s 0 a) 0 (behindE a b) = app s 0 (mergeE a b)
  | [], f, e, _, _ => by
    rw [mergeE_nil_right, behindE, app, List.drop_zero]
    exact ⟨ha, fun g d _ => trivial, rfl⟩
  | y :: b, f, e, ⟨h1, h2, h3, h4, h5, h6, h7⟩, hc => by
    obtain ⟨i1, i2, i3⟩ := meets_all s a ha h7 (fun x hx z hz => hc x hx z (by simp [hz]))
    have hby : ∀ w ∈ b, y.1 + y.2.1 < w.1 := fun w hw => h7.from rfl w hw
    have hmi : mergeE a (y :: b) = insE y (mergeE a b) := merge_ins (m := 0) y b (fun w hw => by have := hby w hw; omega) ha
    rw [hmi, behindE]
    by_cases hya : y ∈ a
    · rw [if_pos hya, ins_mem y i1 (merge_mem a b y hya)]
      exact ⟨i1, fun g d hd => i2 g d (fun hg z hz hza => hd hg z (by simp [hz]) hza), i3⟩
    · rw [if_neg hya]
      have hap : ∀ z : Ed, z ∉ a → (∀ x ∈ a, ¬ Clash x z) → ∀ x ∈ a, Apart x z := fun z hz hcl x hx => apart_of (hcl x hx) (fun e => hz (e ▸ hx))
      have hay := hap y hya (fun x hx => hc x hx y (by simp))
      have hcy : ∀ x ∈ mergeE a b, Apart x y := fun x hx => by
        rcases mem_merge a b x hx with hx | hx
        · exact hay x hx
        · exact .inr (hby x hx)
      obtain ⟨j1, j2⟩ := ins_app s y h2 h3 h1 h4 h5 i1 hcy
      have hmm : movedE (mergeE a b) y.1 = movedE a y.1 := moved_merge y.1 a b (fun w hw => by have := hby w hw; omega)
      have hlen := app_length (e := 0) ha (fun _ => rfl) (Nat.zero_le _)
      have hlow := moved_low y ha.below hay h2 (show (-1 : Int) < y.1 by omega)
      have hhigh := moved_high y ha hay h2 h3
      have hok : ∀ (g : Bool) (d : Int), (g = false → ∀ z ∈ y :: b, z ∉ a → d < z.1 + movedE a z.1) → OkE (app s 0 a).length g d ((y.1 + movedE a y.1, y.2) :: behindE a b) := fun g d hd =>
        ⟨by simp only; omega, h2, by simp only; omega, h4, h5, fun hg => hd hg y (by simp) hya, i2 false _ (fun _ z hz hza => by
          have hoz := OkE.del h7 z hz
          exact (by have := moved_order y z (hby z hz) h2 hoz ha hay (hap z hza (fun x hx => hc x hx z (by simp [hz]))); simp only; omega))⟩
      refine ⟨j2 i1 (fun h => by cases h), hok, ?_⟩
      rw [app_one _ _ _ (hok true 0 (fun h => by cases h)), i3, j1, hmm]
end Go.Proofs.Ytookbaaicpapnaa
