/- Plain laws of codes: what Check, Sole and Ways answer. -/
import Derived.Test.YtafpcekemlgclaaGreatDoorCodeP
namespace Go.Proofs.YtafpcekemlgclaaGreatDoor
set_option linter.unusedVariables false

def binB (w : Wd) : Bool := w.all fun c => c == 48 || c == 49
theorem binB_iff (w : Wd) : binB w = true ↔ ∀ c ∈ w, c = 48 ∨ c = 49 := by
  unfold binB
  simp
/-- One word's error, behind the words seen. -/
def wordE (seen : List Wd) (w : Wd) : Int := if w = [] then 5 else if 12 < w.length then 2 else if binB w = false then 3 else if w ∈ seen then 10 else 0
def checkW : List Wd → List Wd → Int
  | _, [] => 0
  | seen, w :: r => if wordE seen w ≠ 0 then wordE seen w else checkW (seen ++ [w]) r
def checkC (l : List Wd) : Int := if 12 < l.length then 2 else checkW [] l
theorem wordE_zero {seen : List Wd} {w : Wd} : wordE seen w = 0 ↔ w ≠ [] ∧ w.length ≤ 12 ∧ (∀ c ∈ w, c = 48 ∨ c = 49) ∧ w ∉ seen := by
  unfold wordE
  rw [← binB_iff]
  by_cases h1 : w = []
  · simp [h1]
  by_cases h2 : 12 < w.length
  · rw [if_neg h1, if_pos h2]; constructor
    · intro h; cases h
    · intro h; omega
  by_cases h3 : binB w = true
  · by_cases h4 : w ∈ seen
    · rw [if_neg h1, if_neg h2, if_neg (by simp [h3]), if_pos h4]; constructor
      · intro h; cases h
      · intro h; exact absurd h4 h.2.2.2
    · rw [if_neg h1, if_neg h2, if_neg (by simp [h3]), if_neg h4]
      exact ⟨fun _ => ⟨h1, by omega, h3, h4⟩, fun _ => rfl⟩
  · rw [if_neg h1, if_neg h2, if_pos (by simpa using h3)]; constructor
    · intro h; cases h
    · intro h; exact absurd h.2.2.1 h3
/-- What Check lets in. -/
structure CodeOk (l : List Wd) : Prop where
  few : l.length ≤ 12
  ne : ∀ w ∈ l, w ≠ []
  len : ∀ w ∈ l, w.length ≤ 12
  bin : Bin l
  nodup : l.Nodup
theorem checkW_zero : ∀ (r seen : List Wd), checkW seen r = 0 ↔ (∀ w ∈ r, w ≠ [] ∧ w.length ≤ 12 ∧ ∀ c ∈ w, c = 48 ∨ c = 49) ∧ r.Nodup ∧ ∀ w ∈ r, w ∉ seen
  | [], seen => by simp [checkW]
  | w :: r, seen => by
    rw [checkW]
    by_cases h : wordE seen w = 0
    · rw [if_neg (fun h' => h' h), checkW_zero r]
      obtain ⟨h1, h2, h3, h4⟩ := wordE_zero.1 h
      constructor
      · rintro ⟨a, b, c⟩
        refine ⟨fun v hv => ?_, List.nodup_cons.2 ⟨fun hw => c w hw (by simp), b⟩, fun v hv => ?_⟩
        · rcases List.mem_cons.1 hv with rfl | hv
          · exact ⟨h1, h2, h3⟩
          · exact a v hv
        · rcases List.mem_cons.1 hv with rfl | hv
          · exact h4
          · exact fun hs => c v hv (by simp [hs])
      · rintro ⟨a, b, c⟩
        obtain ⟨b1, b2⟩ := List.nodup_cons.1 b
        refine ⟨fun v hv => a v (by simp [hv]), b2, fun v hv hs => ?_⟩
        rcases List.mem_append.1 hs with hs | hs
        · exact c v (by simp [hv]) hs
        · rw [List.mem_singleton.1 hs] at hv; exact b1 hv
    · rw [if_pos h]
      constructor
      · intro h'; exact absurd h' h
      · rintro ⟨a, b, c⟩
        obtain ⟨a1, a2, a3⟩ := a w (by simp)
        exact absurd (wordE_zero.2 ⟨a1, a2, a3, c w (by simp)⟩) h
theorem checkC_zero (l : List Wd) : checkC l = 0 ↔ CodeOk l := by
  unfold checkC
  by_cases h : 12 < l.length
  · rw [if_pos h]
    constructor
    · intro h; cases h
    · intro h'; have := h'.few; omega
  · rw [if_neg h, checkW_zero]
    constructor
    · rintro ⟨a, b, _⟩
      exact ⟨by omega, fun w hw => (a w hw).1, fun w hw => (a w hw).2.1, fun w hw => (a w hw).2.2, b⟩
    · rintro ⟨a, b, c, d, e⟩
      exact ⟨fun w hw => ⟨b w hw, c w hw, d w hw⟩, e, by simp⟩
theorem checkW_snoc : ∀ (a : List Wd) (seen : List Wd) (w : Wd) (r : List Wd), checkW seen a = 0 → wordE (seen ++ a) w ≠ 0 → checkW seen (a ++ w :: r) = wordE (seen ++ a) w
  | [], seen, w, r, _, h => by
    rw [List.append_nil] at h ⊢
    rw [List.nil_append, checkW, if_pos h]
  | x :: a, seen, w, r, h0, h => by
    rw [checkW] at h0
    by_cases hx : wordE seen x = 0
    · rw [if_neg (fun h' => h' hx)] at h0
      rw [List.cons_append, checkW, if_neg (fun h' => h' hx), checkW_snoc a _ w r h0 (by simpa using h)]
      simp
    · rw [if_pos hx] at h0; exact absurd h0 hx
theorem checkW_more : ∀ (a : List Wd) (seen : List Wd) (w : Wd), checkW seen a = 0 → wordE (seen ++ a) w = 0 → checkW seen (a ++ [w]) = 0
  | [], seen, w, _, h => by
    rw [List.append_nil] at h
    rw [List.nil_append, checkW, if_neg (fun h' => h' h)]; rfl
  | x :: a, seen, w, h0, h => by
    rw [checkW] at h0
    by_cases hx : wordE seen x = 0
    · rw [if_neg (fun h' => h' hx)] at h0
      rw [List.cons_append, checkW, if_neg (fun h' => h' hx)]
      exact checkW_more a _ w h0 (by simpa using h)
    · rw [if_pos hx] at h0; exact absurd h0 hx
/-- The error is the same for words that are changed alike. -/
theorem checkW_map (f : Wd → Wd) (h0 : ∀ w, (f w = [] ↔ w = [])) (hl : ∀ w, (f w).length = w.length) (hb : ∀ w, binB (f w) = binB w) (hi : ∀ v w, f v = f w → v = w) : ∀ (r seen : List Wd), checkW (seen.map f) (r.map f) = checkW seen r
  | [], seen => rfl
  | w :: r, seen => by
    have e : wordE (seen.map f) (f w) = wordE seen w := by
      unfold wordE
      have hm : f w ∈ seen.map f ↔ w ∈ seen := by
        constructor
        · intro h
          obtain ⟨v, hv, e⟩ := List.mem_map.1 h
          rw [← hi v w e]; exact hv
        · exact fun h => List.mem_map.2 ⟨w, h, rfl⟩
      simp only [h0, hl, hb, hm]
    rw [List.map_cons, checkW, checkW, e, ← List.map_singleton, ← List.map_append, checkW_map f h0 hl hb hi r]

/-- What Sole has found so far: 'seen' is 'done' and what is to do. -/
structure Seen (l done todo : List Wd) : Prop where
  dang : ∀ s ∈ done ++ todo, Dang l s
  nodup : (done ++ todo).Nodup
  no : ∀ s ∈ done, s ∉ l
  into : ∀ s ∈ done, ∀ w ∈ l, ∀ t, t ≠ [] → w = s ++ t → t ∈ done ++ todo
  past : ∀ s ∈ done, ∀ w ∈ l, ∀ t, t ≠ [] → s = w ++ t → t ∈ done ++ todo
def AllBase (l S : List Wd) : Prop := ∀ u ∈ l, ∀ v ∈ l, ∀ s, s ≠ [] → v = u ++ s → s ∈ S
theorem Seen.ud {l done : List Wd} (h : Seen l done []) (hb : AllBase l done) (h0 : ∀ w ∈ l, w ≠ []) : UD l := by
  refine ud_of_no h0 fun s hs => ?_
  have : ∀ s, Dang l s → s ∈ done := fun s hs => by
    induction hs with
    | base u v s hu hv h' hs => exact hb u hu v hv s hs h'
    | into s w t hd hw h' ht ih => simpa using h.into s ih w hw t ht h'
    | past s w t hd hw h' ht ih => simpa using h.past s ih w hw t ht h'
  exact h.no s (this s hs)
theorem not_ud {l : List Wd} {s : Wd} (h : Dang l s) (hs : s ∈ l) : ¬ UD l := fun hu => no_of_ud hu s h hs
def tailsOf (l : List Wd) : List Wd := l.flatMap fun w => (List.range (w.length + 1)).map fun k => w.drop k
theorem Dang.mem_tails {l : List Wd} {s : Wd} (h : Dang l s) : s ∈ tailsOf l := by
  obtain ⟨w, hw, p, rfl⟩ := h.tail_of
  exact List.mem_flatMap.2 ⟨_, hw, List.mem_map.2 ⟨p.length, List.mem_range.2 (by simp; omega), by simp⟩⟩
theorem tails_len {l : List Wd} (hl : ∀ w ∈ l, w.length ≤ 12) : (tailsOf l).length ≤ 13 * l.length := by
  unfold tailsOf
  induction l with
  | nil => simp
  | cons w l ih =>
    have a := ih fun v hv => hl v (by simp [hv])
    have b := hl w (by simp)
    rw [List.flatMap_cons, List.length_append, List.length_map, List.length_range, List.length_cons]
    omega
theorem nodup_le {l m : List Wd} (hn : l.Nodup) (h : ∀ x ∈ l, x ∈ m) : l.length ≤ m.length := by
  induction l generalizing m with
  | nil => simp
  | cons a l ih =>
    obtain ⟨ha, hn⟩ := List.nodup_cons.1 hn
    have hm := h a (by simp)
    have := ih (m := m.erase a) hn fun x hx => (List.mem_erase_of_ne (by rintro rfl; exact ha hx)).2 (h x (by simp [hx]))
    rw [List.length_erase_of_mem hm] at this
    have : 0 < m.length := List.length_pos_of_mem hm
    simp only [List.length_cons]; omega
theorem Seen.few {l done todo : List Wd} (h : Seen l done todo) (hl : ∀ w ∈ l, w.length ≤ 12) (hf : l.length ≤ 12) : (done ++ todo).length ≤ 156 := by
  have a := nodup_le h.nodup fun x hx => (h.dang x hx).mem_tails
  have b := tails_len hl
  omega
/-- How words are added: once each. -/
def addW (S : List Wd) (s : Wd) : List Wd := if s ∈ S then S else S ++ [s]
theorem mem_addW {S : List Wd} {s t : Wd} : t ∈ addW S s ↔ t ∈ S ∨ t = s := by
  unfold addW
  by_cases h : s ∈ S
  · rw [if_pos h]; exact ⟨.inl, fun h' => h'.elim id fun e => e ▸ h⟩
  · rw [if_neg h]; simp
theorem addW_nodup {S : List Wd} {s : Wd} (h : S.Nodup) : (addW S s).Nodup := by
  unfold addW
  by_cases hs : s ∈ S
  · rw [if_pos hs]; exact h
  · rw [if_neg hs]
    refine List.nodup_append.2 ⟨h, by simp, fun a ha b hb e => ?_⟩
    rw [List.mem_singleton.1 hb] at e
    exact hs (e ▸ ha)

end Go.Proofs.YtafpcekemlgclaaGreatDoor
