import Derived.Test.YtaogegpfapfchaaGreatDoorDeskM11
import Derived.Test.YtaogegpfapfchaaGreatDoorDeskM08
import Derived.Test.YtaogegpfapfchaaGreatDoorDeskM01
/- Several texts in one: XLeaves XLeafPack XLev XLcs. -/
/- The walk of the laws' helper leaves. -/
namespace Go.Proofs.YtaogegpfapfchaaGreatDoor
open Go.RowKit
set_option linter.unusedVariables false

theorem edsAt_new (w : World) (a d : Int) (ins : ByteArray) (c : Nat) (h : (-9223372036854775808 ≤ a ∧ a ≤ 9223372036854775807) ∧ (-9223372036854775808 ≤ d ∧ d ≤ 9223372036854775807) ∧ ins.size ≤ 140737488351232) :
    EdsAt (w.alloc (Obj.cells #[.int .i64 a, .int .i64 d, .string ins] 73)) (some ⟨w.heap.size, 0, none⟩) 1 c [(a, d, ins)] :=
  ⟨rfl, by decide, fun x hx => by rw [List.mem_singleton.1 hx]; exact h, Reads.made w #[.int .i64 a, .int .i64 d, .string ins] 73 1 3 rfl⟩
def lvH1 : LH := [(98 :: (ByteArray.mk #[97, 98]).data.toList, ⟨#[97, 98]⟩)]
def lvH2 : LH := lvH1 ++ [(101 :: writeL [(2, 0, ⟨#[99]⟩)], ⟨#[97, 98, 99]⟩)]
theorem lv1 : leafE ⟨#[97, 98]⟩ lvH1 [(2, 0, ⟨#[99]⟩)] = 0 ∧ leafT ⟨#[97, 98]⟩ lvH1 [(2, 0, ⟨#[99]⟩)] = ⟨#[97, 98, 99]⟩ := by decide +kernel
theorem lv2 : leafH ⟨#[97, 98]⟩ lvH1 [(2, 0, ⟨#[99]⟩)] = lvH2 := by
  unfold leafH
  rw [if_pos lv1.1, lv1.2]; rfl
theorem lv3 : leafE ⟨#[97, 98, 99]⟩ lvH2 [(0, 1, ⟨#[]⟩)] = 0 ∧ leafT ⟨#[97, 98, 99]⟩ lvH2 [(0, 1, ⟨#[]⟩)] = ⟨#[98, 99]⟩ := by decide +kernel
def lvH3 : LH := lvH2 ++ [(101 :: writeL [(0, 1, ⟨#[]⟩)], ⟨#[98, 99]⟩)]
theorem lv4 : leafH ⟨#[97, 98, 99]⟩ lvH2 [(0, 1, ⟨#[]⟩)] = lvH3 := by
  unfold leafH
  rw [if_pos lv3.1, lv3.2]; rfl
theorem lv5 : lvH3.take lvH2.length = lvH2 := rfl

end Go.Proofs.YtaogegpfapfchaaGreatDoor

/- The walk of a leaf's Pack. -/
namespace Go.Proofs.YtaogegpfapfchaaGreatDoor
open Go.RowKit
set_option linter.unusedVariables false

theorem Only2.join {a b : Nat} {w w' w'' : World} (h : Only2 a a w w') (k : Only2 a b w' w'') (hb : w.heap.size ≤ b) : Only2 a a w w'' :=
  ⟨k.os.trans h.os, k.tape.trans h.tape, k.output.trans h.output, Nat.le_trans h.size k.size, fun i hi h1 _ => (k.block i (Nat.lt_of_lt_of_le hi h.size) h1 (by omega)).trans (h.block i hi h1 h1)⟩
theorem whole_self {H : LH} {j : Nat} (hj : j ≤ H.length) : WholeTo H ((framesL ((recs H).take j)).length) j := by
  obtain ⟨i, hi⟩ := whole_to H (framesL ((recs H).take j)).length
  obtain rfl := hi.at_ hj
  exact hi
/-- A crash of the log that keeps nothing that is not safe. -/
theorem logCrash0 (gl g j : Nat) (t : ByteArray) (H : LH) (w w0 : World) (h : LeafAt w0 gl g t H j) (hl : LogAt w g (lb (framesL (recs H))) (framesL ((recs H).take j)).length) :
    Calls Tryz.prog 102 #[.pointer (some ⟨g, 0, none⟩), .int .i64 0] w fun e w' => e = .returned (.int .i64 0) ∧ LogAt w' g (lb (framesL (recs (H.take j)))) (framesL (recs (H.take j))).length ∧ Only g w w' := by
  obtain ⟨hi1, hi2, hi3⟩ := whole_self h.jle
  have hle := frames_take_le (recs H) j
  have hsc : Scans ((lb (framesL (recs H))).data.toList.take ((framesL ((recs H).take j)).length + 0)) ((recs H).take j) (framesL ((recs H).take j)).length := by
    have := scans_frames (recs H) [] ((framesL ((recs H).take j)).length + 0) j (hist_len h.hist) (by omega) (by rw [recs_len]; exact hi1) (by omega) (fun g => by have := hi3 (by rw [recs_len] at g; exact g); omega)
    rw [lb_list]
    simpa using this
  have := crash_ok g _ 0 (lb (framesL (recs H))) h.disk (by rw [lb_dsize]; omega) _ _ hsc w hl
  rw [← recs_take] at this
  exact this
theorem take_disk {H : LH} {w : World} {gl g j : Nat} {t : ByteArray} (h : LeafAt w gl g t H j) : (framesL (recs (H.take j))).length ≤ 4000 := by
  have := frames_take_le (recs H) j
  rw [recs_take]; have := h.disk; omega
theorem take_leaf {H : LH} {w0 w : World} {gl g j : Nat} {t : ByteArray} (h : LeafAt w0 gl g t H j) (hb : Blk w gl 140 #[.string (endT ⟨#[]⟩ (H.take j)), .pointer (some ⟨g, 0, none⟩)]) (hl : LogAt w g (lb (framesL (recs (H.take j)))) (framesL (recs (H.take j))).length) :
    LeafAt w gl g (endT ⟨#[]⟩ (H.take j)) (H.take j) j := by
  have hlen : (H.take j).length = j := by rw [List.length_take]; have := h.jle; omega
  have e1 : (recs (H.take j)).take j = recs (H.take j) := by
    rw [List.take_of_length_le]; rw [recs_len, hlen]; exact Nat.le_refl _
  exact ⟨hb, by rw [e1]; exact hl, hist_take h.hist j, rfl, by rw [hlen]; exact Nat.le_refl _, take_disk h⟩

set_option maxRecDepth 100000 in
set_option maxHeartbeats 2000000 in
theorem leafPack_stay (gl g j : Nat) (t : ByteArray) (H : LH) (st : Int) (hst : st = 1 ∨ st = 2) (w : World) (h : LeafAt w gl g t H j) :
    Calls Tryz.prog 101 #[.pointer (some ⟨gl, 0, none⟩), .int .i64 st] w fun e w' => e = .returned (.int .i64 0) ∧ LeafAt w' gl g (endT ⟨#[]⟩ (H.take j)) (H.take j) j ∧ Only2 gl g w w' := by
  have ht200 := h.tsize
  have hbs : ((⟨#[98]⟩ : ByteArray) ++ t).size = t.size + 1 := by rw [ByteArray.size_append]; show 1 + t.size = _; omega
  have hca : ∀ w, (Op.stringOp .add ⟨#[98]⟩ t).run Tryz.prog w = .ok (.string ((⟨#[98]⟩ : ByteArray) ++ t)) w := fun w => run_string_add_sum w _ _ (by show 1 + t.size ≤ _; omega)
  have Hap := Lib.hid (fun g w h => append_ok g 0 ⟨#[]⟩ ((⟨#[98]⟩ : ByteArray) ++ t) (by omega) (by show 0 + _ ≤ _; omega) w h)
  have Hcr := Lib.hid (fun w hl => logCrash0 gl g j t H w _ h hl)
  have Hrd := Lib.hid (fun w hb hl => leafRead gl g (framesL (recs (H.take j))).length t (H.take j) (hist_take h.hist j) (take_disk h) w h.ne hb hl)
  have Hlf := Lib.hid h
  have hlt := h.lt
  have hne := h.ne
  clear hbs
  rcases hst with rfl | rfl
  all_goals
    go_enter Tryz.func101, Tryz.ntmps101
    go_wp2_with fail
    refine (new_any _).mono ?_
    rintro e w1 ⟨rfl, hl1, hb1⟩
    have h1 := h.after hb1
    have c0 := h1.c0
    go_wp2_with fail
    refine (Hap.out _ w1 hl1).mono ?_
    rintro e w2 ⟨rfl, hl2, ho2⟩
    have h2 : LeafAt w2 gl g t H j := h1.keep (ho2.block gl h1.lt.1 (fun e => by injection e with e; omega)) (ho2.block g h1.lt.2 (fun e => by injection e with e; omega))
    have c1 := h2.c1
    have hb2 : Below w.heap.size w w2 := Only.below hb1 ho2 (Nat.le_refl _) (by have := h1.lt; have := Blk.lt hl1; omega)
    clear c0 h1 hl1 hb1 hl2 ho2
    go_wp2_with fail
    refine (Hcr.out w2 h2.log).mono ?_
    rintro e w3 ⟨rfl, hl3, ho3⟩
    have hbk3 : Blk w3 gl 140 #[.string t, .pointer (some ⟨g, 0, none⟩)] := (ho3.block gl h2.lt.1 (fun e => hne (by injection e))).trans h2.blk
    go_wp2_with fail
    refine (Hrd.out w3 hbk3 hl3).mono ?_
    rintro e w4 ⟨rfl, hbk4, hl4, ho4⟩
    go_wp2
    go_ret
    exact ⟨rfl, take_leaf Hlf.out hbk4 hl4, (Only2.of_below hb2).trans ((Only2.of_only ho3).trans ho4)⟩

set_option maxRecDepth 100000 in
set_option maxHeartbeats 2000000 in
theorem leafPack_new (gl g j : Nat) (t : ByteArray) (H : LH) (st : Int) (hst : st = 0 ∨ st = 3) (w : World) (h : LeafAt w gl g t H j) :
    Calls Tryz.prog 101 #[.pointer (some ⟨gl, 0, none⟩), .int .i64 st] w fun e w' => e = .returned (.int .i64 0) ∧ ∃ g', LeafAt w' gl g' t [(98 :: t.data.toList, t)] 1 ∧ w.heap.size ≤ g' ∧ Only2 gl gl w w' := by
  have ht200 := h.tsize
  have hbs : ((⟨#[98]⟩ : ByteArray) ++ t).size = t.size + 1 := by rw [ByteArray.size_append]; show 1 + t.size = _; omega
  have hca : ∀ w, (Op.stringOp .add ⟨#[98]⟩ t).run Tryz.prog w = .ok (.string ((⟨#[98]⟩ : ByteArray) ++ t)) w := fun w => run_string_add_sum w _ _ (by show 1 + t.size ≤ _; omega)
  have hap := (fun g w h => append_ok g 0 ⟨#[]⟩ ((⟨#[98]⟩ : ByteArray) ++ t) (by omega) (by show 0 + _ ≤ _; omega) w h)
  have hbl := app98 98 t
  have hd : ((⟨#[]⟩ : ByteArray) ++ lb (frameL ((⟨#[98]⟩ : ByteArray) ++ t).data.toList)) = lb (framesL (recs [(98 :: t.data.toList, t)])) := ba_ext (by
    rw [list_app, lb_list, lb_list, hbl, base_frames]; rfl)
  rw [hd] at hap
  have Hap := Lib.hid hap
  have hlen := base_len t
  have hnew : ∀ w n, Blk w gl 140 #[.string t, .pointer (some ⟨n, 0, none⟩)] → LogAt w n (lb (framesL (recs [(98 :: t.data.toList, t)]))) (framesL (recs [(98 :: t.data.toList, t)])).length → LeafAt w gl n t [(98 :: t.data.toList, t)] 1 := fun w n h1 h2 => ⟨h1, h2, ⟨LStep.base t ht200, trivial⟩, rfl, Nat.le_refl _, by rw [hlen]; omega⟩
  have Hnew := Lib.hid hnew
  have Hcr := Lib.hid (fun n w h => logCrash0 gl n 1 t [(98 :: t.data.toList, t)] w w h (LeafAt.log h))
  have Hrd := Lib.hid (fun n w (_ : True) hb hl hne => leafRead gl n (framesL (recs [(98 :: t.data.toList, t)])).length t [(98 :: t.data.toList, t)] ⟨LStep.base t ht200, trivial⟩ (by rw [hlen]; omega) w hne hb hl)
  have hlt := h.lt
  have hne := h.ne
  clear hbs hap hd hlen hnew hbl
  rcases hst with rfl | rfl
  all_goals
    go_enter Tryz.func101, Tryz.ntmps101
    go_wp2_with fail
    refine (new_any _).mono ?_
    rintro e w1 ⟨rfl, hl1, hb1⟩
    have h1 := h.after hb1
    have c0 := h1.c0
    obtain ⟨n, hn⟩ : ∃ n, w.heap.size = n := ⟨_, rfl⟩
    have Hn := Lib.hid hn
    have hgn : gl ≠ n := by omega
    rw [hn] at hl1 hb1
    rw [hn]
    clear hn
    go_wp2_with fail
    refine (Hap.out _ w1 hl1).mono ?_
    rintro e w2 ⟨rfl, hl2, ho2⟩
    have h2 : LeafAt w2 gl g t H j := h1.keep (ho2.block gl h1.lt.1 (fun e => by injection e with e; omega)) (ho2.block g h1.lt.2 (fun e => by injection e with e; have := Hn.out; omega))
    have hb2 : Below n w w2 := Only.below hb1 ho2 (Nat.le_refl _) (by have := h1.lt; have := Blk.lt hl1; omega)
    clear c0 h1 hl1 hb1 ho2
    go_wp2_with fail
    refine (sync_any _ _ _ w2 hl2).mono ?_
    rintro e w3 ⟨rfl, hl3, ho3⟩
    rw [lb_dsize] at hl3
    have hbk3 : Blk w3 gl 140 #[.string t, .pointer (some ⟨g, 0, none⟩)] := (ho3.block gl h2.lt.1 (fun e => by injection e with e; omega)).trans h2.blk
    have hb3 : Below n w w3 := Only.below hb2 ho3 (Nat.le_refl _) (by have := Blk.lt hl2; omega)
    clear h2 hl2 ho3
    have c1 : w3.cell? ⟨gl, 1, none⟩ = some (.pointer (some ⟨g, 0, none⟩)) := Blk.cell hbk3 1
    have f1 := Blk.frozen hbk3 1
    have hbk4 : Blk (w3.setCell ⟨gl, 1, none⟩ (.pointer (some ⟨n, 0, none⟩))) gl 140 #[.string t, .pointer (some ⟨n, 0, none⟩)] := Blk.set_ hbk3 1 (.pointer (some ⟨n, 0, none⟩))
    have hl4 : LogAt (w3.setCell ⟨gl, 1, none⟩ (.pointer (some ⟨n, 0, none⟩))) n (lb (framesL (recs [(98 :: t.data.toList, t)]))) (framesL (recs [(98 :: t.data.toList, t)])).length := Blk.far hl3 (fun e => hgn e.symm) _
    have ho4 : Only2 gl gl w (w3.setCell ⟨gl, 1, none⟩ (.pointer (some ⟨n, 0, none⟩))) := Only2.trans (Only2.of_below (by rw [Hn.out]; exact hb3)) (Only2.set 1 (.pointer (some ⟨n, 0, none⟩)))
    have hn : w.heap.size ≤ n := by rw [Hn.out]; exact Nat.le_refl _
    have hsz4 : n < (w3.setCell ⟨gl, 1, none⟩ (.pointer (some ⟨n, 0, none⟩))).heap.size := Blk.lt hl4
    go_wp2_with fail
  · go_ret
    exact ⟨rfl, n, Hnew.out _ _ hbk4 hl4, hn, ho4⟩
  · refine (Hcr.out n _ (Hnew.out _ _ hbk4 hl4)).mono ?_
    rintro e w5 ⟨rfl, hl5, ho5⟩
    have hbk5 : Blk w5 gl 140 #[.string t, .pointer (some ⟨n, 0, none⟩)] := (ho5.block gl (Blk.lt hbk4) (fun e => by injection e with e; omega)).trans hbk4
    have ho5' : Only2 gl gl w w5 := ho4.join (b := n) (Only2.of_only ho5) hn
    go_wp2_with fail
    refine (Hrd.out n w5 True.intro hbk5 hl5 hgn).mono ?_
    rintro e w6 ⟨rfl, hbk6, hl6, ho6⟩
    go_wp2
    go_ret
    exact ⟨rfl, n, Hnew.out _ _ hbk6 hl6, hn, ho5'.join ho6 hn⟩
end Go.Proofs.YtaogegpfapfchaaGreatDoor

/- Plain: the edit distance of two lists (Levenshtein), by its alignments; it is a metric, and what else the laws ask of it. -/
namespace Go.Proofs.YtaogegpfapfchaaGreatDoor

section
variable {α : Type} [DecidableEq α]

def ne1 (x y : α) : Nat := if x = y then 0 else 1

/-- The distance, by recursion. -/
def levRow (x : α) (f : List α → Nat) (n : Nat) : List α → Nat
  | [] => n
  | y :: b => min (f b + ne1 x y) (min (f (y :: b)) (levRow x f n b) + 1)
def lev : List α → List α → Nat
  | [], b => b.length
  | x :: a, b => levRow x (lev a) (a.length + 1) b

/-- An alignment of two lists, of this cost. -/
def step1 : Option α × Option α → Nat
  | (some x, some y) => ne1 x y
  | (some _, none) => 1
  | (none, some _) => 1
  | (none, none) => 0
def cost1 : List (Option α × Option α) → Nat
  | [] => 0
  | p :: s => cost1 s + step1 p
def Al (a b : List α) (n : Nat) : Prop := ∃ s : List (Option α × Option α), s.filterMap Prod.fst = a ∧ s.filterMap Prod.snd = b ∧ cost1 s = n
theorem Al.nil : Al ([] : List α) [] 0 := ⟨[], rfl, rfl, rfl⟩
theorem Al.both (x y : α) {a b : List α} {n : Nat} (h : Al a b n) : Al (x :: a) (y :: b) (n + ne1 x y) := by
  obtain ⟨s, h1, h2, h3⟩ := h
  exact ⟨(some x, some y) :: s, by simp [h1], by simp [h2], by simp [cost1, step1, h3]⟩
theorem Al.left (x : α) {a b : List α} {n : Nat} (h : Al a b n) : Al (x :: a) b (n + 1) := by
  obtain ⟨s, h1, h2, h3⟩ := h
  exact ⟨(some x, none) :: s, by simp [h1], by simp [h2], by simp [cost1, step1, h3]⟩
theorem Al.right (y : α) {a b : List α} {n : Nat} (h : Al a b n) : Al a (y :: b) (n + 1) := by
  obtain ⟨s, h1, h2, h3⟩ := h
  exact ⟨(none, some y) :: s, by simp [h1], by simp [h2], by simp [cost1, step1, h3]⟩
theorem Al.ind {motive : ∀ (a b : List α) (n : Nat), Al a b n → Prop} (nil : motive [] [] 0 Al.nil)
    (both : ∀ (x y : α) {a b : List α} {n : Nat} (h : Al a b n), motive a b n h → motive (x :: a) (y :: b) (n + ne1 x y) (h.both x y))
    (left : ∀ (x : α) {a b : List α} {n : Nat} (h : Al a b n), motive a b n h → motive (x :: a) b (n + 1) (h.left x))
    (right : ∀ (y : α) {a b : List α} {n : Nat} (h : Al a b n), motive a b n h → motive a (y :: b) (n + 1) (h.right y))
    {a b : List α} {n : Nat} (h : Al a b n) : motive a b n h := by
  have key : ∀ (s : List (Option α × Option α)), motive (s.filterMap Prod.fst) (s.filterMap Prod.snd) (cost1 s) ⟨s, rfl, rfl, rfl⟩ := by
    intro s
    induction s with
    | nil => exact nil
    | cons p s ih =>
      obtain ⟨o, q⟩ := p
      cases o with
      | none => cases q with
        | none => exact ih
        | some y => exact right y _ ih
      | some x => cases q with
        | none => exact left x _ ih
        | some y => exact both x y _ ih
  obtain ⟨s, rfl, rfl, rfl⟩ := h
  exact key s

theorem Al.cast {a b : List α} {n m : Nat} (h : Al a b n) (e : n = m) : Al a b m := e ▸ h
theorem Al.all_left : ∀ a : List α, Al a [] a.length
  | [] => .nil
  | x :: a => .left x (Al.all_left a)
theorem Al.all_right : ∀ b : List α, Al [] b b.length
  | [] => .nil
  | x :: a => .right x (Al.all_right a)

theorem lev_nil_left (b : List α) : lev [] b = b.length := rfl
theorem lev_nil_right (a : List α) : lev a [] = a.length := by cases a <;> rfl
theorem lev_cons (x y : α) (a b : List α) : lev (x :: a) (y :: b) = min (lev a b + ne1 x y) (min (lev a (y :: b)) (lev (x :: a) b) + 1) := rfl

theorem lev_al (a : List α) : ∀ b : List α, Al a b (lev a b) := by
  induction a with
  | nil => intro b; exact Al.all_right b
  | cons x a iha =>
   intro b
   induction b with
   | nil => rw [lev_nil_right]; exact Al.all_left _
   | cons y b ihb =>
    rw [lev_cons]
    have h1 := (iha b).both x y
    have h2 := (iha (y :: b)).left x
    have h3 := ihb.right y
    rcases Nat.le_total (lev a b + ne1 x y) (min (lev a (y :: b)) (lev (x :: a) b) + 1) with h | h
    · exact h1.cast (by omega)
    · rcases Nat.le_total (lev a (y :: b)) (lev (x :: a) b) with h' | h'
      · exact h2.cast (by omega)
      · exact h3.cast (by omega)

theorem Al.nil_left {a b : List α} {n : Nat} (h : Al a b n) : a = [] → b.length ≤ n := by
  induction h using Al.ind with
  | nil => intro _; simp
  | both => intro h; cases h
  | left => intro h; cases h
  | right y _ ih => intro h; have := ih h; simp; omega
theorem Al.nil_right {a b : List α} {n : Nat} (h : Al a b n) : b = [] → a.length ≤ n := by
  induction h using Al.ind with
  | nil => intro _; simp
  | both => intro h; cases h
  | right => intro h; cases h
  | left y _ ih => intro h; have := ih h; simp; omega

theorem lev_left_le (x : α) (a b : List α) : lev (x :: a) b ≤ lev a b + 1 := by
  cases b with
  | nil => rw [lev_nil_right, lev_nil_right]; simp
  | cons y b => rw [lev_cons]; omega
theorem lev_right_le (y : α) (a b : List α) : lev a (y :: b) ≤ lev a b + 1 := by
  cases a with
  | nil => rw [lev_nil_left, lev_nil_left]; simp
  | cons x a => rw [lev_cons]; omega
theorem lev_both_le (x y : α) (a b : List α) : lev (x :: a) (y :: b) ≤ lev a b + ne1 x y := by rw [lev_cons]; omega

theorem Al.lev_le {a b : List α} {n : Nat} (h : Al a b n) : lev a b ≤ n := by
  induction h using Al.ind with
  | nil => rw [lev_nil_left]; simp
  | both x y h ih => exact Nat.le_trans (lev_both_le x y _ _) (by omega)
  | left x h ih => exact Nat.le_trans (lev_left_le x _ _) (by omega)
  | right y h ih => exact Nat.le_trans (lev_right_le y _ _) (by omega)

theorem ne1_comm (x y : α) : ne1 x y = ne1 y x := by
  unfold ne1
  by_cases h : x = y
  · rw [if_pos h, if_pos h.symm]
  · rw [if_neg h, if_neg (Ne.symm h)]
theorem ne1_self (x : α) : ne1 x x = 0 := by simp [ne1]
theorem ne1_le (x y : α) : ne1 x y ≤ 1 := by unfold ne1; split <;> omega
theorem ne1_tri (x y z : α) : ne1 x z ≤ ne1 x y + ne1 y z := by
  unfold ne1
  by_cases h1 : x = y
  · subst h1; simp
  · rw [if_neg h1]; split <;> omega

theorem Al.symm {a b : List α} {n : Nat} (h : Al a b n) : Al b a n := by
  induction h using Al.ind with
  | nil => exact .nil
  | both x y h ih => exact (ih.both y x).cast (by rw [ne1_comm])
  | left x h ih => exact ih.right x
  | right y h ih => exact ih.left y
theorem lev_comm (a b : List α) : lev a b = lev b a :=
  Nat.le_antisymm (lev_al b a).symm.lev_le (lev_al a b).symm.lev_le

theorem Al.append {a b c d : List α} {n m : Nat} (h : Al a b n) (k : Al c d m) : Al (a ++ c) (b ++ d) (n + m) := by
  induction h using Al.ind with
  | nil => exact k.cast (by omega)
  | both x y h ih => exact (ih.both x y).cast (by omega)
  | left x h ih => exact (ih.left x).cast (by omega)
  | right y h ih => exact (ih.right y).cast (by omega)
theorem Al.reverse {a b : List α} {n : Nat} (h : Al a b n) : Al a.reverse b.reverse n := by
  induction h using Al.ind with
  | nil => exact .nil
  | both x y h ih => simpa using ih.append ((Al.nil.both x y))
  | left x h ih => simpa using ih.append (Al.nil.left x)
  | right y h ih => simpa using ih.append (Al.nil.right y)
theorem lev_reverse (a b : List α) : lev a.reverse b.reverse = lev a b := by
  refine Nat.le_antisymm (lev_al a b).reverse.lev_le ?_
  have := (lev_al a.reverse b.reverse).reverse.lev_le
  simpa using this
theorem lev_append (a b c d : List α) : lev (a ++ c) (b ++ d) ≤ lev a b + lev c d := ((lev_al a b).append (lev_al c d)).lev_le

theorem Al.refl : ∀ a : List α, Al a a 0
  | [] => .nil
  | x :: a => ((Al.refl a).both x x).cast (by rw [ne1_self])
theorem Al.zero {a b : List α} {n : Nat} (h : Al a b n) : n = 0 → a = b := by
  induction h using Al.ind with
  | nil => intro _; rfl
  | both x y h ih =>
    intro e
    have h1 : ne1 x y = 0 := by omega
    rw [ih (by omega)]
    unfold ne1 at h1
    by_cases h2 : x = y
    · rw [h2]
    · rw [if_neg h2] at h1; omega
  | left => intro e; omega
  | right => intro e; omega
theorem lev_self (a : List α) : lev a a = 0 := Nat.le_zero.1 (Al.refl a).lev_le
theorem lev_zero (a b : List α) : lev a b = 0 ↔ a = b := ⟨fun h => (lev_al a b).zero h, fun h => by rw [h, lev_self]⟩

/-- The triangle. -/
theorem Al.trans_le {a b : List α} {n : Nat} (h : Al a b n) : ∀ {c : List α} {m : Nat}, Al b c m → lev a c ≤ n + m := by
  induction h using Al.ind with
  | nil => intro c m k; rw [lev_nil_left]; have := k.nil_left rfl; omega
  | left x h ih => intro c m k; exact Nat.le_trans (lev_left_le x _ _) (by have := ih k; omega)
  | right y h ih =>
    rename_i a b n
    intro c m k
    generalize hb : y :: b = b' at k
    induction k using Al.ind with
    | nil => cases hb
    | both y' z k' _ => injection hb with e1 e2; subst e2; have := ih k'; exact Nat.le_trans (lev_right_le z a _) (by omega)
    | left y' k' _ => injection hb with e1 e2; subst e2; have := ih k'; omega
    | right z k' ih' => have h1 := ih' hb; exact Nat.le_trans (lev_right_le z a _) (by omega)
  | both x y h ih =>
    rename_i a b n
    intro c m k
    generalize hb : y :: b = b' at k
    induction k using Al.ind with
    | nil => cases hb
    | both y' z k' _ => injection hb with e1 e2; subst e1 e2; have := ih k'; have := ne1_tri x y z; exact Nat.le_trans (lev_both_le x z a _) (by omega)
    | left y' k' _ => injection hb with e1 e2; subst e2; have := ih k'; have := ne1_le x y; exact Nat.le_trans (lev_left_le x a _) (by omega)
    | right z k' ih' => have h1 := ih' hb; exact Nat.le_trans (lev_right_le z (x :: a) _) (by omega)
theorem lev_tri (a b c : List α) : lev a c ≤ lev a b + lev b c := (lev_al a b).trans_le (lev_al b c)

theorem lev_cons_cons (x : α) (a b : List α) : lev (x :: a) (x :: b) = lev a b := by
  refine Nat.le_antisymm (by have := lev_both_le x x a b; rw [ne1_self] at this; exact this) ?_
  rw [lev_cons, ne1_self]
  have h1 : lev a b ≤ lev a (x :: b) + 1 := by
    have := lev_tri a (x :: b) b
    have h := lev_left_le x b b
    rw [lev_self] at h
    omega
  have h2 : lev a b ≤ lev (x :: a) b + 1 := by
    have := lev_tri a (x :: a) b
    have h := lev_right_le x a a
    rw [lev_self] at h
    omega
  omega
theorem lev_front : ∀ (c a b : List α), lev (c ++ a) (c ++ b) = lev a b
  | [], _, _ => rfl
  | x :: c, a, b => by rw [List.cons_append, List.cons_append, lev_cons_cons, lev_front c]
theorem lev_behind (c a b : List α) : lev (a ++ c) (b ++ c) = lev a b := by
  rw [← lev_reverse, List.reverse_append, List.reverse_append, lev_front, lev_reverse]

theorem lev_tails (x y : α) (a b : List α) : lev a b ≤ lev (x :: a) (y :: b) := by
  rw [lev_cons]
  have h1 : lev a b ≤ lev a (y :: b) + 1 := by
    have := lev_tri a (y :: b) b
    have h := lev_left_le y b b
    rw [lev_self] at h
    omega
  have h2 : lev a b ≤ lev (x :: a) b + 1 := by
    have := lev_tri a (x :: a) b
    have h := lev_right_le x a a
    rw [lev_self] at h
    omega
  omega
theorem lev_drop : ∀ (k : Nat) (a b : List α), k ≤ a.length → k ≤ b.length → lev (a.drop k) (b.drop k) ≤ lev a b
  | 0, a, b, _, _ => by simp
  | k + 1, [], _, h, _ => by simp at h
  | k + 1, _ :: _, [], _, h => by simp at h
  | k + 1, x :: a, y :: b, h1, h2 => Nat.le_trans (lev_drop k a b (by simpa using h1) (by simpa using h2)) (lev_tails x y a b)
theorem lev_le_add (a b : List α) : lev a b ≤ a.length + b.length := by
  have := ((Al.all_left a).append (Al.all_right b)).lev_le
  simpa using this
theorem Al.length_le {a b : List α} {n : Nat} (h : Al a b n) : a.length ≤ b.length + n ∧ b.length ≤ a.length + n := by
  induction h using Al.ind with
  | nil => simp
  | both x y h ih => simp; omega
  | left x h ih => simp; omega
  | right y h ih => simp; omega
theorem lev_length (a b : List α) : a.length ≤ b.length + lev a b ∧ b.length ≤ a.length + lev a b := (lev_al a b).length_le
theorem lev_le_max : ∀ (a b : List α), lev a b ≤ max a.length b.length
  | [], b => by rw [lev_nil_left]; omega
  | x :: a, [] => by rw [lev_nil_right]; omega
  | x :: a, y :: b => by
    have h1 := lev_both_le x y a b
    have h2 := lev_le_max a b
    have h3 := ne1_le x y
    simp only [List.length_cons]
    omega

/-- Turning both by k places. -/
theorem lev_turn (a b : List α) (k : Nat) (ha : k ≤ a.length) (hb : k ≤ b.length) : lev (a.drop k ++ a.take k) (b.drop k ++ b.take k) ≤ lev a b + k := by
  have h1 := lev_append (a.drop k) (b.drop k) (a.take k) (b.take k)
  have h2 := lev_drop k a b ha hb
  have h3 := lev_le_max (a.take k) (b.take k)
  simp only [List.length_take] at h3
  omega
theorem lev_byte (a b : List α) (x : α) : lev (a ++ [x]) b ≤ lev a b + 1 := by
  have := lev_append a b [x] []
  simpa [lev_nil_right] using this

end
end Go.Proofs.YtaogegpfapfchaaGreatDoor

/- Plain: the length of a longest common subsequence. -/
namespace Go.Proofs.YtaogegpfapfchaaGreatDoor
set_option linter.unusedVariables false

section
variable {α : Type} [DecidableEq α]
def lcsRow (x : α) (f : List α → Nat) : List α → Nat
  | [] => 0
  | y :: b => if x = y then f b + 1 else max (f (y :: b)) (lcsRow x f b)
/-- How much both have in common, in order. -/
def lcs : List α → List α → Nat
  | [] => fun _ => 0
  | x :: a => lcsRow x (lcs a)
theorem lcs_nil_left (b : List α) : lcs [] b = 0 := rfl
theorem lcs_nil_right (a : List α) : lcs a [] = 0 := by cases a <;> rfl
theorem lcs_cons (x y : α) (a b : List α) : lcs (x :: a) (y :: b) = if x = y then lcs a b + 1 else max (lcs a (y :: b)) (lcs (x :: a) b) := rfl
omit [DecidableEq α] in
theorem sub_of_cons {w a : List α} {z x : α} (h : (z :: w).Sublist (x :: a)) : w.Sublist a ∧ (z ≠ x → (z :: w).Sublist a) := by
  cases h with
  | cons _ h => exact ⟨(List.sublist_cons_self z w).trans h, fun _ => h⟩
  | cons_cons _ h => exact ⟨h, fun hn => absurd rfl hn⟩
theorem lcs_max : ∀ (a b w : List α), w.Sublist a → w.Sublist b → w.length ≤ lcs a b
  | [], b, w, ha, hb => by rw [List.sublist_nil.1 ha]; exact Nat.zero_le _
  | x :: a, [], w, ha, hb => by rw [List.sublist_nil.1 hb]; exact Nat.zero_le _
  | x :: a, y :: b, [], ha, hb => Nat.zero_le _
  | x :: a, y :: b, z :: w, ha, hb => by
    rw [lcs_cons]
    obtain ⟨h1, h2⟩ := sub_of_cons ha
    obtain ⟨h3, h4⟩ := sub_of_cons hb
    by_cases e : x = y
    · rw [if_pos e]
      have := lcs_max a b w h1 h3
      rw [List.length_cons]; omega
    · rw [if_neg e]
      by_cases e1 : z = x
      · have := lcs_max (x :: a) b (z :: w) ha (h4 (by rw [e1]; exact e))
        omega
      · have := lcs_max a (y :: b) (z :: w) (h2 e1) hb
        omega
termination_by a b => a.length + b.length
theorem lcs_wit : ∀ a b : List α, ∃ w : List α, w.Sublist a ∧ w.Sublist b ∧ w.length = lcs a b
  | [], b => ⟨[], List.Sublist.refl _, List.nil_sublist _, rfl⟩
  | x :: a, [] => ⟨[], List.nil_sublist _, List.Sublist.refl _, rfl⟩
  | x :: a, y :: b => by
    rw [lcs_cons]
    by_cases e : x = y
    · rw [if_pos e]
      obtain ⟨w, h1, h2, h3⟩ := lcs_wit a b
      subst e
      exact ⟨x :: w, h1.cons_cons x, h2.cons_cons x, by rw [List.length_cons, h3]⟩
    · rw [if_neg e]
      rcases Nat.le_total (lcs (x :: a) b) (lcs a (y :: b)) with h | h
      · obtain ⟨w, h1, h2, h3⟩ := lcs_wit a (y :: b)
        exact ⟨w, h1.cons x, h2, by omega⟩
      · obtain ⟨w, h1, h2, h3⟩ := lcs_wit (x :: a) b
        exact ⟨w, h1, h2.cons y, by omega⟩
termination_by a b => a.length + b.length

theorem lcs_le_of {a b c d : List α} (h : ∀ w : List α, w.Sublist a → w.Sublist b → ∃ u : List α, u.Sublist c ∧ u.Sublist d ∧ w.length ≤ u.length) : lcs a b ≤ lcs c d := by
  obtain ⟨w, h1, h2, h3⟩ := lcs_wit a b
  obtain ⟨u, g1, g2, g3⟩ := h w h1 h2
  have := lcs_max c d u g1 g2
  omega
theorem lcs_comm (a b : List α) : lcs a b = lcs b a :=
  Nat.le_antisymm (lcs_le_of fun w h1 h2 => ⟨w, h2, h1, Nat.le_refl _⟩) (lcs_le_of fun w h1 h2 => ⟨w, h2, h1, Nat.le_refl _⟩)
theorem lcs_rev_le (a b : List α) : lcs a b ≤ lcs a.reverse b.reverse := lcs_le_of fun w h1 h2 => ⟨w.reverse, List.reverse_sublist.2 h1, List.reverse_sublist.2 h2, by simp⟩
theorem lcs_reverse (a b : List α) : lcs a.reverse b.reverse = lcs a b := by
  refine Nat.le_antisymm ?_ (lcs_rev_le a b)
  have := lcs_rev_le a.reverse b.reverse
  rwa [List.reverse_reverse, List.reverse_reverse] at this
theorem lcs_le_left (a b : List α) : lcs a b ≤ a.length := by
  obtain ⟨w, h1, _, h3⟩ := lcs_wit a b
  have := h1.length_le; omega
theorem lcs_le_right (a b : List α) : lcs a b ≤ b.length := by rw [lcs_comm]; exact lcs_le_left b a
theorem lcs_full (a b : List α) : lcs a b = a.length ↔ a.Sublist b := by
  constructor
  · intro h
    obtain ⟨w, h1, h2, h3⟩ := lcs_wit a b
    rw [← h1.eq_of_length (by omega)]; exact h2
  · intro h
    have := lcs_max a b a (List.Sublist.refl _) h
    have := lcs_le_left a b
    omega
theorem lcs_append (a b c d : List α) : lcs a b + lcs c d ≤ lcs (a ++ c) (b ++ d) := by
  obtain ⟨w, h1, h2, h3⟩ := lcs_wit a b
  obtain ⟨u, g1, g2, g3⟩ := lcs_wit c d
  have := lcs_max (a ++ c) (b ++ d) (w ++ u) (h1.append g1) (h2.append g2)
  rw [List.length_append] at this
  omega
theorem lcs_snoc (a b : List α) (x : α) : lcs a b ≤ lcs (a ++ [x]) b ∧ lcs (a ++ [x]) b ≤ lcs a b + 1 := by
  constructor
  · have := lcs_append a b [x] []
    rw [List.append_nil] at this; omega
  · obtain ⟨w, h1, h2, h3⟩ := lcs_wit (a ++ [x]) b
    obtain ⟨u, v, rfl, g1, g2⟩ := List.sublist_append_iff.1 h1
    have := lcs_max a b u g1 ((List.sublist_append_left _ _).trans h2)
    have := g2.length_le
    rw [List.length_append] at h3
    rw [List.length_singleton] at this
    omega
theorem lcs_snoc_both (a b : List α) (x : α) : lcs (a ++ [x]) (b ++ [x]) = lcs a b + 1 := by
  rw [← lcs_reverse, List.reverse_append, List.reverse_append]
  show lcs (x :: a.reverse) (x :: b.reverse) = _
  rw [lcs_cons, if_pos rfl, lcs_reverse]

/-- Deleting. -/
theorem lev_sub : ∀ {w a : List α}, w.Sublist a → lev w a + w.length ≤ a.length
  | _, _, .slnil => by simp [lev_nil_left]
  | _, _, .cons (l₁ := w) (l₂ := a) x h => by
    have := lev_sub h
    have := lev_right_le x w a
    rw [List.length_cons]; omega
  | _, _, .cons_cons (l₁ := w) (l₂ := a) x h => by
    have := lev_sub h
    rw [lev_cons_cons, List.length_cons, List.length_cons]; omega
theorem lev_lcs (a b : List α) : lev a b + 2 * lcs a b ≤ a.length + b.length := by
  obtain ⟨w, h1, h2, h3⟩ := lcs_wit a b
  have k1 := lev_sub h1
  have k2 := lev_sub h2
  have k3 := lev_tri a w b
  rw [lev_comm a w] at k3
  omega
theorem Al.common {a b : List α} {n : Nat} (h : Al a b n) : ∃ w : List α, w.Sublist a ∧ w.Sublist b ∧ a.length ≤ w.length + n ∧ b.length ≤ w.length + n ∧ a.length + b.length ≤ 2 * w.length + 2 * n := by
  induction h using Al.ind with
  | nil => exact ⟨[], .slnil, .slnil, by simp, by simp, by simp⟩
  | both x y h ih =>
    obtain ⟨w, h1, h2, h3, h4, h5⟩ := ih
    by_cases e : x = y
    · subst e
      refine ⟨x :: w, h1.cons_cons x, h2.cons_cons x, ?_, ?_, ?_⟩ <;> simp only [List.length_cons] <;> omega
    · refine ⟨w, h1.cons x, h2.cons y, ?_, ?_, ?_⟩ <;> simp only [List.length_cons, ne1, if_neg e] <;> omega
  | left x h ih =>
    obtain ⟨w, h1, h2, h3, h4, h5⟩ := ih
    refine ⟨w, h1.cons x, h2, ?_, ?_, ?_⟩ <;> (try simp only [List.length_cons]) <;> omega
  | right y h ih =>
    obtain ⟨w, h1, h2, h3, h4, h5⟩ := ih
    refine ⟨w, h1, h2.cons y, ?_, ?_, ?_⟩ <;> (try simp only [List.length_cons]) <;> omega
theorem lcs_lev (a b : List α) : a.length ≤ lcs a b + lev a b ∧ b.length ≤ lcs a b + lev a b ∧ a.length + b.length ≤ 2 * lcs a b + 2 * lev a b := by
  obtain ⟨w, h1, h2, h3, h4, h5⟩ := (lev_al a b).common
  have := lcs_max a b w h1 h2
  omega
end

end Go.Proofs.YtaogegpfapfchaaGreatDoor

