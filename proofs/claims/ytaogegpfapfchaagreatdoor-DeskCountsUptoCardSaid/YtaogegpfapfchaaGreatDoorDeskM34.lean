import Derived.Test.YtaogegpfapfchaaGreatDoorDeskM33
import Derived.Shelf.Sort.Plain
import Derived.Test.YtaogegpfapfchaaGreatDoorProg
import Derived.Shelf.Slices.CompactS
import Derived.Test.YtaogegpfapfchaaGreatDoorDeskM25
import Derived.Shelf.Slices.In.SortNone
/- Several texts in one: XHouseLaw XLaidStrSort XLaidCompactStr XStrSort. -/
/- Houses within a law: what stays, and who owns what. -/
namespace Go.Proofs.YtaogegpfapfchaaGreatDoor
open Go.RowKit
set_option linter.unusedVariables false

/-- Each owner is a block that is there. -/
def Based (own : Nat → Nat) (w : World) : Prop := ∀ k, k < w.heap.size → own k < w.heap.size
theorem EdIn.reown {own own2 : Nat → Nat} {w : World} {ge : Nat} {t : ByteArray} {B O : List ByteArray} (h : EdIn own w ge t B O) (hr : ∀ k, k < w.heap.size → own k = ge → own2 k = ge) : EdIn own2 w ge t B O :=
  EdAt.weak h fun k ⟨h1, h2⟩ => .inl ⟨h1, fun e => h2 (hr k h1 e)⟩
theorem PageAt.reown {own own2 : Nat → Nat} {w : World} {x : Pl} {p : Pg} (h : PageAt own w x p) (h1 : ∀ k, k < w.heap.size → own k = x.ge → own2 k = x.ge) (h2 : ∀ k, k < w.heap.size → own k = x.gl → own2 k = x.gl) : PageAt own2 w x p :=
  ⟨h.ed.reown h1, ⟨h.leaf.at_, h2 _ h.leaf.at_.lt.1 h.leaf.ol, h2 _ h.leaf.at_.lt.2 h.leaf.og⟩, h.ne, h.ok⟩
theorem HouseAt.reown {own own2 : Nat → Nat} {w : World} {gh : Nat} {Q : List (Pl × Pg)} (h : HouseAt own w gh Q) (hr : ∀ k, k < w.heap.size → own k ∈ idsH gh Q → own2 k = own k) : HouseAt own2 w gh Q := by
  obtain ⟨⟨A, n, c, h1, h2, h3, h3a⟩, h4, h5, h6⟩ := h
  have key : ∀ i ∈ idsH gh Q, ∀ k, k < w.heap.size → own k = i → own2 k = i := fun i hi k hk e => by rw [hr k hk (by rw [e]; exact hi), e]
  refine ⟨⟨A, n, c, h1, h2.weak fun k hk hq => ?_, h3, h3a⟩, key gh (List.mem_cons_self ..) gh h1.lt h4, fun y hy => (h5 y hy).reown (key _ ?_) (key _ ?_), h6⟩
  · have := h2.lt k hk
    exact this.1 ⟨this.2, fun e => hq.2 (key gh (List.mem_cons_self ..) k this.2 e)⟩
  · exact List.mem_cons_of_mem _ (List.mem_flatMap.2 ⟨y, hy, by simp⟩)
  · exact List.mem_cons_of_mem _ (List.mem_flatMap.2 ⟨y, hy, by simp⟩)

/-- A house in a law that began in the world w0. -/
structure InLaw (w0 : World) (own : Nat → Nat) (w : World) (gh : Nat) (Q : List (Pl × Pg)) (P : List Pg) : Prop where
  below : Below w0.heap.size w0 w
  house : HouseAt own w gh Q
  pages : Q.map (·.2) = P
  ok : HOk P
  based : Based own w
  low : ∀ k, k < w0.heap.size → own k < w0.heap.size
  ids : ∀ i ∈ idsH gh Q, w0.heap.size ≤ i
theorem InLaw.few {w0 : World} {own : Nat → Nat} {w : World} {gh : Nat} {Q : List (Pl × Pg)} {P : List Pg} (h : InLaw w0 own w gh Q P) : Q.length ≤ 6 := by
  have := h.ok.few
  rw [← h.pages, List.length_map] at this
  exact this
theorem InLaw.pg {w0 : World} {own : Nat → Nat} {w : World} {gh : Nat} {Q : List (Pl × Pg)} {P : List Pg} (h : InLaw w0 own w gh Q P) : ∀ p ∈ P, p.Ok := fun p hp => by
  rw [← h.pages] at hp
  obtain ⟨y, hy, rfl⟩ := List.mem_map.1 hp
  exact (h.house.page y hy).ok
/-- Another thing's turn leaves the house as it is. -/
theorem InLaw.apart {w0 : World} {own own' : Nat → Nat} {S : Nat → Prop} {w w' : World} {gh : Nat} {Q : List (Pl × Pg)} {P : List Pg} (h : InLaw w0 own w gh Q P) (hg : Goes own own' S w w') (hS : ∀ k ∈ idsH gh Q, ¬ S k) (hS0 : ∀ k, S k → w0.heap.size ≤ k) (hb : Based own' w') : InLaw w0 own' w' gh Q P :=
  ⟨⟨hg.os.trans h.below.os, hg.tape.trans h.below.tape, hg.output.trans h.below.output, Nat.le_trans h.below.size hg.size, fun k hk => (hg.block k (Nat.lt_of_lt_of_le hk h.below.size) fun hs => by have := hS0 _ hs; have := h.low k hk; omega).trans (h.below.block k hk)⟩,
    h.house.apart hg hS, h.pages, h.ok, hb, fun k hk => by rw [hg.same k (Nat.lt_of_lt_of_le hk h.below.size)]; exact h.low k hk, h.ids⟩
/-- New things are owned by themselves. -/
def newO (own : Nat → Nat) (n : Nat) : Nat → Nat := fun k => if k < n then own k else k
theorem newO_goes {own : Nat → Nat} {S : Nat → Prop} {w w' : World} (h : Below w.heap.size w w') : Goes own (newO own w.heap.size) S w w' := ⟨h.os, h.tape, h.output, h.size, fun k hk _ => h.block k hk, fun k hk => if_pos hk⟩
theorem newO_based {own : Nat → Nat} {w w' : World} (h : Based own w) (hb : Below w.heap.size w w') : Based (newO own w.heap.size) w' := fun k hk => by
  unfold newO
  by_cases e : k < w.heap.size
  · rw [if_pos e]; exact Nat.lt_of_lt_of_le (h k e) hb.size
  · rw [if_neg e]; exact hk
theorem InLaw.after {w0 : World} {own : Nat → Nat} {w w' : World} {gh : Nat} {Q : List (Pl × Pg)} {P : List Pg} (h : InLaw w0 own w gh Q P) (hb : Below w.heap.size w w') : InLaw w0 (newO own w.heap.size) w' gh Q P :=
  h.apart (newO_goes (S := fun _ => False) hb) (fun _ _ h => h) (fun _ h => h.elim) (newO_based h.based hb)
/-- What a deed at a house in a law comes to. -/
def DoTo (w0 : World) (own : Nat → Nat) (w : World) (gh : Nat) (Q : List (Pl × Pg)) (P' : List Pg) (w' : World) : Prop :=
  ∃ own' Q', InLaw w0 own' w' gh Q' P' ∧ Goes own own' (fun k => k ∈ idsH gh Q) w w' ∧ ∀ i ∈ idsH gh Q', i ∈ idsH gh Q ∨ w.heap.size ≤ i
theorem InLaw.to {w0 : World} {own : Nat → Nat} {w w' : World} {gh : Nat} {Q : List (Pl × Pg)} {P P' : List Pg} (h : InLaw w0 own w gh Q P) (hP : HOk P') (ht : HouseTo own w gh Q P' w') : DoTo w0 own w gh Q P' w' := by
  obtain ⟨own', Q', h1, h2, h3, h4⟩ := ht
  have hlt := h1.lt
  have hsame : ∀ k, k < w.heap.size → (if own' k < w'.heap.size then own' k else 0) = own k := fun k hk => by
    rw [h3.same k hk, if_pos (Nat.lt_of_lt_of_le (h.based k hk) h3.size)]
  have hG : Goes own (fun k => if own' k < w'.heap.size then own' k else 0) (fun k => k ∈ idsH gh Q) w w' := ⟨h3.os, h3.tape, h3.output, h3.size, h3.block, hsame⟩
  have hb : Based (fun k => if own' k < w'.heap.size then own' k else 0) w' := fun k hk => by
    show (if own' k < w'.heap.size then own' k else 0) < w'.heap.size
    split
    · assumption
    · omega
  refine ⟨_, Q', ⟨⟨hG.os.trans h.below.os, hG.tape.trans h.below.tape, hG.output.trans h.below.output, Nat.le_trans h.below.size hG.size, fun k hk => (hG.block k (Nat.lt_of_lt_of_le hk h.below.size) fun hs => by have := h.ids _ hs; have := h.low k hk; omega).trans (h.below.block k hk)⟩,
    h1.reown (fun k hk hi => if_pos (hlt _ hi)), h2, hP, hb, fun k hk => ?_, fun i hi => ?_⟩, hG, h4⟩
  · show (if own' k < w'.heap.size then own' k else 0) < _
    rw [hsame k (Nat.lt_of_lt_of_le hk h.below.size)]
    exact h.low k hk
  · rcases h4 i hi with h' | h'
    · exact h.ids i h'
    · exact Nat.le_trans h.below.size h'
/-- A deed at a house in a law. -/
theorem do_law {w0 : World} {own : Nat → Nat} {w : World} {gh : Nat} {Q : List (Pl × Pg)} {P : List Pg} (h : InLaw w0 own w gh Q P) (ht : Tab w) (d : Dd) (Ad : Option Addr) (cd : Nat) (hd : DeedAt w d Ad cd) :
    Calls Tryz.prog 32 #[.pointer (some ⟨gh, 0, none⟩), .agg (cDeed d Ad cd)] w fun e w' => e = .returned (.tuple #[.string (houseD P d).1, .int .i64 (houseD P d).2.1]) ∧ DoTo w0 own w gh Q (houseD P d).2.2 w' := by
  have := do_any own w gh Q h.house h.few ht d Ad cd hd
  rw [h.pages] at this
  exact this.mono fun e w' ⟨he, hh⟩ => ⟨he, h.to (house_one h.ok d).ok hh⟩

/-- A house alone in a law. -/
def Lone (w0 : World) (gh : Nat) (P : List Pg) (w : World) : Prop := ∃ own Q, InLaw w0 own w gh Q P
theorem Lone.below {w0 w : World} {gh : Nat} {P : List Pg} (h : Lone w0 gh P w) : Below w0.heap.size w0 w := by obtain ⟨_, _, h⟩ := h; exact h.below
theorem Lone.ok {w0 w : World} {gh : Nat} {P : List Pg} (h : Lone w0 gh P w) : HOk P := by obtain ⟨_, _, h⟩ := h; exact h.ok
theorem Lone.pg {w0 w : World} {gh : Nat} {P : List Pg} (h : Lone w0 gh P w) : ∀ p ∈ P, p.Ok := by obtain ⟨_, _, h⟩ := h; exact h.pg
theorem Lone.after {w0 w w' : World} {gh : Nat} {P : List Pg} (h : Lone w0 gh P w) (hb : Below w.heap.size w w') : Lone w0 gh P w' := by
  obtain ⟨_, _, h⟩ := h
  exact ⟨_, _, h.after hb⟩
theorem DoTo.lone {w0 : World} {own : Nat → Nat} {w w' : World} {gh : Nat} {Q : List (Pl × Pg)} {P : List Pg} (h : DoTo w0 own w gh Q P w') : Lone w0 gh P w' := by
  obtain ⟨_, _, h, _⟩ := h
  exact ⟨_, _, h⟩
theorem do_lone {w0 w : World} {gh : Nat} {P : List Pg} (h : Lone w0 gh P w) (ht : Tab w) (d : Dd) (Ad : Option Addr) (cd : Nat) (hd : DeedAt w d Ad cd) :
    Calls Tryz.prog 32 #[.pointer (some ⟨gh, 0, none⟩), .agg (cDeed d Ad cd)] w fun e w' => e = .returned (.tuple #[.string (houseD P d).1, .int .i64 (houseD P d).2.1]) ∧ Lone w0 gh (houseD P d).2.2 w' := by
  obtain ⟨own, Q, h⟩ := h
  exact (do_law h ht d Ad cd hd).mono fun e w' ⟨he, hh⟩ => ⟨he, hh.lone⟩
/-- Two houses in a law. -/
def Pair (w0 : World) (ga : Nat) (Pa : List Pg) (gb : Nat) (Pb : List Pg) (w : World) : Prop :=
  ∃ own Qa Qb, InLaw w0 own w ga Qa Pa ∧ InLaw w0 own w gb Qb Pb ∧ ∀ i ∈ idsH ga Qa, i ∉ idsH gb Qb
theorem Pair.swap {w0 w : World} {ga gb : Nat} {Pa Pb : List Pg} (h : Pair w0 ga Pa gb Pb w) : Pair w0 gb Pb ga Pa w := by
  obtain ⟨own, Qa, Qb, h1, h2, h3⟩ := h
  exact ⟨own, Qb, Qa, h2, h1, fun i hi hj => h3 i hj hi⟩
theorem Pair.lone {w0 w : World} {ga gb : Nat} {Pa Pb : List Pg} (h : Pair w0 ga Pa gb Pb w) : Lone w0 ga Pa w := by
  obtain ⟨own, Qa, Qb, h1, _⟩ := h
  exact ⟨_, _, h1⟩
theorem Pair.after {w0 w w' : World} {ga gb : Nat} {Pa Pb : List Pg} (h : Pair w0 ga Pa gb Pb w) (hb : Below w.heap.size w w') : Pair w0 ga Pa gb Pb w' := by
  obtain ⟨own, Qa, Qb, h1, h2, h3⟩ := h
  exact ⟨_, Qa, Qb, h1.after hb, h2.after hb, h3⟩
theorem Pair.do_ {w0 w : World} {ga gb : Nat} {Pa Pb : List Pg} (h : Pair w0 ga Pa gb Pb w) (ht : Tab w) (d : Dd) (Ad : Option Addr) (cd : Nat) (hd : DeedAt w d Ad cd) :
    Calls Tryz.prog 32 #[.pointer (some ⟨ga, 0, none⟩), .agg (cDeed d Ad cd)] w fun e w' => e = .returned (.tuple #[.string (houseD Pa d).1, .int .i64 (houseD Pa d).2.1]) ∧ Pair w0 ga (houseD Pa d).2.2 gb Pb w' := by
  obtain ⟨own, Qa, Qb, h1, h2, h3⟩ := h
  refine (do_law h1 ht d Ad cd hd).mono fun e w' ⟨he, own', Qa', g1, g2, g3⟩ => ⟨he, own', Qa', Qb, g1, h2.apart g2 (fun k hk hs => h3 k hs hk) h1.ids g1.based, fun i hi hj => ?_⟩
  rcases g3 i hi with h | h
  · exact h3 i h hj
  · have := h2.house.lt i hj
    omega
end Go.Proofs.YtaogegpfapfchaaGreatDoor

/- StrSort: contracts of the library laid at this program: the tables of numbers and the facts that they ask. -/
namespace Go.Proofs.YtaogegpfapfchaaGreatDoor
open Go.RowKit
set_option linter.unusedVariables false

def layStrSort_ren : Go.Shelf.Ren := ⟨fun | 190 => 30 | 125 => 50 | 258 => 49 | 128 => 90 | 129 => 91 | 302 => 81 | 303 => 82 | 304 => 83 | 305 => 84 | 306 => 85 | 307 => 86 | 308 => 87 | 309 => 88 | 310 => 89 | 333 => 110 | 329 => 111 | 330 => 112 | 334 => 113 | 335 => 114 | 336 => 115 | 344 => 136 | n => n, fun | 31 => 22 | 9 => 9 | 3 => 3 | 46 => 89 | 0 => 0 | 51 => 110 | 53 => 114 | 4 => 4 | 183 => 124 | 182 => 123 | 131 => 128 | 5 => 5 | 218 => 150 | 222 => 154 | 228 => 171 | 229 => 172 | 20 => 20 | n => n, fun | n => n⟩
theorem layStrSort : Go.Proofs.Lays.n190 Tryz.prog layStrSort_ren := {
  mixed := by kernel_rfl,
  f125 := Tryz.func50.trans (congrArg some (by kernel_rfl)),
  f128 := Tryz.func90.trans (congrArg some (by kernel_rfl)),
  f129 := Tryz.func91.trans (congrArg some (by kernel_rfl)),
  f190 := Tryz.func30.trans (congrArg some (by kernel_rfl)),
  f258 := Tryz.func49.trans (congrArg some (by kernel_rfl)),
  f302 := Tryz.func81.trans (congrArg some (by kernel_rfl)),
  f303 := Tryz.func82.trans (congrArg some (by kernel_rfl)),
  f304 := Tryz.func83.trans (congrArg some (by kernel_rfl)),
  f305 := Tryz.func84.trans (congrArg some (by kernel_rfl)),
  f306 := Tryz.func85.trans (congrArg some (by kernel_rfl)),
  f307 := Tryz.func86.trans (congrArg some (by kernel_rfl)),
  f308 := Tryz.func87.trans (congrArg some (by kernel_rfl)),
  f309 := Tryz.func88.trans (congrArg some (by kernel_rfl)),
  f310 := Tryz.func89.trans (congrArg some (by kernel_rfl)),
  f329 := Tryz.func111.trans (congrArg some (by kernel_rfl)),
  f330 := Tryz.func112.trans (congrArg some (by kernel_rfl)),
  f333 := Tryz.func110.trans (congrArg some (by kernel_rfl)),
  f334 := Tryz.func113.trans (congrArg some (by kernel_rfl)),
  f335 := Tryz.func114.trans (congrArg some (by kernel_rfl)),
  f336 := Tryz.func115.trans (congrArg some (by kernel_rfl)),
  f344 := Tryz.func136.trans (congrArg some (by kernel_rfl)),
  t0 := Tryz.underlying0,
  a0 := Tryz.isAgg0,
  z0 := Tryz.sizeOf0,
  v0 := Tryz.zeroValue0,
  t3 := Tryz.underlying3,
  a3 := Tryz.isAgg3,
  z3 := Tryz.sizeOf3,
  v3 := Tryz.zeroValue3,
  t4 := Tryz.underlying4,
  a4 := Tryz.isAgg4,
  z4 := Tryz.sizeOf4,
  v4 := Tryz.zeroValue4,
  t5 := Tryz.underlying5,
  a5 := Tryz.isAgg5,
  z5 := Tryz.sizeOf5,
  v5 := Tryz.zeroValue5,
  t9 := Tryz.underlying9,
  a9 := Tryz.isAgg9,
  z9 := Tryz.sizeOf9,
  v9 := Tryz.zeroValue9,
  t31 := Tryz.underlying22,
  a31 := Tryz.isAgg22,
  z31 := Tryz.sizeOf22,
  v31 := Tryz.zeroValue22,
  t46 := Tryz.underlying89,
  a46 := Tryz.isAgg89,
  z46 := Tryz.sizeOf89,
  v46 := Tryz.zeroValue89,
  t51 := Tryz.underlying110,
  a51 := Tryz.isAgg110,
  z51 := Tryz.sizeOf110,
  v51 := Tryz.zeroValue110,
  t53 := Tryz.underlying114,
  a53 := Tryz.isAgg114,
  z53 := Tryz.sizeOf114,
  v53 := Tryz.zeroValue114,
  t131 := Tryz.underlying128,
  a131 := Tryz.isAgg128,
  z131 := Tryz.sizeOf128,
  v131 := Tryz.zeroValue128,
  t182 := Tryz.underlying123,
  a182 := Tryz.isAgg123,
  z182 := Tryz.sizeOf123,
  v182 := Tryz.zeroValue123,
  t183 := Tryz.underlying124,
  a183 := Tryz.isAgg124,
  z183 := Tryz.sizeOf124,
  v183 := Tryz.zeroValue124,
  t218 := Tryz.underlying150,
  a218 := Tryz.isAgg150,
  z218 := Tryz.sizeOf150,
  v218 := Tryz.zeroValue150,
  t222 := Tryz.underlying154,
  a222 := Tryz.isAgg154,
  z222 := Tryz.sizeOf154,
  v222 := Tryz.zeroValue154,
  t228 := Tryz.underlying171,
  a228 := Tryz.isAgg171,
  z228 := Tryz.sizeOf171,
  v228 := Tryz.zeroValue171,
  t229 := Tryz.underlying172,
  a229 := Tryz.isAgg172,
  z229 := Tryz.sizeOf172,
  v229 := Tryz.zeroValue172 }

end Go.Proofs.YtaogegpfapfchaaGreatDoor

/- CompactStr: contracts of the library laid at this program: the tables of numbers and the facts that they ask. -/
namespace Go.Proofs.YtaogegpfapfchaaGreatDoor
open Go.RowKit
set_option linter.unusedVariables false

end Go.Proofs.YtaogegpfapfchaaGreatDoor

/- slices.Sort and slices.Compact of strings that lie in a row of one's own. -/
namespace Go.Proofs.YtaogegpfapfchaaGreatDoor
open Go.RowKit Go.Sort Go.Shelf Go.Lib
set_option linter.unusedVariables false

theorem putRow_map {α : Type} [Inhabited α] (enc : α → Value) (w : World) (g o : Nat) (d : Array α) : putRow enc w g o d = putRow id w g o (d.map enc) := by
  have e : putCells enc o d = putCells id o (d.map enc) := funext fun cs => by
    refine Array.ext (by simp [putCells]) fun j h1 h2 => ?_
    simp only [putCells, Array.getElem_mapIdx, id, Array.size_map]
    by_cases h : o ≤ j ∧ j < o + d.size
    · rw [if_pos h, if_pos h, getElem!_pos d _ (by omega), getElem!_pos (d.map enc) _ (by simp; omega), Array.getElem_map]
    · rw [if_neg h, if_neg h]
  unfold putRow
  rw [e]
theorem holds_strs {w : World} {K : Nat → Prop} {blk o n c : Nat} {zs : List (List UInt8)} (hn : zs.length = n) (h : OwnK 9 1 w K (some ⟨blk, o, none⟩) n c (zs.map encStr)) : Holds encStr w blk o zs.toArray := fun j hj => by
  have hj' : j < zs.length := by simpa using hj
  have := h.cell j (by omega)
  refine ⟨?_, this.2⟩
  rw [this.1, List.getElem?_map, getElem!_pos zs.toArray j hj, List.getElem?_eq_getElem hj']; simp
theorem own_same {w w' : World} {r : Option Nat} (h : w' = w) : w.grownBy w' r := by
  subst h
  exact ⟨rfl, rfl, rfl, Nat.le_refl _, fun k hk _ => rfl⟩
/-- slices.Sort of strings. -/
theorem strSort_any (K : Nat → Prop) (A : Option Addr) (n c : Nat) (zs : List (List UInt8)) (w : World) (hn : zs.length = n) (h : OwnK 9 1 w K A n c (zs.map encStr)) (hsz : n < 4611686018427387904) :
    Calls Tryz.prog 30 #[.slice A n c] w fun e w' => e = .returned (.tuple #[]) ∧ OwnK 9 1 w' K A n c ((zs.mergeSort fun x y => decide (x ≤ y)).map encStr) ∧ w.grownBy w' (Value.slice A n c).ownBlock := by
  subst hn
  rcases Nat.eq_zero_or_pos zs.length with h0 | h0
  · have hz := List.eq_nil_of_length_eq_zero h0
    subst hz
    have hS := Any.slices_Sort_string_none layStrSort A c w
    change Calls Tryz.prog 30 _ _ _ at hS
    exact hS.mono fun e w' ⟨he, hw⟩ => ⟨he, by rw [hw]; simpa using h, own_same hw⟩
  · obtain ⟨blk, o, rfl, hlt, _⟩ := h.shape h0
    have hS := Any.slices_Sort_string layStrSort blk o c zs w (holds_strs rfl h) hlt hsz
    change Calls Tryz.prog 30 _ _ _ at hS
    refine hS.mono fun e w' ⟨he, m, os, hw⟩ => ⟨he, ?_, ?_⟩
    · rw [hw, putRow_map]
      have := h.sorted (F := ((zs.mergeSort fun x y => decide (x ≤ y)).toArray.map encStr)) (by simp) m os
      simpa using this
    · rw [hw, putRow_map]
      exact grownBy_put _
end Go.Proofs.YtaogegpfapfchaaGreatDoor

