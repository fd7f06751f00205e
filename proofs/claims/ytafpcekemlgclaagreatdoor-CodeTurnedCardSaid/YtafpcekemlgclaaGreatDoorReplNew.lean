/- strings.NewReplacer at the four strings "0", "1", "1", "0", and Replace. -/
import Derived.Test.YtafpcekemlgclaaGreatDoorReplOnce
import Derived.Test.YtafpcekemlgclaaGreatDoorLib
import Derived.Test.YtafpcekemlgclaaGreatDoorTail
import Derived.Deep.DeepMust
import Derived.Laws.Cover3
namespace Go.Proofs.YtafpcekemlgclaaGreatDoor
open Go.RowKit
set_option linter.unusedVariables false

def rpL : List ByteArray := [⟨#[48]⟩, ⟨#[49]⟩, ⟨#[49]⟩, ⟨#[48]⟩]
theorem infoStrR : (Tryz.prog.info? 9).map (fun i => (i.zero, i.size, i.bytes)) = some (some (.string ⟨#[]⟩), 1, 16) := by kernel_rfl
/-- A Replacer that has not been used yet. -/
structure ReplAt (w : World) (gr g o c : Nat) : Prop where
  blk : Blk w gr 49 #[.int .u32 0, .int .i32 0, .int .u32 0, .nilIface, .slice (some ⟨g, o, none⟩) 4 c]
  c0 : w.cell? ⟨g, o, none⟩ = some (.string ⟨#[48]⟩)
  c1 : w.cell? ⟨g, o + 1, none⟩ = some (.string ⟨#[49]⟩)
  c2 : w.cell? ⟨g, o + 2, none⟩ = some (.string ⟨#[49]⟩)
  c3 : w.cell? ⟨g, o + 3, none⟩ = some (.string ⟨#[48]⟩)
  lt : g < w.heap.size
  ne : g ≠ gr
set_option maxRecDepth 100000 in
set_option maxHeartbeats 1000000 in
theorem newReplacer (a : Addr) (c0 : Nat) (w : World) (hc : ∀ j, j < 4 → w.cell? (a.add j) = (rpL.map Value.string)[j]?) :
    Calls Tryz.prog 6 #[.slice (some a) 4 c0] w fun e w' => ∃ gr g o c, e = .returned (.pointer (some ⟨gr, 0, none⟩)) ∧ w.heap.size ≤ gr ∧ ReplAt w' gr g o c ∧ Below w.heap.size w w' := by
  have hnews : ∀ j u, (rpL.map Value.string)[j]? = some u → w.cell? (a.add j) = some u := fun j u hj => by
    have hj' : j < 4 := by have := (List.getElem?_eq_some_iff.1 hj).1; simpa [rpL] using this
    rw [hc j hj']; exact hj
  have hone : ∀ u ∈ rpL.map Value.string, u.oneCell' = true := fun u hu => by
    obtain ⟨x, _, rfl⟩ := List.mem_map.1 hu
    rfl
  obtain ⟨i0, hi, hz0, hz1, hz2⟩ := info_parts infoStrR
  have Hnews := Lib.hid hnews
  have Hone := Lib.hid hone
  have Hi := Lib.hid hi
  have Hz0 := Lib.hid hz0
  have Hz1 := Lib.hid hz1
  have Hz2 := Lib.hid hz2
  have hown := World.ownsRow_nil w w.heap.size 9 1
  have hbd : ∀ (w : World) (A : Option Addr) (n c : Nat), (Instr.build 49 #[(2, .slice A n c)]).run Tryz.prog w = .ok (.agg #[.int .u32 0, .int .i32 0, .int .u32 0, .nilIface, .slice A n c]) w := fun w A n c => run_build w 49 _ _ (by kernel_rfl)
  clear hnews hone hi hz0 hz1 hz2 hc
  go_enter Tryz.func6, Tryz.ntmps6
  go_wp2_with (first | (at_builtin; go_must (refine wpList_append_own _ rfl (.const (.slice none 0 0)) (.tmp 8) 22 rfl w.heap.size 9 i0 _ 1 16 Tryz.underlying22 Hi.out Hz0.out Hz1.out Hz2.out rfl (by decide) _ 0 [] rfl hown a 4 c0 (rpL.map Value.string) rfl rfl Hnews.out Hone.out (by unfold maxLen; omega) (by omega) (by simp) ?_); intro v3 w3 hown3 hg3 _; obtain ⟨A3, c3, rfl, hA3⟩ := own_shape hown3; obtain ⟨g3, rfl, hgw⟩ := hA3 (by decide)))
  have hB := Blk.new w3 49 #[.int .u32 0, .int .i32 0, .int .u32 0, .nilIface, .slice (some ⟨g3, 0, none⟩) 4 c3]
  have hb3 : Below w.heap.size w w3 := (Below.refl _ _).grown hg3 (Nat.le_refl _) (fun k hk => by cases hk)
  have hba : Below w.heap.size w (w3.alloc (Obj.cells #[.int .u32 0, .int .i32 0, .int .u32 0, .nilIface, .slice (some ⟨g3, 0, none⟩) 4 c3] 49)) := hb3.alloc hb3.size _
  rw [List.nil_append, Nat.zero_add] at hown3
  have hr := (Reads.of_own hown3).2 (by decide)
  obtain ⟨b, o, hbo, hbl, hcc⟩ := hr
  injection hbo with hbo
  injection hbo with e1 e2
  subst e1; subst e2
  have hcx : ∀ j (hj : j < 4), (w3.alloc (Obj.cells #[.int .u32 0, .int .i32 0, .int .u32 0, .nilIface, .slice (some ⟨g3, 0, none⟩) 4 c3] 49)).cell? ⟨g3, 0 + j, none⟩ = some ((rpL.map Value.string).getD j undef) := fun j hj => by
    rw [World.cell?_alloc_lt w3 _ _ (by show g3 < _; exact hbl)]
    exact hcc j (by simpa [rpL] using hj)
  go_ret
  exact ⟨_, g3, 0, c3, rfl, hb3.size, ⟨hB, hcx 0 (by decide), hcx 1 (by decide), hcx 2 (by decide), hcx 3 (by decide), by simp; omega, by omega⟩, hba⟩
end Go.Proofs.YtafpcekemlgclaaGreatDoor
