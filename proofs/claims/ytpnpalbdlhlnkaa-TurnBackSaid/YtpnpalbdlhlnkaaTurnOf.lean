/- turn.Put as a function. -/
import Derived.Test.YtpnpalbdlhlnkaaTurnWalk
namespace Go.Proofs.Ytpnpalbdlhlnkaa
open Go.RowKit
set_option linter.unusedVariables false

theorem isOrd_ex (s : List UInt8) : ∃ o, IsOrd s o := by
  classical
  have tr : ∀ a b c : Nat, decide (¬ ltR s b a) = true → decide (¬ ltR s c b) = true → decide (¬ ltR s c a) = true := fun a b c h1 h2 => by
    have h1 := of_decide_eq_true h1
    have h2 := of_decide_eq_true h2
    refine decide_eq_true fun h => ?_
    rcases ltR_tri s b c with k | k | k
    · exact h1 (ltR_trans k h)
    · subst k; exact h1 h
    · exact h2 k
  have tot : ∀ a b : Nat, (decide (¬ ltR s b a) || decide (¬ ltR s a b)) = true := fun a b => by
    by_cases h : ltR s b a
    · have : ¬ ltR s a b := fun k => ltR_irrefl s a (ltR_trans k h)
      rw [decide_eq_true this, Bool.or_true]
    · rw [decide_eq_true h, Bool.true_or]
  have hs := List.pairwise_mergeSort tr tot (List.range s.length)
  have hp := List.mergeSort_perm (List.range s.length) (fun a b => decide (¬ ltR s b a))
  refine ⟨_, hp, ?_⟩
  have hn := hp.nodup_iff.2 List.nodup_range
  refine (List.Pairwise.and hs hn).imp fun {a b} h => ?_
  have h1 := of_decide_eq_true h.1
  rcases ltR_tri s a b with k | k | k
  · exact k
  · exact absurd k h.2
  · exact absurd k h1
noncomputable def ordOf (s : List UInt8) : List Nat := Classical.choose (isOrd_ex s)
theorem ordOf_is (s : List UInt8) : IsOrd s (ordOf s) := Classical.choose_spec (isOrd_ex s)
noncomputable def tOf (s : List UInt8) : List UInt8 := lastB s (ordOf s)
noncomputable def atOf (s : List UInt8) : Nat := zeroAt (ordOf s)
theorem tOf_len (s : List UInt8) : (tOf s).length = s.length := by unfold tOf lastB; rw [List.length_map, (ordOf_is s).len]
noncomputable def putT (s : ByteArray) : ByteArray := if s.size ≤ 200 then ⟨(tOf s.data.toList).toArray⟩ else ⟨#[]⟩
noncomputable def putA (s : ByteArray) : Int := if s.size ≤ 200 then (atOf s.data.toList : Int) else 0
def putE (s : ByteArray) : Int := if s.size ≤ 200 then 0 else 2
/-- turn.Put of any text. -/
theorem turnPut_any (s : ByteArray) (w : World) : Calls Try.prog 5 #[.string s] w fun e w' => e = .returned (.tuple #[.string (putT s), .int .i64 (putA s), .int .i64 (putE s)]) ∧ Below w.heap.size w w' := by
  unfold putT putA putE
  by_cases h : s.size ≤ 200
  · rw [if_pos h, if_pos h, if_pos h]
    refine (turnPut_ok s h w).mono fun e w' ⟨o, ho, he, hb⟩ => ⟨?_, hb⟩
    rw [he, ho.unique (ordOf_is _)]
    rfl
  · rw [if_neg h, if_neg h, if_neg h]
    exact turnPut_no s (by omega) w
end Go.Proofs.Ytpnpalbdlhlnkaa
