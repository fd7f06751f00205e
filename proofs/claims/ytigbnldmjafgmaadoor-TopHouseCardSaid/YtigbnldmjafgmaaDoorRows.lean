/-
  NARROWER THAN 'FOR EVERY INPUT', by the rows' own cells (each row's printed sentence says how): HouseRefuses: laid · HouseSteps: laid · LogOwn: laid · HouseKeeps: laid · HouseNames: laid · HouseApart: laid · TopHouse: laid.
  DERIVED. THE GIVEN ROWS OF THIS SEAT. 7 by the template 'for every input the law returns true; each argument reads behind the call as it read before'; 0 by the template 'total and deterministic' (their statements: YtigbnldmjafgmaaDoorTotals.lean).
  GIVEN WITH THE SEED: the statements are not yours to turn. If you find one false, say at which input.
  Laid BY PROGRAM, IN A SANDBOX (cutbox-rows.mjs): the forced cells as the released guide's own fill.sh prints them over the translation 94a800b8e0667835… (all of the seat's roots in one cut). By AI agents, Wed Nov 11 2026. No macro, syntax, notation, axiom, sorry.
-/
import Derived.Test.YtigbnldmjafgmaaDoorChecked
import GoSem.Claim
import GoSem.ClaimJoined
import GoSem.ClaimMapViews
import Derived.JoinedTies
import Derived.KernelRfl
namespace Go.Proofs.YtigbnldmjafgmaaDoor
/- THE CELL 'sum', in the pinned program and in every row, IS THE sha256 OF THE DUMP (.gsa) THAT YtigbnldmjafgmaaDoorProg.lean LOADS. Nothing in Lean hashes anything: it is a label: what it is worth is what the hold of that sum in a sandbox is worth. -/
noncomputable def Tryd.pinned : Pinned := { name := "ytigbnldmjafgmaadoor", sum := "94a800b8e06678353823803ef210c101e502db8e75065f89e91ae6aba4ebfcb5", checked := Tryd.checked }
namespace Rows
def none {H : Type} : Left H := { results := [], args := [] }

/- WHAT THE LISTED PACKAGE-LEVEL VARIABLES READ AS WHEN THE CALL BEGINS. Each datum BY PROGRAM (the guide's laid-datum.mjs) off the statement by which the dump's own 'gosem.cut.vars' lays the variable. In a bare row this is a premise. The card (YtigbnldmjafgmaaDoorCards.lean) ties it to the program's text. -/
def laid_math_bits_deBruijn32tab {H : Type} : DataW H := .agg [.lit (.int .u8 0), .lit (.int .u8 1), .lit (.int .u8 28), .lit (.int .u8 2), .lit (.int .u8 29), .lit (.int .u8 14), .lit (.int .u8 24), .lit (.int .u8 3), .lit (.int .u8 30), .lit (.int .u8 22), .lit (.int .u8 20), .lit (.int .u8 15), .lit (.int .u8 25), .lit (.int .u8 17), .lit (.int .u8 4), .lit (.int .u8 8), .lit (.int .u8 31), .lit (.int .u8 27), .lit (.int .u8 13), .lit (.int .u8 23), .lit (.int .u8 21), .lit (.int .u8 19), .lit (.int .u8 16), .lit (.int .u8 7), .lit (.int .u8 26), .lit (.int .u8 12), .lit (.int .u8 18), .lit (.int .u8 6), .lit (.int .u8 11), .lit (.int .u8 5), .lit (.int .u8 10), .lit (.int .u8 9)]
def laid_math_bits_deBruijn64tab {H : Type} : DataW H := .agg [.lit (.int .u8 0), .lit (.int .u8 1), .lit (.int .u8 56), .lit (.int .u8 2), .lit (.int .u8 57), .lit (.int .u8 49), .lit (.int .u8 28), .lit (.int .u8 3), .lit (.int .u8 61), .lit (.int .u8 58), .lit (.int .u8 42), .lit (.int .u8 50), .lit (.int .u8 38), .lit (.int .u8 29), .lit (.int .u8 17), .lit (.int .u8 4), .lit (.int .u8 62), .lit (.int .u8 47), .lit (.int .u8 59), .lit (.int .u8 36), .lit (.int .u8 45), .lit (.int .u8 43), .lit (.int .u8 51), .lit (.int .u8 22), .lit (.int .u8 53), .lit (.int .u8 39), .lit (.int .u8 33), .lit (.int .u8 30), .lit (.int .u8 24), .lit (.int .u8 18), .lit (.int .u8 12), .lit (.int .u8 5), .lit (.int .u8 63), .lit (.int .u8 55), .lit (.int .u8 48), .lit (.int .u8 27), .lit (.int .u8 60), .lit (.int .u8 41), .lit (.int .u8 37), .lit (.int .u8 16), .lit (.int .u8 46), .lit (.int .u8 35), .lit (.int .u8 44), .lit (.int .u8 21), .lit (.int .u8 52), .lit (.int .u8 32), .lit (.int .u8 23), .lit (.int .u8 11), .lit (.int .u8 54), .lit (.int .u8 26), .lit (.int .u8 40), .lit (.int .u8 15), .lit (.int .u8 34), .lit (.int .u8 20), .lit (.int .u8 31), .lit (.int .u8 10), .lit (.int .u8 25), .lit (.int .u8 14), .lit (.int .u8 19), .lit (.int .u8 9), .lit (.int .u8 13), .lit (.int .u8 8), .lit (.int .u8 7), .lit (.int .u8 6)]
def laid_internal_strconv_uint64pow10 {H : Type} : DataW H := .agg [.lit (.int .u64 1), .lit (.int .u64 10), .lit (.int .u64 100), .lit (.int .u64 1000), .lit (.int .u64 10000), .lit (.int .u64 100000), .lit (.int .u64 1000000), .lit (.int .u64 10000000), .lit (.int .u64 100000000), .lit (.int .u64 1000000000), .lit (.int .u64 10000000000), .lit (.int .u64 100000000000), .lit (.int .u64 1000000000000), .lit (.int .u64 10000000000000), .lit (.int .u64 100000000000000), .lit (.int .u64 1000000000000000), .lit (.int .u64 10000000000000000), .lit (.int .u64 100000000000000000), .lit (.int .u64 1000000000000000000), .lit (.int .u64 10000000000000000000)]

/-- 'quillkeep.HouseRefuses': WHATEVER THE INPUT: true; the input reads as it did. -/
def houseRefusesSpec : ChangeSpec := { name := "houseRefuses", fn := fun _ => fun
  | [d1, d2, d3] => { results := [.lit (.bool true)], args := [d1, d2, d3] }
  | _ => none }
def houseRefusesRow : OpenClaim := { program := "ytigbnldmjafgmaadoor", sum := "94a800b8e06678353823803ef210c101e502db8e75065f89e91ae6aba4ebfcb5", func := "quillward/quillkeep.HouseRefuses", spec := "houseRefuses", unfollowed := true, recurses := true, named := ["internal/strconv.uint64pow10", "math/bits.deBruijn32tab", "math/bits.deBruijn64tab"], apart := false, laid := [("math/bits.deBruijn32tab", laid_math_bits_deBruijn32tab), ("math/bits.deBruijn64tab", laid_math_bits_deBruijn64tab), ("internal/strconv.uint64pow10", laid_internal_strconv_uint64pow10)] }
def HouseRefusesSaid : Prop := houseRefusesRow.holds Tryd.pinned (OpenSpec.ofChange houseRefusesSpec)

/-- ITS FALSE NEIGHBOUR: 'it returns false'. Refute it at one input. -/
def houseRefusesWrong : ChangeSpec := { name := "houseRefuses", fn := fun _ => fun
  | [d1, d2, d3] => { results := [.lit (.bool false)], args := [d1, d2, d3] }
  | _ => none }
def HouseRefusesWrongFalsely : Prop := houseRefusesRow.holds Tryd.pinned (OpenSpec.ofChange houseRefusesWrong)

/-- 'quillkeep.HouseSteps': WHATEVER THE INPUT: true; the input reads as it did. -/
def houseStepsSpec : ChangeSpec := { name := "houseSteps", fn := fun _ => fun
  | [d1, d2, d3] => { results := [.lit (.bool true)], args := [d1, d2, d3] }
  | _ => none }
def houseStepsRow : OpenClaim := { program := "ytigbnldmjafgmaadoor", sum := "94a800b8e06678353823803ef210c101e502db8e75065f89e91ae6aba4ebfcb5", func := "quillward/quillkeep.HouseSteps", spec := "houseSteps", unfollowed := true, recurses := true, named := ["internal/strconv.uint64pow10", "math/bits.deBruijn32tab", "math/bits.deBruijn64tab"], apart := false, laid := [("math/bits.deBruijn32tab", laid_math_bits_deBruijn32tab), ("math/bits.deBruijn64tab", laid_math_bits_deBruijn64tab), ("internal/strconv.uint64pow10", laid_internal_strconv_uint64pow10)] }
def HouseStepsSaid : Prop := houseStepsRow.holds Tryd.pinned (OpenSpec.ofChange houseStepsSpec)

/-- ITS FALSE NEIGHBOUR: 'it returns false'. Refute it at one input. -/
def houseStepsWrong : ChangeSpec := { name := "houseSteps", fn := fun _ => fun
  | [d1, d2, d3] => { results := [.lit (.bool false)], args := [d1, d2, d3] }
  | _ => none }
def HouseStepsWrongFalsely : Prop := houseStepsRow.holds Tryd.pinned (OpenSpec.ofChange houseStepsWrong)

/-- 'quillkeep.LogOwn': WHATEVER THE INPUT: true; the input reads as it did. -/
def logOwnSpec : ChangeSpec := { name := "logOwn", fn := fun _ => fun
  | [d1, d2] => { results := [.lit (.bool true)], args := [d1, d2] }
  | _ => none }
def logOwnRow : OpenClaim := { program := "ytigbnldmjafgmaadoor", sum := "94a800b8e06678353823803ef210c101e502db8e75065f89e91ae6aba4ebfcb5", func := "quillward/quillkeep.LogOwn", spec := "logOwn", unfollowed := true, recurses := true, named := ["internal/strconv.uint64pow10", "math/bits.deBruijn32tab", "math/bits.deBruijn64tab"], apart := false, laid := [("math/bits.deBruijn32tab", laid_math_bits_deBruijn32tab), ("math/bits.deBruijn64tab", laid_math_bits_deBruijn64tab), ("internal/strconv.uint64pow10", laid_internal_strconv_uint64pow10)] }
def LogOwnSaid : Prop := logOwnRow.holds Tryd.pinned (OpenSpec.ofChange logOwnSpec)

/-- ITS FALSE NEIGHBOUR: 'it returns false'. Refute it at one input. -/
def logOwnWrong : ChangeSpec := { name := "logOwn", fn := fun _ => fun
  | [d1, d2] => { results := [.lit (.bool false)], args := [d1, d2] }
  | _ => none }
def LogOwnWrongFalsely : Prop := logOwnRow.holds Tryd.pinned (OpenSpec.ofChange logOwnWrong)

/-- 'quillkeep.HouseKeeps': WHATEVER THE INPUT: true; the input reads as it did. -/
def houseKeepsSpec : ChangeSpec := { name := "houseKeeps", fn := fun _ => fun
  | [d1, d2, d3, d4] => { results := [.lit (.bool true)], args := [d1, d2, d3, d4] }
  | _ => none }
def houseKeepsRow : OpenClaim := { program := "ytigbnldmjafgmaadoor", sum := "94a800b8e06678353823803ef210c101e502db8e75065f89e91ae6aba4ebfcb5", func := "quillward/quillkeep.HouseKeeps", spec := "houseKeeps", unfollowed := true, recurses := true, named := ["internal/strconv.uint64pow10", "math/bits.deBruijn32tab", "math/bits.deBruijn64tab"], apart := false, laid := [("math/bits.deBruijn32tab", laid_math_bits_deBruijn32tab), ("math/bits.deBruijn64tab", laid_math_bits_deBruijn64tab), ("internal/strconv.uint64pow10", laid_internal_strconv_uint64pow10)] }
def HouseKeepsSaid : Prop := houseKeepsRow.holds Tryd.pinned (OpenSpec.ofChange houseKeepsSpec)

/-- ITS FALSE NEIGHBOUR: 'it returns false'. Refute it at one input. -/
def houseKeepsWrong : ChangeSpec := { name := "houseKeeps", fn := fun _ => fun
  | [d1, d2, d3, d4] => { results := [.lit (.bool false)], args := [d1, d2, d3, d4] }
  | _ => none }
def HouseKeepsWrongFalsely : Prop := houseKeepsRow.holds Tryd.pinned (OpenSpec.ofChange houseKeepsWrong)

/-- 'quillkeep.HouseNames': WHATEVER THE INPUT: true; the input reads as it did. -/
def houseNamesSpec : ChangeSpec := { name := "houseNames", fn := fun _ => fun
  | [d1, d2] => { results := [.lit (.bool true)], args := [d1, d2] }
  | _ => none }
def houseNamesRow : OpenClaim := { program := "ytigbnldmjafgmaadoor", sum := "94a800b8e06678353823803ef210c101e502db8e75065f89e91ae6aba4ebfcb5", func := "quillward/quillkeep.HouseNames", spec := "houseNames", unfollowed := true, recurses := true, named := ["internal/strconv.uint64pow10", "math/bits.deBruijn32tab", "math/bits.deBruijn64tab"], apart := false, laid := [("math/bits.deBruijn32tab", laid_math_bits_deBruijn32tab), ("math/bits.deBruijn64tab", laid_math_bits_deBruijn64tab), ("internal/strconv.uint64pow10", laid_internal_strconv_uint64pow10)] }
def HouseNamesSaid : Prop := houseNamesRow.holds Tryd.pinned (OpenSpec.ofChange houseNamesSpec)

/-- ITS FALSE NEIGHBOUR: 'it returns false'. Refute it at one input. -/
def houseNamesWrong : ChangeSpec := { name := "houseNames", fn := fun _ => fun
  | [d1, d2] => { results := [.lit (.bool false)], args := [d1, d2] }
  | _ => none }
def HouseNamesWrongFalsely : Prop := houseNamesRow.holds Tryd.pinned (OpenSpec.ofChange houseNamesWrong)

/-- 'quillkeep.HouseApart': WHATEVER THE INPUT: true; the input reads as it did. -/
def houseApartSpec : ChangeSpec := { name := "houseApart", fn := fun _ => fun
  | [d1, d2] => { results := [.lit (.bool true)], args := [d1, d2] }
  | _ => none }
def houseApartRow : OpenClaim := { program := "ytigbnldmjafgmaadoor", sum := "94a800b8e06678353823803ef210c101e502db8e75065f89e91ae6aba4ebfcb5", func := "quillward/quillkeep.HouseApart", spec := "houseApart", unfollowed := true, recurses := true, named := ["internal/strconv.uint64pow10", "math/bits.deBruijn32tab", "math/bits.deBruijn64tab"], apart := false, laid := [("math/bits.deBruijn32tab", laid_math_bits_deBruijn32tab), ("math/bits.deBruijn64tab", laid_math_bits_deBruijn64tab), ("internal/strconv.uint64pow10", laid_internal_strconv_uint64pow10)] }
def HouseApartSaid : Prop := houseApartRow.holds Tryd.pinned (OpenSpec.ofChange houseApartSpec)

/-- ITS FALSE NEIGHBOUR: 'it returns false'. Refute it at one input. -/
def houseApartWrong : ChangeSpec := { name := "houseApart", fn := fun _ => fun
  | [d1, d2] => { results := [.lit (.bool false)], args := [d1, d2] }
  | _ => none }
def HouseApartWrongFalsely : Prop := houseApartRow.holds Tryd.pinned (OpenSpec.ofChange houseApartWrong)

/-- 'quilltop.TopHouse': WHATEVER THE INPUT: true; the input reads as it did. -/
def topHouseSpec : ChangeSpec := { name := "topHouse", fn := fun _ => fun
  | [d1, d2, d3] => { results := [.lit (.bool true)], args := [d1, d2, d3] }
  | _ => none }
def topHouseRow : OpenClaim := { program := "ytigbnldmjafgmaadoor", sum := "94a800b8e06678353823803ef210c101e502db8e75065f89e91ae6aba4ebfcb5", func := "quillward/quilltop.TopHouse", spec := "topHouse", inPlace := ["internal/bytealg.abigen_runtime_cmpstring"], unfollowed := true, recurses := true, named := ["internal/strconv.uint64pow10", "math/bits.deBruijn32tab", "math/bits.deBruijn64tab"], apart := false, laid := [("math/bits.deBruijn32tab", laid_math_bits_deBruijn32tab), ("math/bits.deBruijn64tab", laid_math_bits_deBruijn64tab), ("internal/strconv.uint64pow10", laid_internal_strconv_uint64pow10)] }
def TopHouseSaid : Prop := topHouseRow.holds Tryd.pinned (OpenSpec.ofChange topHouseSpec)

/-- ITS FALSE NEIGHBOUR: 'it returns false'. Refute it at one input. -/
def topHouseWrong : ChangeSpec := { name := "topHouse", fn := fun _ => fun
  | [d1, d2, d3] => { results := [.lit (.bool false)], args := [d1, d2, d3] }
  | _ => none }
def TopHouseWrongFalsely : Prop := topHouseRow.holds Tryd.pinned (OpenSpec.ofChange topHouseWrong)

/- THE SECOND FORM. 'bulk': how many values and letters a reading holds, each counted each time it is reached (what is shared counts as often as it is met; a slice's spare places count too). A statement '..UptoSaid' is the law's where the arguments, and the package variables that the reading takes, are together of bulk at most 1048576: NARROWER than '..Said'. Prove '..Said' where nothing that the law and all that it calls make is longer than what came in: it says more and counts as full. Else prove '..UptoSaid'. A law counts once. -/
mutual
def uptoBulk {H : Type} : DataW H → Nat
  | .lit (.string bytes) => bytes.length + 1
  | .lit _ => 1
  | .nil => 1
  | .ptr d => uptoBulk d + 1
  | .slice elems spare => uptoBulkAll elems + uptoBulkAll spare + 1
  | .agg parts => uptoBulkAll parts + 1
  | .iface _ d => uptoBulk d + 1
  | .map entries => uptoBulkEntries entries + 1
  | .held _ => 1
def uptoBulkAll {H : Type} : List (DataW H) → Nat
  | [] => 0
  | d :: r => uptoBulk d + uptoBulkAll r
def uptoBulkEntries {H : Type} : List (Lit × DataW H) → Nat
  | [] => 0
  | x :: r => uptoBulkEntry x + uptoBulkEntries r
def uptoBulkEntry {H : Type} : Lit × DataW H → Nat
  | (.string bytes, d) => bytes.length + uptoBulk d + 1
  | (_, d) => uptoBulk d + 1
 end
def uptoSmall : (H : Type) → List (DataW H) → Bool := fun _ ds => decide (uptoBulkAll ds ≤ 1048576)
def OpenSpec.upto (s : _root_.Go.ChangeSpec) : _root_.Go.OpenSpec := { _root_.Go.OpenSpec.ofChange s with cond := some uptoSmall }

/-- 'quillkeep.HouseRefuses', WHERE WHAT IT READS IS OF BULK AT MOST 1048576: true; the input reads as it did. -/
def houseRefusesUptoRow : OpenClaim := { program := "ytigbnldmjafgmaadoor", sum := "94a800b8e06678353823803ef210c101e502db8e75065f89e91ae6aba4ebfcb5", func := "quillward/quillkeep.HouseRefuses", spec := "houseRefuses", unfollowed := true, recurses := true, named := ["internal/strconv.uint64pow10", "math/bits.deBruijn32tab", "math/bits.deBruijn64tab"], apart := false, laid := [("math/bits.deBruijn32tab", laid_math_bits_deBruijn32tab), ("math/bits.deBruijn64tab", laid_math_bits_deBruijn64tab), ("internal/strconv.uint64pow10", laid_internal_strconv_uint64pow10)], narrowed := true }
def HouseRefusesUptoSaid : Prop := houseRefusesUptoRow.holds Tryd.pinned (OpenSpec.upto houseRefusesSpec)

/-- 'quillkeep.HouseSteps', WHERE WHAT IT READS IS OF BULK AT MOST 1048576: true; the input reads as it did. -/
def houseStepsUptoRow : OpenClaim := { program := "ytigbnldmjafgmaadoor", sum := "94a800b8e06678353823803ef210c101e502db8e75065f89e91ae6aba4ebfcb5", func := "quillward/quillkeep.HouseSteps", spec := "houseSteps", unfollowed := true, recurses := true, named := ["internal/strconv.uint64pow10", "math/bits.deBruijn32tab", "math/bits.deBruijn64tab"], apart := false, laid := [("math/bits.deBruijn32tab", laid_math_bits_deBruijn32tab), ("math/bits.deBruijn64tab", laid_math_bits_deBruijn64tab), ("internal/strconv.uint64pow10", laid_internal_strconv_uint64pow10)], narrowed := true }
def HouseStepsUptoSaid : Prop := houseStepsUptoRow.holds Tryd.pinned (OpenSpec.upto houseStepsSpec)

/-- 'quillkeep.LogOwn', WHERE WHAT IT READS IS OF BULK AT MOST 1048576: true; the input reads as it did. -/
def logOwnUptoRow : OpenClaim := { program := "ytigbnldmjafgmaadoor", sum := "94a800b8e06678353823803ef210c101e502db8e75065f89e91ae6aba4ebfcb5", func := "quillward/quillkeep.LogOwn", spec := "logOwn", unfollowed := true, recurses := true, named := ["internal/strconv.uint64pow10", "math/bits.deBruijn32tab", "math/bits.deBruijn64tab"], apart := false, laid := [("math/bits.deBruijn32tab", laid_math_bits_deBruijn32tab), ("math/bits.deBruijn64tab", laid_math_bits_deBruijn64tab), ("internal/strconv.uint64pow10", laid_internal_strconv_uint64pow10)], narrowed := true }
def LogOwnUptoSaid : Prop := logOwnUptoRow.holds Tryd.pinned (OpenSpec.upto logOwnSpec)

/-- 'quillkeep.HouseKeeps', WHERE WHAT IT READS IS OF BULK AT MOST 1048576: true; the input reads as it did. -/
def houseKeepsUptoRow : OpenClaim := { program := "ytigbnldmjafgmaadoor", sum := "94a800b8e06678353823803ef210c101e502db8e75065f89e91ae6aba4ebfcb5", func := "quillward/quillkeep.HouseKeeps", spec := "houseKeeps", unfollowed := true, recurses := true, named := ["internal/strconv.uint64pow10", "math/bits.deBruijn32tab", "math/bits.deBruijn64tab"], apart := false, laid := [("math/bits.deBruijn32tab", laid_math_bits_deBruijn32tab), ("math/bits.deBruijn64tab", laid_math_bits_deBruijn64tab), ("internal/strconv.uint64pow10", laid_internal_strconv_uint64pow10)], narrowed := true }
def HouseKeepsUptoSaid : Prop := houseKeepsUptoRow.holds Tryd.pinned (OpenSpec.upto houseKeepsSpec)

/-- 'quillkeep.HouseNames', WHERE WHAT IT READS IS OF BULK AT MOST 1048576: true; the input reads as it did. -/
def houseNamesUptoRow : OpenClaim := { program := "ytigbnldmjafgmaadoor", sum := "94a800b8e06678353823803ef210c101e502db8e75065f89e91ae6aba4ebfcb5", func := "quillward/quillkeep.HouseNames", spec := "houseNames", unfollowed := true, recurses := true, named := ["internal/strconv.uint64pow10", "math/bits.deBruijn32tab", "math/bits.deBruijn64tab"], apart := false, laid := [("math/bits.deBruijn32tab", laid_math_bits_deBruijn32tab), ("math/bits.deBruijn64tab", laid_math_bits_deBruijn64tab), ("internal/strconv.uint64pow10", laid_internal_strconv_uint64pow10)], narrowed := true }
def HouseNamesUptoSaid : Prop := houseNamesUptoRow.holds Tryd.pinned (OpenSpec.upto houseNamesSpec)

/-- 'quillkeep.HouseApart', WHERE WHAT IT READS IS OF BULK AT MOST 1048576: true; the input reads as it did. -/
def houseApartUptoRow : OpenClaim := { program := "ytigbnldmjafgmaadoor", sum := "94a800b8e06678353823803ef210c101e502db8e75065f89e91ae6aba4ebfcb5", func := "quillward/quillkeep.HouseApart", spec := "houseApart", unfollowed := true, recurses := true, named := ["internal/strconv.uint64pow10", "math/bits.deBruijn32tab", "math/bits.deBruijn64tab"], apart := false, laid := [("math/bits.deBruijn32tab", laid_math_bits_deBruijn32tab), ("math/bits.deBruijn64tab", laid_math_bits_deBruijn64tab), ("internal/strconv.uint64pow10", laid_internal_strconv_uint64pow10)], narrowed := true }
def HouseApartUptoSaid : Prop := houseApartUptoRow.holds Tryd.pinned (OpenSpec.upto houseApartSpec)

/-- 'quilltop.TopHouse', WHERE WHAT IT READS IS OF BULK AT MOST 1048576: true; the input reads as it did. -/
def topHouseUptoRow : OpenClaim := { program := "ytigbnldmjafgmaadoor", sum := "94a800b8e06678353823803ef210c101e502db8e75065f89e91ae6aba4ebfcb5", func := "quillward/quilltop.TopHouse", spec := "topHouse", inPlace := ["internal/bytealg.abigen_runtime_cmpstring"], unfollowed := true, recurses := true, named := ["internal/strconv.uint64pow10", "math/bits.deBruijn32tab", "math/bits.deBruijn64tab"], apart := false, laid := [("math/bits.deBruijn32tab", laid_math_bits_deBruijn32tab), ("math/bits.deBruijn64tab", laid_math_bits_deBruijn64tab), ("internal/strconv.uint64pow10", laid_internal_strconv_uint64pow10)], narrowed := true }
def TopHouseUptoSaid : Prop := topHouseUptoRow.holds Tryd.pinned (OpenSpec.upto topHouseSpec)

end Rows
end Go.Proofs.YtigbnldmjafgmaaDoor
