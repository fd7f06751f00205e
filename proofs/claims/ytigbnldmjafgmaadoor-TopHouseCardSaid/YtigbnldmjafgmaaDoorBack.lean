/- The walks of the laws' helpers cut (at most so many bytes) and back (from behind), and of slices.Reverse on bytes. -/
import Derived.Test.YtigbnldmjafgmaaDoorRows
import Derived.Test.YtigbnldmjafgmaaDoorLib
import Derived.Test.YtigbnldmjafgmaaDoorPlain
import Derived.RegionTactic
import Derived.ChangeAlike
import Derived.Lib.Strings
namespace Go.Proofs.YtigbnldmjafgmaaDoor
open Go.RowKit
set_option linter.unusedVariables false

theorem ba_ext {a b : ByteArray} (h : a.data.toList = b.data.toList) : a = b := by
  obtain ⟨⟨a⟩⟩ := a
  obtain ⟨⟨b⟩⟩ := b
  simp at h
  rw [h]
theorem ba_of (a : ByteArray) : ByteArray.mk a.data.toList.toArray = a := ba_ext (by simp)




end Go.Proofs.YtigbnldmjafgmaaDoor
