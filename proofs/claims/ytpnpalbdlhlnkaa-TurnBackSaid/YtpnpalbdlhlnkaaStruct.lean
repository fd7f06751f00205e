/- How the program's own structs are built and compared: facts of this translation. -/
import Derived.Test.YtpnpalbdlhlnkaaRows
import Derived.Test.YtpnpalbdlhlnkaaLib
import Derived.Laws.StructEq
import Derived.Laws.Tables
namespace Go.Proofs.Ytpnpalbdlhlnkaa
open Go.RowKit
set_option linter.unusedVariables false

/-- The cells of one Run. -/
def cRun (x : UInt8 × Int) : List Value := [.int .u8 ((x.1).toNat : Int), .int .i64 (x.2)]
theorem cRun_len (x : UInt8 × Int) : (cRun x).length = 2 := rfl
theorem cRun_inj (x y : UInt8 × Int) (h : cRun x = cRun y) : x = y := by
  simp only [cRun, List.cons.injEq, Value.int.injEq, and_true, true_and] at h
  obtain ⟨h0, h1⟩ := h
  obtain ⟨x0, x1⟩ := x
  obtain ⟨y0, y1⟩ := y
  have e0 : x0 = y0 := UInt8.toNat_inj.1 (by have := h0; simp only at this; omega)
  have e1 : x1 = y1 := h1
  rw [e0, e1]


/-- The cells of one Phrase. -/
def cPhrase (x : Int × UInt8) : List Value := [.int .i64 (x.1), .int .u8 ((x.2).toNat : Int)]
theorem cPhrase_len (x : Int × UInt8) : (cPhrase x).length = 2 := rfl
theorem cPhrase_inj (x y : Int × UInt8) (h : cPhrase x = cPhrase y) : x = y := by
  simp only [cPhrase, List.cons.injEq, Value.int.injEq, and_true, true_and] at h
  obtain ⟨h0, h1⟩ := h
  obtain ⟨x0, x1⟩ := x
  obtain ⟨y0, y1⟩ := y
  have e0 : x0 = y0 := h0
  have e1 : x1 = y1 := UInt8.toNat_inj.1 (by have := h1; simp only at this; omega)
  rw [e0, e1]


/-- The cells of one Edit. -/
def cEdit (x : Int × Int × ByteArray) : List Value := [.int .i64 (x.1), .int .i64 (x.2.1), .string (x.2.2)]
theorem cEdit_len (x : Int × Int × ByteArray) : (cEdit x).length = 3 := rfl
theorem cEdit_inj (x y : Int × Int × ByteArray) (h : cEdit x = cEdit y) : x = y := by
  simp only [cEdit, List.cons.injEq, Value.int.injEq, Value.string.injEq, and_true, true_and] at h
  obtain ⟨h0, h1, h2⟩ := h
  obtain ⟨x0, x1, x2⟩ := x
  obtain ⟨y0, y1, y2⟩ := y
  have e0 : x0 = y0 := h0
  have e1 : x1 = y1 := h1
  have e2 : x2 = y2 := h2
  rw [e0, e1, e2]


/-- The cells of one Op. -/
def cOp (x : Int × Int × UInt8) : List Value := [.int .i64 (x.1), .int .i64 (x.2.1), .int .u8 ((x.2.2).toNat : Int)]
theorem cOp_len (x : Int × Int × UInt8) : (cOp x).length = 3 := rfl
theorem cOp_inj (x y : Int × Int × UInt8) (h : cOp x = cOp y) : x = y := by
  simp only [cOp, List.cons.injEq, Value.int.injEq, and_true, true_and] at h
  obtain ⟨h0, h1, h2⟩ := h
  obtain ⟨x0, x1, x2⟩ := x
  obtain ⟨y0, y1, y2⟩ := y
  have e0 : x0 = y0 := h0
  have e1 : x1 = y1 := h1
  have e2 : x2 = y2 := UInt8.toNat_inj.1 (by have := h2; simp only at this; omega)
  rw [e0, e1, e2]


/-- The cells of one Hit. -/
def cHit (x : Int × Int) : List Value := [.int .i64 (x.1), .int .i64 (x.2)]
theorem cHit_len (x : Int × Int) : (cHit x).length = 2 := rfl
theorem cHit_inj (x y : Int × Int) (h : cHit x = cHit y) : x = y := by
  simp only [cHit, List.cons.injEq, Value.int.injEq, and_true, true_and] at h
  obtain ⟨h0, h1⟩ := h
  obtain ⟨x0, x1⟩ := x
  obtain ⟨y0, y1⟩ := y
  have e0 : x0 = y0 := h0
  have e1 : x1 = y1 := h1
  rw [e0, e1]


/-- The cells of one Int. -/
def cInt (x : Int) : List Value := [.int .i64 (x)]
theorem cInt_len (x : Int) : (cInt x).length = 1 := rfl
theorem cInt_inj (x y : Int) (h : cInt x = cInt y) : x = y := by
  simp only [cInt, List.cons.injEq, Value.int.injEq, and_true, true_and] at h
  exact h

/-- The cells of one Str. -/
def cStr (x : ByteArray) : List Value := [.string (x)]
theorem cStr_len (x : ByteArray) : (cStr x).length = 1 := rfl
theorem cStr_inj (x y : ByteArray) (h : cStr x = cStr y) : x = y := by
  simp only [cStr, List.cons.injEq, Value.string.injEq, and_true] at h
  exact h

/-- The cells of one Byte. -/
def cByte (x : UInt8) : List Value := [.int .u8 ((x).toNat : Int)]
theorem cByte_len (x : UInt8) : (cByte x).length = 1 := rfl
theorem cByte_inj (x y : UInt8) (h : cByte x = cByte y) : x = y := by
  simp only [cByte, List.cons.injEq, Value.int.injEq, and_true, true_and] at h
  exact UInt8.toNat_inj.1 (by omega)

/-- The cells of one Errno. -/
def cErrno (x : Int) : List Value := [.int .i64 (x)]
theorem cErrno_len (x : Int) : (cErrno x).length = 1 := rfl
theorem cErrno_inj (x y : Int) (h : cErrno x = cErrno y) : x = y := by
  simp only [cErrno, List.cons.injEq, Value.int.injEq, and_true, true_and] at h
  exact h

end Go.Proofs.Ytpnpalbdlhlnkaa
