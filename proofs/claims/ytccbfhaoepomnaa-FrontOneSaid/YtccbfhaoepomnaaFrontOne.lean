/- FrontOne's walk: encoding inverts decoding. -/
import Derived.Test.YtccbfhaoepomnaaFrontLaws
import Derived.Test.YtccbfhaoepomnaaArgs
namespace Go.Proofs.Ytccbfhaoepomnaa
open Go.RowKit
set_option linter.unusedVariables false

set_option maxHeartbeats 1000000 in
theorem frontOne_walk (A : Option Addr) (len cap : Nat) (l : List Int) (w : World) (hl : IntsIn w A len cap l) :
    Calls Try.prog 6 #[.slice A len cap] w fun e w' => e = .returned (.bool true) ∧ Below w.heap.size w w' := by
  obtain ⟨hll, hrd, hlen, _⟩ := hl
  have Hll := Lib.hid hll
  clear hll
  go_enter Try.func6, Try.ntmps6
  go_wp2_with fail
  refine (fronts_any _).mono ?_
  rintro e w1 ⟨rfl, hb1⟩
  have hrd1 := hrd.below hb1
  go_wp2_with fail
  refine (frontGet_any A len cap w.heap.size l _ (by omega) Hll.out hrd1 hb1.size).mono ?_
  rintro e w2 ⟨hb2, ⟨hok, rfl⟩ | ⟨hno, E, hE, rfl⟩⟩
  · have hlen2 : (ByteArray.mk (decF shelf0 l).toArray).size = len := by rw [← Hll.out]; exact decF_length shelf0 l
    have hl200 := hok.1
    rw [Hll.out] at hl200
    have h1 := frontPut_ok ⟨(decF shelf0 l).toArray⟩ (by omega)
    rw [show (ByteArray.mk (decF shelf0 l).toArray).data.toList = decF shelf0 l from rfl, enc_dec shelf0_ok l hok.2, hlen2] at h1
    have H1 := Lib.hid h1
    have hrd2 := hrd1.below' hb2 hb1.size
    have hbw := chain hb2 hb1
    clear h1 hlen2 hok hb1 hb2 hrd1
    generalize ByteArray.mk (decF shelf0 l).toArray = t at *
    go_wp2_with fail
    refine (H1.out _).mono ?_
    rintro e w3 ⟨A3, c3, rfl, hr3, hb3, hc3⟩
    have hrd3 := hrd2.below (hb3.mono hbw.size)
    have hbw3 := chain hb3 hbw
    go_wp2_with fail
    refine (equalInt_any A A3 len len cap c3 _ _ l l _ (by omega) (by omega) Hll.out Hll.out hrd3 hr3).mono ?_
    rintro e w4 ⟨rfl, hb4⟩
    have q1 : decide (l = l) = true := by simp
    go_wp2
    go_ret
    exact ⟨by simp, chain hb4 hbw3⟩
  · have q1 : (E != 0) = true := by simpa using hE
    go_wp2
    go_ret
    exact ⟨rfl, chain hb2 hb1⟩

end Go.Proofs.Ytccbfhaoepomnaa
