/- Numbers as floats. No condition. -/
import Derived.Test.YtlcocgoaphpjkaaAmMark
set_option linter.unusedVariables false
set_option linter.unusedSimpArgs false
namespace Go.Proofs.Ytlcocgoaphpjkaa
open Go.Am

/-- A number as a float. -/
def fI (n : Int) : Nat := FloatKind.f64.nearest n
theorem fI_ne (n : Int) : (ordF (fI n) (fI n) != some .eq) = false := by
  have h := nan_ne (fI n) (nearest_is n).lt
  have h2 : FlCore.isNan (fI n) = false := by
    have e : fI n = Ieee.double.write (.number (decide (n < 0)) n.natAbs 0) := rfl
    rw [e]; exact write_notNan _ rfl
  rw [h2] at h
  exact h
end Go.Proofs.Ytlcocgoaphpjkaa
