/- ExpFloat, the program's and the reference's: both are one function of the operand's word, all NaNs being one. No condition but that a float's word has 64 bits. -/
import Derived.Test.YtaaelokodfildaaMem
set_option linter.unusedVariables false
set_option linter.unusedSimpArgs false
namespace Go.Proofs.Ytaaelokodfildaa
open Go.RowKit
open FlCore

/-- The float of a small whole number. -/
def fint (n : Nat) : Nat := floatOfInt .f64 (n : Int)
/-- The series, n steps of it, from the last on. -/
def ser (r : Nat) : Nat → Nat
  | 0 => 4607182418800017408
  | n + 1 => fop .add (fop .quo (fop .mul r (ser r n)) (fint (14 - n))) 4607182418800017408
def sq (p : Nat) : Nat → Nat
  | 0 => p
  | n + 1 => fop .mul (sq p n) (sq p n)

theorem fint_lt (n : Nat) : fint n < 18446744073709551616 := by
  have := floatOfInt_wf .f64 (n : Int)
  unfold fint
  simpa [Lit.wf] using this

theorem ser_canon (r n : Nat) : canon (ser r n) = ser r n := by
  cases n with
  | zero => exact canon_num (show isNan 4607182418800017408 = false by decide)
  | succ n => exact fop_canon _ _ _

theorem Is.op {b c x y : Nat} (op : BinOp) (h : Is b x) (k : Is c y) : fop op b c = fop op x y := by
  rw [← h.eq, ← k.eq]; exact (fop_of op h.lt k.lt).symm
theorem Is.num {x : Nat} (h : x < 18446744073709551616) (h2 : isNan x = false) : Is x x := ⟨h, canon_num h2⟩
theorem fint_num (n : Nat) : isNan (fint n) = false := write_notNan (.number (decide ((n : Int) < 0)) (n : Int).natAbs 0) rfl
theorem Is.fint (n : Nat) : Is (fint n) (fint n) := .num (fint_lt n) (fint_num n)
theorem Is.one : Is 4607182418800017408 4607182418800017408 := .num (by omega) (by decide)
theorem Is.mk' {b x : Nat} (op : BinOp) {c d : Nat} (hb : b < 18446744073709551616) (h : canon b = fop op c d) (hx : fop op c d = x) : Is b x := ⟨hb, h.trans hx⟩

theorem one_zero (wx : World) : (binOp .quo 39 (.float .f64 4607182418800017408) (.float .f64 0)).run Try.prog wx = .ok (.float .f64 9218868437227405312) wx := by
  have := one_over false wx
  rw [word_def, word_def] at this
  exact this

/-- What both ExpFloats give. -/
def expF (x : Nat) : Nat :=
  if isNan x then 9221120237041090560
  else if FloatKind.f64.format.order x 4652007308841189376 == some .gt then 9218868437227405312
  else if FloatKind.f64.format.order x 13875379345695965184 == some .lt then 0
  else sq (ser (fop .quo x 4652218415073722368) 14) 10

theorem Is.inf : Is 9218868437227405312 9218868437227405312 := .num (by omega) (by decide)
theorem Is.zero : Is 0 0 := .num (by omega) (by decide)
theorem is_fop {b : Nat} (op : BinOp) {c d : Nat} (hb : b < 18446744073709551616) (h : canon b = fop op c d) : Is b (fop op c d) := ⟨hb, h⟩

end Go.Proofs.Ytaaelokodfildaa
