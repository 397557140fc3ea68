/- Kernels: what both sides' functions over floats compute. Conditions: lists of at most 2^20 elements. -/
import Derived.Test.YtaaelokodfildaaGv
import Derived.Test.YtaaelokodfildaaFlExp
set_option linter.unusedVariables false
set_option linter.unusedSimpArgs false
namespace Go.Proofs.Ytaaelokodfildaa
open Go.Am
open FlCore (canon isNan)

def fneg (x : Nat) : Nat := canon (Op.negFloat .f64 x)
def gtF (x y : Nat) : Bool := ordF x y == some .gt
theorem Is.expF {b x : Nat} (h : Is b x) : expF b = expF x := by
  cases hn : isNan b
  · rw [← h.eq, canon_num hn]
  · have : isNan x = true := by rw [← h.eq, canon_isNan, hn]
    unfold Proofs.Ytaaelokodfildaa.expF
    rw [hn, this]; rfl
theorem pflt {x y : Nat} {H : Heap} (h : x = y) : AEnd.ret (.float .f64 x) = .ret (.float .f64 y) ∧ H = H := pret (congrArg _ h)

/-- One element of an elementwise operation. -/
def one (op : Int) (x y z : Nat) : Nat :=
  if op = 2 then fop .add x y else if op = 3 then fop .sub x y else if op = 4 then fop .mul x y else if op = 5 then fop .quo x y
  else if op = 6 then fneg x else if op = 7 then (if gtF x y then x else y) else if op = 8 then (if gtF x 0 then y else z) else expF x
def fsum : List Nat → Nat
  | [] => 0
  | x :: r => r.foldl (fop .add) x
theorem fsum_snoc {xs : List Nat} (h : xs ≠ []) (y : Nat) : fsum (xs ++ [y]) = fop .add (fsum xs) y := by
  cases xs with
  | nil => exact absurd rfl h
  | cons x r => simp [fsum]
/-! the program's helpers -/
end Go.Proofs.Ytaaelokodfildaa
