/- l2move: the reference's move of a value. Written by genjvc.py. Conditions: the index is one of the graph's. -/
import Derived.Test.YtaaelokodfildaaJvb
set_option linter.unusedVariables false
set_option linter.unusedSimpArgs false
namespace Go.Proofs.Ytaaelokodfildaa
open Go.Am

def mvLin (op n : Int) (vs : List Val) (ta tb : Int) : List Val × Int :=
  if 0 ≤ ta ∧ 0 ≤ tb then (vs ++ [opV op n ta tb 0], (vs.length : Int)) else if 0 ≤ ta then (vs, ta) else if 0 ≤ tb ∧ op = 3 then (vs ++ [opV 6 n tb 0 0], (vs.length : Int)) else (vs, tb)
def st1 (op n b : Int) (vs : List Val) (ta : Int) : List Val × Int := if 0 ≤ ta then (vs ++ [opV op n ta b 0], (vs.length : Int)) else (vs, -1)
def st2m (n a : Int) (vs : List Val) (tb : Int) : List Val × Int := if 0 ≤ tb then (vs ++ [opV 4 n a tb 0], (vs.length : Int)) else (vs, -1)
def st2d (n i b : Int) (vs : List Val) (tb : Int) : List Val × Int := if 0 ≤ tb then (vs ++ [opV 4 n i tb 0] ++ [opV 5 n (vs.length : Int) b 0], (vs.length : Int) + 1) else (vs, -1)
def st3m (n : Int) (vs : List Val) (p q : Int) : List Val × Int := if 0 ≤ p ∧ 0 ≤ q then (vs ++ [opV 2 n p q 0], (vs.length : Int)) else if 0 ≤ p then (vs, p) else (vs, q)
def st3d (n : Int) (vs : List Val) (p q : Int) : List Val × Int := if 0 ≤ p ∧ 0 ≤ q then (vs ++ [opV 3 n p q 0], (vs.length : Int)) else if 0 ≤ p then (vs, p) else if 0 ≤ q then (vs ++ [opV 6 n q 0 0], (vs.length : Int)) else (vs, q)
def mvMul (v : Val) (vs : List Val) (ta tb : Int) : List Val × Int := st3m v.len (st2m v.len v.a (st1 v.op v.len v.b vs ta).1 tb).1 (st1 v.op v.len v.b vs ta).2 (st2m v.len v.a (st1 v.op v.len v.b vs ta).1 tb).2
def mvDiv (v : Val) (i : Int) (vs : List Val) (ta tb : Int) : List Val × Int := st3d v.len (st2d v.len i v.b (st1 v.op v.len v.b vs ta).1 tb).1 (st1 v.op v.len v.b vs ta).2 (st2d v.len i v.b (st1 v.op v.len v.b vs ta).1 tb).2
def mvMax (v : Val) (vs : List Val) (ta tb : Int) : List Val × Int := if ta < 0 ∧ tb < 0 then (vs, -1) else
  ((orP (orP (vs ++ [opV 3 v.len v.a v.b 0]) ta v.len).1 tb v.len).1 ++ [opV 8 v.len (vs.length : Int) (orP (vs ++ [opV 3 v.len v.a v.b 0]) ta v.len).2 (orP (orP (vs ++ [opV 3 v.len v.a v.b 0]) ta v.len).1 tb v.len).2], ((orP (orP (vs ++ [opV 3 v.len v.a v.b 0]) ta v.len).1 tb v.len).1.length : Int))
def mvSel (v : Val) (vs : List Val) (tb tc : Int) : List Val × Int := if tb < 0 ∧ tc < 0 then (vs, -1) else
  ((orP (orP vs tb v.len).1 tc v.len).1 ++ [opV 8 v.len v.a (orP vs tb v.len).2 (orP (orP vs tb v.len).1 tc v.len).2], ((orP (orP vs tb v.len).1 tc v.len).1.length : Int))
def mvOne (v : Val) (i : Int) (vs : List Val) (ta : Int) : List Val × Int := if ta < 0 then (vs, -1) else (vs ++ [if v.op = 13 then opV 4 v.len ta i 0 else opV v.op v.len ta 0 v.c], (vs.length : Int))
/-- The move of value i, put behind. -/
def moveP (vs : List Val) (v : Val) (i ta tb tc : Int) : List Val × Int :=
  if v.op = 2 ∨ v.op = 3 then mvLin v.op v.len vs ta tb else if v.op = 4 then mvMul v vs ta tb else if v.op = 5 then mvDiv v i vs ta tb else if v.op = 7 then mvMax v vs ta tb else if v.op = 8 then mvSel v vs tb tc else mvOne v i vs ta
theorem orP_len (vs : List Val) (a n : Int) : vs.length ≤ (orP vs a n).1.length ∧ (orP vs a n).1.length ≤ vs.length + 1 := by unfold orP; split <;> simp
theorem l2last_put (K : Heap) (p q r : Option Addr) (g : Graph) (v : Val) (hl : (putG g v).vals.length ≤ 1000000) : PC Try.prog 37 [gV p q r (putG g v)] K (.int .i64 (g.vals.length : Int)) := by
  have := l2last_pc K p q r (putG g v) hl
  rw [show ((putG g v).vals.length : Int) - 1 = g.vals.length by simp [putG]] at this
  exact this
end Go.Proofs.Ytaaelokodfildaa
