/- A float operation run anywhere, a drawn region too: its word is one function of the operands and the world. No condition. -/
import Derived.Test.YtajcbdamgaofcaaDoorMem
set_option linter.unusedVariables false
set_option linter.unusedSimpArgs false
namespace Go.Proofs.YtajcbdamgaofcaaDoor
open Go.RowKit
open FlCore

/-- The word that an operation gives. -/
def fw (op : BinOp) (x y : Nat) (w : World) : Nat := match floatBits op .f64 x y with | some r => r | none => nanOf x y w
/-- How often it draws. -/
def fk (op : BinOp) (x y : Nat) : Nat := match floatBits op .f64 x y with | some _ => 0 | none => 1

theorem run_fw {P : Program} (w : World) (op : BinOp) (t : TypeId) (x y : Nat) (hop : op = .add ∨ op = .sub ∨ op = .mul ∨ op = .quo) :
    (binOp op t (.float .f64 x) (.float .f64 y)).run P w = .ok (.float .f64 (fw op x y w)) (w.drewN (fk op x y)) := by
  unfold fw fk
  cases hb : floatBits op .f64 x y with
  | some r => rw [run_float_arith w op t .f64 x y r hb]; rfl
  | none => rw [run_floatArith_nan w op t x y hop hb]; rfl
theorem fw_is (op : BinOp) {x y a b : Nat} (hx : Is x a) (hy : Is y b) (w : World) : Is (fw op x y w) (fop op a b) := by
  have e : fop op x y = fop op a b := by rw [← hx.eq, ← hy.eq, fop_of op hx.lt hy.lt]
  rw [← e]
  unfold fw fop
  cases hb : floatBits op .f64 x y with
  | some r =>
    have h1 := floatBits_notNan hb
    exact ⟨h1.1, canon_num h1.2⟩
  | none =>
    have h1 := nanOf_spec x y w
    exact ⟨h1.1, canon_nan h1.2⟩
theorem run_fadd {P : Program} (w : World) (t : TypeId) (x y : Nat) : (binOp .add t (.float .f64 x) (.float .f64 y)).run P w = .ok (.float .f64 (fw .add x y w)) (w.drewN (fk .add x y)) := run_fw w .add t x y (by simp)
theorem run_fsub {P : Program} (w : World) (t : TypeId) (x y : Nat) : (binOp .sub t (.float .f64 x) (.float .f64 y)).run P w = .ok (.float .f64 (fw .sub x y w)) (w.drewN (fk .sub x y)) := run_fw w .sub t x y (by simp)
theorem run_fmul {P : Program} (w : World) (t : TypeId) (x y : Nat) : (binOp .mul t (.float .f64 x) (.float .f64 y)).run P w = .ok (.float .f64 (fw .mul x y w)) (w.drewN (fk .mul x y)) := run_fw w .mul t x y (by simp)
theorem run_fquo {P : Program} (w : World) (t : TypeId) (x y : Nat) : (binOp .quo t (.float .f64 x) (.float .f64 y)).run P w = .ok (.float .f64 (fw .quo x y w)) (w.drewN (fk .quo x y)) := run_fw w .quo t x y (by simp)

end Go.Proofs.YtajcbdamgaofcaaDoor
