/- '+', '-', '*', '/' of floats in a walk, whatever the operands: the result's word is the one that the operands' words give, all NaNs being one. No condition. -/
import Derived.Test.YtajcbdamgaofcaaDoorFlFrom
set_option linter.unusedVariables false
set_option linter.unusedSimpArgs false
namespace Go.Proofs.YtajcbdamgaofcaaDoor
open Go.RowKit
open FlCore

/-- The result of an operation, all NaNs being one. -/
def fop (op : BinOp) (x y : Nat) : Nat := (floatBits op .f64 x y).getD 9221120237041090560

theorem write_notNan (d : Ieee.Datum) (h : d.isNaN = false) : isNan (Ieee.double.write d) = false := by
  have hw : ∀ s r, r ≤ 9218868437227405312 → isNan (Ieee.double.word s r) = false := fun s r h => isNan_lo s r h
  cases d with
  | number s m p =>
    show isNan (Ieee.double.nearest s m p) = false
    unfold Ieee.Format.nearest
    dsimp only
    split
    · exact hw _ _ (by omega)
    · refine hw _ _ ?_
      rw [inf_double]
      exact Nat.min_le_right _ _
  | infinity s =>
    show isNan (Ieee.double.word s Ieee.double.infRung) = false
    rw [inf_double]
    exact hw _ _ (by omega)
  | nan s f => simp [Ieee.Datum.isNaN] at h

theorem sum_notNan {x y d : Ieee.Datum} (h : x.sum y = some d) : d.isNaN = false := by
  cases x <;> cases y <;> simp only [Ieee.Datum.sum] at h <;> (try split at h) <;> (try cases h) <;> rfl
theorem product_notNan {x y d : Ieee.Datum} (h : x.product y = some d) : d.isNaN = false := by
  cases x <;> cases y <;> simp only [Ieee.Datum.product] at h <;> (try split at h) <;> (try cases h) <;> rfl
theorem quotient_notNan {x y d : Ieee.Datum} {n : Nat} (h : x.quotient n y = some d) : d.isNaN = false := by
  cases x <;> cases y <;> simp only [Ieee.Datum.quotient] at h <;> (try split at h) <;> (try split at h) <;> (try cases h) <;> rfl

theorem floatBits_notNan {op : BinOp} {x y r : Nat} (h : floatBits op .f64 x y = some r) : r < 18446744073709551616 ∧ isNan r = false := by
  have hw := floatBits_wf h
  refine ⟨by simpa [Lit.wf] using hw, ?_⟩
  unfold floatBits at h
  split at h
  · obtain ⟨d, h1, h2⟩ := Option.map_eq_some_iff.1 (show ((Ieee.double.read x).sum (Ieee.double.read y)).map Ieee.double.write = some r from h)
    rw [← h2]; exact write_notNan d (sum_notNan h1)
  · obtain ⟨d, h1, h2⟩ := Option.map_eq_some_iff.1 (show ((Ieee.double.read x).sum (Ieee.double.read y).opposite).map Ieee.double.write = some r from h)
    rw [← h2]; exact write_notNan d (sum_notNan h1)
  · obtain ⟨d, h1, h2⟩ := Option.map_eq_some_iff.1 (show ((Ieee.double.read x).product (Ieee.double.read y)).map Ieee.double.write = some r from h)
    rw [← h2]; exact write_notNan d (product_notNan h1)
  · obtain ⟨d, h1, h2⟩ := Option.map_eq_some_iff.1 (show ((Ieee.double.read x).quotient _ (Ieee.double.read y)).map Ieee.double.write = some r from h)
    rw [← h2]; exact write_notNan d (quotient_notNan h1)
  · cases h

theorem fop_canon (op : BinOp) (x y : Nat) : canon (fop op x y) = fop op x y := by
  unfold fop
  cases h : floatBits op .f64 x y
  · decide
  · exact canon_num (floatBits_notNan h).2

/-- Which NaN an operand is does not matter. -/
theorem nan_read {x : Nat} (hx : x < 18446744073709551616) (h : isNan x = true) : ∃ s f, Ieee.double.read x = .nan s f := by
  obtain ⟨s, r, hr, rfl⟩ := word_of x hx
  rw [isNan_word s r hr, decide_eq_true_eq] at h
  exact ⟨_, _, read_nan s r h hr⟩

theorem floatBits_nan_left (op : BinOp) {x : Nat} (y : Nat) (hx : x < 18446744073709551616) (h : isNan x = true) : floatBits op .f64 x y = none := by
  obtain ⟨s, f, e⟩ := nan_read hx h
  unfold floatBits
  split
  · show ((Ieee.double.read x).sum (Ieee.double.read y)).map Ieee.double.write = none
    rw [e]; rfl
  · show ((Ieee.double.read x).sum (Ieee.double.read y).opposite).map Ieee.double.write = none
    rw [e]; rfl
  · show ((Ieee.double.read x).product (Ieee.double.read y)).map Ieee.double.write = none
    rw [e]; rfl
  · show ((Ieee.double.read x).quotient _ (Ieee.double.read y)).map Ieee.double.write = none
    rw [e]; rfl
  · rfl

theorem floatBits_nan_right (op : BinOp) (x : Nat) {y : Nat} (hy : y < 18446744073709551616) (h : isNan y = true) : floatBits op .f64 x y = none := by
  obtain ⟨s, f, e⟩ := nan_read hy h
  unfold floatBits
  split
  · show ((Ieee.double.read x).sum (Ieee.double.read y)).map Ieee.double.write = none
    rw [e]; cases Ieee.double.read x <;> rfl
  · show ((Ieee.double.read x).sum (Ieee.double.read y).opposite).map Ieee.double.write = none
    rw [e]; cases Ieee.double.read x <;> rfl
  · show ((Ieee.double.read x).product (Ieee.double.read y)).map Ieee.double.write = none
    rw [e]; cases Ieee.double.read x <;> rfl
  · show ((Ieee.double.read x).quotient _ (Ieee.double.read y)).map Ieee.double.write = none
    rw [e]; cases Ieee.double.read x <;> rfl
  · rfl

theorem canon_lt {x : Nat} (hx : x < 18446744073709551616) : canon x < 18446744073709551616 := by
  unfold canon; split <;> omega

theorem fop_of (op : BinOp) {x y : Nat} (hx : x < 18446744073709551616) (hy : y < 18446744073709551616) : fop op (canon x) (canon y) = fop op x y := by
  cases h1 : isNan x
  · rw [canon_num h1]
    cases h2 : isNan y
    · rw [canon_num h2]
    · unfold fop; rw [floatBits_nan_right op x hy h2, floatBits_nan_right op x (canon_lt hy) (by rw [canon_isNan, h2])]
  · unfold fop; rw [floatBits_nan_left op y hx h1, floatBits_nan_left op _ (canon_lt hx) (by rw [canon_isNan, h1])]

theorem run_floatArith_nan {P : Program} (w : World) (op : BinOp) (t : TypeId) (x y : Nat) (hop : op = .add ∨ op = .sub ∨ op = .mul ∨ op = .quo) (h : floatBits op .f64 x y = none) :
    (binOp op t (.float .f64 x) (.float .f64 y)).run P w = .ok (.float .f64 (nanOf x y w)) w.drew := by
  have e : binOp op t (.float .f64 x) (.float .f64 y) = (do pure (Value.float .f64 (← choose (.nanBits .f64 x y)))) := by
    unfold floatBits at h
    rcases hop with rfl | rfl | rfl | rfl <;> simp only at h
    · show Op.floatArith .add .f64 x y = _
      unfold Op.floatArith; simp only [h]; rfl
    · show Op.floatArith .sub .f64 x y = _
      unfold Op.floatArith; simp only [h]; rfl
    · show Op.floatArith .mul .f64 x y = _
      unfold Op.floatArith; simp only [h]; rfl
    · show Op.floatArith .quo .f64 x y = _
      unfold Op.floatArith; simp only [h]; rfl
  rw [e]
  rfl

/-- In a walk. -/
theorem wpList_flt {P : Program} {ops : Array Oper} {rest : List Oper} {o : Oper} {a : Act} {w : World} {Q : Exit → Act → World → Prop} (hgd : o.guard = none)
    (op : BinOp) (t t' : TypeId) (x y : Operand) (ho : o.op = .binOp op t x y t') (bx by_ : Nat) (hx : a.eval x = .float .f64 bx) (hy : a.eval y = .float .f64 by_)
    (hop : op = .add ∨ op = .sub ∨ op = .mul ∨ op = .quo)
    (h : ∀ r n, r < 18446744073709551616 → canon r = fop op bx by_ → wpList P ops Q rest (a.put o.dst (.float .f64 r)) (w.drewN n)) : wpList P ops Q (o :: rest) a w := by
  refine wpList_plain hgd fun K hK => ?_
  have hg : ∀ u v : Value, (eqGuard op t x y u v).run P w = .ok () w := by
    intro u v
    rcases hop with rfl | rfl | rfl | rfl <;> rfl
  unfold Oper.wp execOp
  simp only [ho, hx, hy, Sem.run_bind, hg, Result.andThen_ok]
  cases hb : floatBits op .f64 bx by_ with
  | some r =>
    rw [run_float_arith w op t .f64 bx by_ r hb]
    have h1 := floatBits_notNan hb
    exact hK _ _ (h r 0 h1.1 (by rw [canon_num h1.2]; unfold fop; rw [hb]; rfl))
  | none =>
    rw [run_floatArith_nan w op t bx by_ hop hb]
    have h1 := nanOf_spec bx by_ w
    exact hK _ _ (h _ 1 h1.1 (by rw [canon_nan h1.2]; unfold fop; rw [hb]; rfl))

end Go.Proofs.YtajcbdamgaofcaaDoor
