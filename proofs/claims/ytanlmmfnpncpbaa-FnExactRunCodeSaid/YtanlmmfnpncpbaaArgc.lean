/- A code as an argument of the laws' own types. No condition. -/
import Derived.Test.YtanlmmfnpncpbaaArg
import Derived.Test.YtanlmmfnpncpbaaCode
namespace Go.Proofs.Ytanlmmfnpncpbaa
open Go.ChangeShapes Go.WideShapes Go.ChangeAt Go.RowKit Go.Am
set_option linter.unusedVariables false
set_option linter.unusedSimpArgs false
set_option maxRecDepth 100000
theorem cellsStep : Try.prog.cellsOf 75 = 8 := by kernel_rfl
theorem elem_Step (w : World) : ElemA Try.prog w 75 dStep (fun _ => True) := by
  intro H enc spare held fuel cs x h
  obtain ⟨xs, n, _, _, hl, hx, hf⟩ := DataW.trod_struct Try.underlying75 h
  rw [cellsStep] at hl
  match cs, hl, xs, hx with
  | [c0, c1, c2, c3, c4, c5, c6, c7], _, [x0, x1, x2, x3, x4, x5, x6, x7], _ =>
    have q0 : DataW.trod enc Try.prog w 0 spare held n 3 (List.take (Try.prog.cellsOf 3) (List.drop 0 [c0, c1, c2, c3, c4, c5, c6, c7])) = some x0 := hf 0 _ rfl
    have q1 : DataW.trod enc Try.prog w 0 spare held n 3 (List.take (Try.prog.cellsOf 3) (List.drop 1 [c0, c1, c2, c3, c4, c5, c6, c7])) = some x1 := hf 1 _ rfl
    have q2 : DataW.trod enc Try.prog w 0 spare held n 3 (List.take (Try.prog.cellsOf 3) (List.drop 2 [c0, c1, c2, c3, c4, c5, c6, c7])) = some x2 := hf 2 _ rfl
    have q3 : DataW.trod enc Try.prog w 0 spare held n 3 (List.take (Try.prog.cellsOf 3) (List.drop 3 [c0, c1, c2, c3, c4, c5, c6, c7])) = some x3 := hf 3 _ rfl
    have q4 : DataW.trod enc Try.prog w 0 spare held n 3 (List.take (Try.prog.cellsOf 3) (List.drop 4 [c0, c1, c2, c3, c4, c5, c6, c7])) = some x4 := hf 4 _ rfl
    have q5 : DataW.trod enc Try.prog w 0 spare held n 3 (List.take (Try.prog.cellsOf 3) (List.drop 5 [c0, c1, c2, c3, c4, c5, c6, c7])) = some x5 := hf 5 _ rfl
    have q6 : DataW.trod enc Try.prog w 0 spare held n 3 (List.take (Try.prog.cellsOf 3) (List.drop 6 [c0, c1, c2, c3, c4, c5, c6, c7])) = some x6 := hf 6 _ rfl
    have q7 : DataW.trod enc Try.prog w 0 spare held n 61 (List.take (Try.prog.cellsOf 61) (List.drop 7 [c0, c1, c2, c3, c4, c5, c6, c7])) = some x7 := hf 7 _ rfl
    rw [cellsInt] at q0
    rw [cellsInt] at q1
    rw [cellsInt] at q2
    rw [cellsInt] at q3
    rw [cellsInt] at q4
    rw [cellsInt] at q5
    rw [cellsInt] at q6
    rw [cellsFlt] at q7
    obtain ⟨y0, r0, f0, g0⟩ := elem_int Try.underlying3 _ [c0] x0 q0
    obtain ⟨y1, r1, f1, g1⟩ := elem_int Try.underlying3 _ [c1] x1 q1
    obtain ⟨y2, r2, f2, g2⟩ := elem_int Try.underlying3 _ [c2] x2 q2
    obtain ⟨y3, r3, f3, g3⟩ := elem_int Try.underlying3 _ [c3] x3 q3
    obtain ⟨y4, r4, f4, g4⟩ := elem_int Try.underlying3 _ [c4] x4 q4
    obtain ⟨y5, r5, f5, g5⟩ := elem_int Try.underlying3 _ [c5] x5 q5
    obtain ⟨y6, r6, f6, g6⟩ := elem_int Try.underlying3 _ [c6] x6 q6
    obtain ⟨y7, r7, f7, g7⟩ := elem_flt Try.underlying61 _ [c7] x7 q7
    refine ⟨⟨y0, y1, y2, y3, y4, y5, y6, y7⟩, fun ρ => ((r0 ρ).append ((r1 ρ).append ((r2 ρ).append ((r3 ρ).append ((r4 ρ).append ((r5 ρ).append ((r6 ρ).append (r7 ρ)))))))), fun v hv => ?_, trivial⟩
    simp [dStep, stepcells] at hv
    rcases hv with rfl | rfl | rfl | rfl | rfl | rfl | rfl | rfl <;> rfl
theorem cellsSpan : Try.prog.cellsOf 77 = 2 := by kernel_rfl
theorem elem_Span (w : World) : ElemA Try.prog w 77 dSpan (fun _ => True) := by
  intro H enc spare held fuel cs x h
  obtain ⟨xs, n, _, _, hl, hx, hf⟩ := DataW.trod_struct Try.underlying77 h
  rw [cellsSpan] at hl
  match cs, hl, xs, hx with
  | [c0, c1], _, [x0, x1], _ =>
    have q0 : DataW.trod enc Try.prog w 0 spare held n 3 (List.take (Try.prog.cellsOf 3) (List.drop 0 [c0, c1])) = some x0 := hf 0 _ rfl
    have q1 : DataW.trod enc Try.prog w 0 spare held n 3 (List.take (Try.prog.cellsOf 3) (List.drop 1 [c0, c1])) = some x1 := hf 1 _ rfl
    rw [cellsInt] at q0
    rw [cellsInt] at q1
    obtain ⟨y0, r0, f0, g0⟩ := elem_int Try.underlying3 _ [c0] x0 q0
    obtain ⟨y1, r1, f1, g1⟩ := elem_int Try.underlying3 _ [c1] x1 q1
    refine ⟨⟨y0, y1⟩, fun ρ => ((r0 ρ).append (r1 ρ)), fun v hv => ?_, trivial⟩
    simp [dSpan, spancells] at hv
    rcases hv with rfl | rfl <;> rfl
theorem cellsSteps : Try.prog.cellsOf 23 = 1 := by kernel_rfl
theorem cellsSpans : Try.prog.cellsOf 24 = 1 := by kernel_rfl
theorem cellsCode : Try.prog.cellsOf 26 = 4 := by kernel_rfl
theorem argC {w : World} {base : Nat} {v : Value} {H : Type} {enc : TypeId × Value → H} {d : DataW H} {ps : List MemPlace} (hv : Value.okWide Try.prog w .any base 26 v) (h : DataW.Trod enc Try.prog w 0 (fun _ => true) true 26 v d ps) :
    ∃ c : Code', c.ins.length ≤ 9223372036854775807 ∧ c.steps.length ≤ 9223372036854775807 ∧ c.outs.length ≤ 9223372036854775807 ∧ Arg w v fun H u => ∃ p q r, u = cV p q r c ∧ RdC H p q r c := by
  have hv' := hv
  simp only [Value.okWide, Try.underlying26] at hv'
  obtain ⟨cs, rfl, hsz, ts, hts, _, hcell⟩ := hv'
  have hts' : Try.prog.cellTypes Try.prog.depth 26 = some [22, 23, 24, 3] := by kernel_rfl
  rw [hts'] at hts; cases hts
  obtain ⟨fuel, h⟩ := h
  obtain ⟨xs, n, _, _, hl, hx, hf⟩ := DataW.trod_struct Try.underlying26 h
  rw [cellsCode] at hsz
  match cs, hsz, xs, hx with
  | ⟨[c0, c1, c2, c3]⟩, _, [x0, x1, x2, x3], _ =>
    have q0 : DataW.trod enc Try.prog w 0 (fun _ => true) true n 22 (List.take (Try.prog.cellsOf 22) (List.drop 0 [c0, c1, c2, c3])) = some x0 := hf 0 _ rfl
    have q1 : DataW.trod enc Try.prog w 0 (fun _ => true) true n 23 (List.take (Try.prog.cellsOf 23) (List.drop 1 [c0, c1, c2, c3])) = some x1 := hf 1 _ rfl
    have q2 : DataW.trod enc Try.prog w 0 (fun _ => true) true n 24 (List.take (Try.prog.cellsOf 24) (List.drop 2 [c0, c1, c2, c3])) = some x2 := hf 2 _ rfl
    have q3 : DataW.trod enc Try.prog w 0 (fun _ => true) true n 3 (List.take (Try.prog.cellsOf 3) (List.drop 3 [c0, c1, c2, c3])) = some x3 := hf 3 _ rfl
    rw [cellsInts] at q0
    rw [cellsSteps] at q1
    rw [cellsSpans] at q2
    rw [cellsInt] at q3
    obtain ⟨u0, e0, k0⟩ := hcell 0 c0 rfl
    obtain ⟨u1, e1, k1⟩ := hcell 1 c1 rfl
    obtain ⟨u2, e2, k2⟩ := hcell 2 c2 rfl
    cases e0
    cases e1
    cases e2
    obtain ⟨l0, _, b0, o0⟩ := open_sl (d := dInt) Try.underlying22 cellsInt (elem_int Try.underlying3) (cs := [c0]) q0 (fun a l c hq => spot_of Try.underlying22 k0 (List.cons.inj hq).1)
    obtain ⟨l1, _, b1, o1⟩ := open_sl (d := dStep) Try.underlying23 cellsStep (elem_Step w) (cs := [c1]) q1 (fun a l c hq => spot_of Try.underlying23 k1 (List.cons.inj hq).1)
    obtain ⟨l2, _, b2, o2⟩ := open_sl (d := dSpan) Try.underlying24 cellsSpan (elem_Span w) (cs := [c2]) q2 (fun a l c hq => spot_of Try.underlying24 k2 (List.cons.inj hq).1)
    obtain ⟨y, r3, _, _⟩ := elem_int Try.underlying3 _ [c3] x3 q3
    refine ⟨⟨l0, l1, l2, y⟩, b0, b1, b2, fun ρ H0 hr => ?_⟩
    obtain ⟨ρ1, H1, p, s1, s2, s3, s4, s5⟩ := o0 ρ H0 hr
    obtain ⟨ρ2, H2, q, t1, t2, t3, t4, t5⟩ := o1 ρ1 H1 s3
    obtain ⟨ρ3, H3, r, v1, v2, v3, v4, v5⟩ := o2 ρ2 H2 t3
    exact ⟨ρ3, H3, _, Rho.le_trans (Rho.le_trans s1 t1) v1, (s2.trans t2).trans v2, v3, .agg ((((s4.mono (Rho.le_trans t1 v1)).append (t4.mono v1)).append v4).append (r3 ρ3)), p, q, r, rfl, ⟨(s5.mono t2).mono v2, t5.mono v2, v5⟩⟩
end Go.Proofs.Ytanlmmfnpncpbaa
