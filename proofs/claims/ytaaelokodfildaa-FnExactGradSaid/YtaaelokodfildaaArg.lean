/- Arguments of the laws' own types as values of the abstract machine. No condition. -/
import Derived.Test.YtaaelokodfildaaDat
import Derived.Test.YtaaelokodfildaaAmOpen
import Derived.WalkKit
import Derived.OpenShut
namespace Go.Proofs.Ytaaelokodfildaa
open Go.ChangeShapes Go.WideShapes Go.ChangeAt Go.RowKit Go.Am
set_option linter.unusedVariables false
set_option linter.unusedSimpArgs false
set_option maxRecDepth 100000
theorem cellsInt : Try.prog.cellsOf 3 = 1 := by kernel_rfl
theorem cellsFlt : Try.prog.cellsOf 39 = 1 := by kernel_rfl
theorem cellsVal : Try.prog.cellsOf 71 = 6 := by kernel_rfl
theorem cellsInts : Try.prog.cellsOf 22 = 1 := by kernel_rfl
theorem cellsVals : Try.prog.cellsOf 23 = 1 := by kernel_rfl
theorem cellsGraph : Try.prog.cellsOf 25 = 3 := by kernel_rfl

theorem elem_Val (w : World) : ElemA Try.prog w 71 dVal (fun _ => True) := by
  intro H enc spare held fuel cs x h
  obtain ⟨xs, n, _, _, hl, hx, hf⟩ := DataW.trod_struct Try.underlying71 h
  rw [cellsVal] at hl
  match cs, hl, xs, hx with
  | [c0, c1, c2, c3, c4, c5], _, [x0, x1, x2, x3, x4, x5], _ =>
    have q0 : DataW.trod enc Try.prog w 0 spare held n 3 (List.take (Try.prog.cellsOf 3) (List.drop 0 [c0, c1, c2, c3, c4, c5])) = some x0 := hf 0 _ rfl
    have q1 : DataW.trod enc Try.prog w 0 spare held n 3 (List.take (Try.prog.cellsOf 3) (List.drop 1 [c0, c1, c2, c3, c4, c5])) = some x1 := hf 1 _ rfl
    have q2 : DataW.trod enc Try.prog w 0 spare held n 3 (List.take (Try.prog.cellsOf 3) (List.drop 2 [c0, c1, c2, c3, c4, c5])) = some x2 := hf 2 _ rfl
    have q3 : DataW.trod enc Try.prog w 0 spare held n 3 (List.take (Try.prog.cellsOf 3) (List.drop 3 [c0, c1, c2, c3, c4, c5])) = some x3 := hf 3 _ rfl
    have q4 : DataW.trod enc Try.prog w 0 spare held n 3 (List.take (Try.prog.cellsOf 3) (List.drop 4 [c0, c1, c2, c3, c4, c5])) = some x4 := hf 4 _ rfl
    have q5 : DataW.trod enc Try.prog w 0 spare held n 39 (List.take (Try.prog.cellsOf 39) (List.drop 5 [c0, c1, c2, c3, c4, c5])) = some x5 := hf 5 _ rfl
    rw [cellsInt] at q0 q1 q2 q3 q4
    rw [cellsFlt] at q5
    obtain ⟨y0, r0, f0, g0⟩ := elem_int Try.underlying3 _ [c0] x0 q0
    obtain ⟨y1, r1, f1, g1⟩ := elem_int Try.underlying3 _ [c1] x1 q1
    obtain ⟨y2, r2, f2, g2⟩ := elem_int Try.underlying3 _ [c2] x2 q2
    obtain ⟨y3, r3, f3, g3⟩ := elem_int Try.underlying3 _ [c3] x3 q3
    obtain ⟨y4, r4, f4, g4⟩ := elem_int Try.underlying3 _ [c4] x4 q4
    obtain ⟨y5, r5, f5, g5⟩ := elem_flt Try.underlying39 _ [c5] x5 q5
    refine ⟨⟨y0, y1, y2, y3, y4, y5⟩, fun ρ => (r0 ρ).append ((r1 ρ).append ((r2 ρ).append ((r3 ρ).append ((r4 ρ).append (r5 ρ))))), fun v hv => ?_, trivial⟩
    simp [dVal, vcells] at hv
    rcases hv with rfl | rfl | rfl | rfl | rfl | rfl <;> rfl

theorem spot_of {w : World} {r : Reach} {base : Nat} {t e : TypeId} {v : Value} (ht : Try.prog.underlying t = some (.slice e)) (h : Cell.okWide Try.prog w r base t v) {a : Addr} {l c : Nat} (hv : v = .slice (some a) l c) : a.spot = none := by
  subst hv
  unfold Cell.okWide at h
  rw [ht] at h
  unfold Cell.ok at h
  rw [ht] at h
  exact h.2.2.2.1

theorem argGraph {H : Type} {enc : TypeId × Value → H} {w : World} {spare : Nat → Bool} {held : Bool} {r : Reach} {base : Nat} {v : Value} {d : DataW H} {ps : List MemPlace}
    (hv : Value.okWide Try.prog w r base 25 v) (h : DataW.Trod enc Try.prog w 0 spare held 25 v d ps) :
    ∃ g : Graph, g.ins.length ≤ 9223372036854775807 ∧ g.vals.length ≤ 9223372036854775807 ∧ g.outs.length ≤ 9223372036854775807 ∧
      ∀ ρ H0, HRel ρ ro H0 w → ∃ ρ' H' p q r, Rho.le ρ ρ' ∧ Ext H0 H' ∧ HRel ρ' ro H' w ∧ VRel ρ' (gV p q r g) v ∧ RdG H' p q r g := by
  have hv' := hv
  simp only [Value.okWide, Try.underlying25] at hv'
  obtain ⟨cs, rfl, hsz, ts, hts, _, hcell⟩ := hv'
  have hts' : Try.prog.cellTypes Try.prog.depth 25 = some [22, 23, 22] := by kernel_rfl
  rw [hts'] at hts; cases hts
  obtain ⟨fuel, h⟩ := h
  obtain ⟨xs, n, _, _, hl, hx, hf⟩ := DataW.trod_struct Try.underlying25 h
  rw [cellsGraph] at hsz
  match cs, hsz, xs, hx with
  | ⟨[c0, c1, c2]⟩, _, [x0, x1, x2], _ =>
    have q0 : DataW.trod enc Try.prog w 0 spare held n 22 (List.take (Try.prog.cellsOf 22) (List.drop 0 [c0, c1, c2])) = some x0 := hf 0 _ rfl
    have q1 : DataW.trod enc Try.prog w 0 spare held n 23 (List.take (Try.prog.cellsOf 23) (List.drop 1 [c0, c1, c2])) = some x1 := hf 1 _ rfl
    have q2 : DataW.trod enc Try.prog w 0 spare held n 22 (List.take (Try.prog.cellsOf 22) (List.drop 2 [c0, c1, c2])) = some x2 := hf 2 _ rfl
    rw [cellsInts] at q0 q2
    rw [cellsVals] at q1
    obtain ⟨u0, e0, k0⟩ := hcell 0 c0 rfl
    obtain ⟨u1, e1, k1⟩ := hcell 1 c1 rfl
    obtain ⟨u2, e2, k2⟩ := hcell 2 c2 rfl
    cases e0
    cases e1
    cases e2
    obtain ⟨l0, _, b0, o0⟩ := open_sl (d := dInt) Try.underlying22 cellsInt (elem_int Try.underlying3) (cs := [c0]) q0 (fun a l c hq => spot_of Try.underlying22 k0 (List.cons.inj hq).1)
    obtain ⟨l1, _, b1, o1⟩ := open_sl (d := dVal) Try.underlying23 cellsVal (elem_Val w) (cs := [c1]) q1 (fun a l c hq => spot_of Try.underlying23 k1 (List.cons.inj hq).1)
    obtain ⟨l2, _, b2, o2⟩ := open_sl (d := dInt) Try.underlying22 cellsInt (elem_int Try.underlying3) (cs := [c2]) q2 (fun a l c hq => spot_of Try.underlying22 k2 (List.cons.inj hq).1)
    refine ⟨⟨l0, l1, l2⟩, b0, b1, b2, fun ρ H0 hr => ?_⟩
    obtain ⟨ρ1, H1, p, s1, s2, s3, s4, s5⟩ := o0 ρ H0 hr
    obtain ⟨ρ2, H2, q, t1, t2, t3, t4, t5⟩ := o1 ρ1 H1 s3
    obtain ⟨ρ3, H3, r, v1, v2, v3, v4, v5⟩ := o2 ρ2 H2 t3
    exact ⟨ρ3, H3, p, q, r, Rho.le_trans (Rho.le_trans s1 t1) v1, (s2.trans t2).trans v2, v3, .agg (((s4.mono (Rho.le_trans t1 v1)).append (t4.mono v1)).append v4), (s5.mono t2).mono v2, t5.mono v2, v5⟩


/-- Arguments are opened one after the other. -/
def Arg (w : World) (v : Value) (Q : Heap → Value → Prop) : Prop := ∀ ρ H0, HRel ρ ro H0 w → ∃ ρ' H' u, Rho.le ρ ρ' ∧ Ext H0 H' ∧ HRel ρ' ro H' w ∧ VRel ρ' u v ∧ Q H' u
theorem argG {w : World} {base : Nat} {v : Value} {H : Type} {enc : TypeId × Value → H} {d : DataW H} {ps : List MemPlace} (hv : Value.okWide Try.prog w .any base 25 v) (h : DataW.Trod enc Try.prog w 0 (fun _ => true) true 25 v d ps) :
    ∃ g : Graph, g.ins.length ≤ 9223372036854775807 ∧ g.vals.length ≤ 9223372036854775807 ∧ g.outs.length ≤ 9223372036854775807 ∧ Arg w v fun H u => ∃ p q r, u = gV p q r g ∧ RdG H p q r g := by
  obtain ⟨g, b0, b1, b2, h⟩ := argGraph hv h
  refine ⟨g, b0, b1, b2, fun ρ H0 hr => ?_⟩
  obtain ⟨ρ', H', p, q, r, h1, h2, h3, h4, h5⟩ := h ρ H0 hr
  exact ⟨ρ', H', _, h1, h2, h3, h4, p, q, r, rfl, h5⟩
theorem argVal {w : World} {base : Nat} {v : Value} {H : Type} {enc : TypeId × Value → H} {d : DataW H} {ps : List MemPlace} (hv : Value.okWide Try.prog w .any base 71 v) (h : DataW.Trod enc Try.prog w 0 (fun _ => true) true 71 v d ps) :
    ∃ y : Val, Arg w v fun H u => u = valV y := by
  obtain ⟨cs, rfl, hsz⟩ := okWide_struct Try.underlying71 hv
  obtain ⟨fuel, h⟩ := h
  obtain ⟨y, h1, _, _⟩ := elem_Val w fuel cs.toList _ h
  exact ⟨y, fun ρ H0 hr => ⟨ρ, H0, _, Rho.le_refl _, Ext.refl _, hr, .agg (h1 ρ), rfl⟩⟩
theorem argSl {α : Type} [Inhabited α] {t e : TypeId} {de : Enc α} {G : α → Prop} {w : World} (ht : Try.prog.underlying t = some (.slice e)) (hc : Try.prog.cellsOf e = de.sz) (he : ElemA Try.prog w e de G) {base : Nat} {v : Value} {H : Type} {enc : TypeId × Value → H} {d : DataW H} {ps : List MemPlace}
    (hv : Value.okWide Try.prog w .any base t v) (h : DataW.Trod enc Try.prog w 0 (fun _ => true) true t v d ps) :
    ∃ xs : List α, (∀ y ∈ xs, G y) ∧ xs.length ≤ 9223372036854775807 ∧ Arg w v fun H u => ∃ a, u = sv a xs ∧ Rd de H a xs := by
  obtain ⟨a, len, cap, rfl⟩ := okWide_slice ht hv
  obtain ⟨fuel, h⟩ := h
  have hs : ∀ a' l c, [Value.slice a len cap] = [.slice (some a') l c] → a'.spot = none := fun a' l c hq => by
    have hv' : Cell.okWide Try.prog w .any base t (.slice a len cap) := by unfold Value.okWide at hv; rw [ht] at hv; exact hv
    exact spot_of ht hv' (List.cons.inj hq).1
  obtain ⟨xs, g1, g2, g3⟩ := open_sl (d := de) ht hc he (cs := [.slice a len cap]) h hs
  refine ⟨xs, g1, g2, fun ρ H0 hr => ?_⟩
  obtain ⟨ρ', H', p, h1, h2, h3, h4, h5⟩ := g3 ρ H0 hr
  cases h4 with
  | cons h4 _ => exact ⟨ρ', H', _, h1, h2, h3, h4, p, rfl, h5⟩
theorem argInt {w : World} {base : Nat} {v : Value} {H : Type} {enc : TypeId × Value → H} {d : DataW H} {ps : List MemPlace} (hv : Value.okWide Try.prog w .any base 3 v) (h : DataW.Trod enc Try.prog w 0 (fun _ => true) true 3 v d ps) :
    ∃ n : Int, -9223372036854775808 ≤ n ∧ n ≤ 9223372036854775807 ∧ Arg w v fun H u => u = .int .i64 n := by
  obtain ⟨a, rfl, _, _, w0⟩ := open_int Try.underlying3 hv h
  refine ⟨a, ?_, ?_, fun ρ H0 hr => ⟨ρ, H0, _, Rho.le_refl _, Ext.refl _, hr, .int _ _, rfl⟩⟩
  · simp [Lit.wf, IntKind.min, IntKind.max, IntKind.signed, IntKind.bits] at w0; omega
  · simp [Lit.wf, IntKind.min, IntKind.max, IntKind.signed, IntKind.bits] at w0; omega
end Go.Proofs.Ytaaelokodfildaa
