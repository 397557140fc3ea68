/- FnExactValidGraph: the law returns true for every input. No condition. -/
import Derived.Test.YtkmhbppimkphbaaRows
import Derived.Test.YtkmhbppimkphbaaLvg
import Derived.Test.YtkmhbppimkphbaaAmOpen
import Derived.WalkKit
import Derived.ProofKit
import Derived.OpenShut
import Derived.SizedLaws
import Derived.Laws.Cover2
namespace Go.Proofs.Ytkmhbppimkphbaa.fnExactValidGraph
open Go.ChangeShapes Go.WideShapes Go.ChangeAt Go.RowKit Go.Am
set_option linter.unusedVariables false
set_option linter.unusedSimpArgs false
theorem own : ownKnob Try.prog.godebug = none := by kernel_rfl
theorem laidOut : laidOutB Try.prog = true := by kernel_rfl
theorem cellsInt : Try.prog.cellsOf 3 = 1 := by kernel_rfl
theorem cellsFlt : Try.prog.cellsOf 23 = 1 := by kernel_rfl
theorem cellsVal : Try.prog.cellsOf 50 = 6 := by kernel_rfl
theorem cellsInts : Try.prog.cellsOf 37 = 1 := by kernel_rfl
theorem cellsVals : Try.prog.cellsOf 38 = 1 := by kernel_rfl
theorem cellsGraph : Try.prog.cellsOf 40 = 3 := by kernel_rfl

theorem elem_Val (w : World) : ElemA Try.prog w 50 dVal (fun _ => True) := by
  intro H enc spare held fuel cs x h
  obtain ⟨xs, n, _, _, hl, hx, hf⟩ := DataW.trod_struct Try.underlying50 h
  rw [cellsVal] at hl
  match cs, hl, xs, hx with
  | [c0, c1, c2, c3, c4, c5], _, [x0, x1, x2, x3, x4, x5], _ =>
    have q0 : DataW.trod enc Try.prog w 0 spare held n 3 (List.take (Try.prog.cellsOf 3) (List.drop 0 [c0, c1, c2, c3, c4, c5])) = some x0 := hf 0 _ rfl
    have q1 : DataW.trod enc Try.prog w 0 spare held n 3 (List.take (Try.prog.cellsOf 3) (List.drop 1 [c0, c1, c2, c3, c4, c5])) = some x1 := hf 1 _ rfl
    have q2 : DataW.trod enc Try.prog w 0 spare held n 3 (List.take (Try.prog.cellsOf 3) (List.drop 2 [c0, c1, c2, c3, c4, c5])) = some x2 := hf 2 _ rfl
    have q3 : DataW.trod enc Try.prog w 0 spare held n 3 (List.take (Try.prog.cellsOf 3) (List.drop 3 [c0, c1, c2, c3, c4, c5])) = some x3 := hf 3 _ rfl
    have q4 : DataW.trod enc Try.prog w 0 spare held n 3 (List.take (Try.prog.cellsOf 3) (List.drop 4 [c0, c1, c2, c3, c4, c5])) = some x4 := hf 4 _ rfl
    have q5 : DataW.trod enc Try.prog w 0 spare held n 23 (List.take (Try.prog.cellsOf 23) (List.drop 5 [c0, c1, c2, c3, c4, c5])) = some x5 := hf 5 _ rfl
    rw [cellsInt] at q0 q1 q2 q3 q4
    rw [cellsFlt] at q5
    obtain ⟨y0, r0, f0, g0⟩ := elem_int Try.underlying3 _ [c0] x0 q0
    obtain ⟨y1, r1, f1, g1⟩ := elem_int Try.underlying3 _ [c1] x1 q1
    obtain ⟨y2, r2, f2, g2⟩ := elem_int Try.underlying3 _ [c2] x2 q2
    obtain ⟨y3, r3, f3, g3⟩ := elem_int Try.underlying3 _ [c3] x3 q3
    obtain ⟨y4, r4, f4, g4⟩ := elem_int Try.underlying3 _ [c4] x4 q4
    obtain ⟨y5, r5, f5, g5⟩ := elem_flt Try.underlying23 _ [c5] x5 q5
    refine ⟨⟨y0, y1, y2, y3, y4, y5⟩, fun ρ => (r0 ρ).append ((r1 ρ).append ((r2 ρ).append ((r3 ρ).append ((r4 ρ).append (r5 ρ))))), fun v hv => ?_, trivial⟩
    simp [dVal, vcells] at hv
    rcases hv with rfl | rfl | rfl | rfl | rfl | rfl <;> rfl

theorem spot_of {w : World} {r : Reach} {base : Nat} {t e : TypeId} {v : Value} (ht : Try.prog.underlying t = some (.slice e)) (h : Cell.okWide Try.prog w r base t v) {a : Addr} {l c : Nat} (hv : v = .slice (some a) l c) : a.spot = none := by
  subst hv
  unfold Cell.okWide at h
  rw [ht] at h
  unfold Cell.ok at h
  rw [ht] at h
  exact h.2.2.2.1

theorem argGraph {H : Type} {enc : TypeId × Value → H} {w : World} {spare : Nat → Bool} {held : Bool} {r : Reach} {base : Nat} {v : Value} {d : DataW H} {ps : List MemPlace}
    (hv : Value.okWide Try.prog w r base 40 v) (h : DataW.Trod enc Try.prog w 0 spare held 40 v d ps) :
    ∃ g : Graph, g.ins.length ≤ 9223372036854775807 ∧ g.vals.length ≤ 9223372036854775807 ∧ g.outs.length ≤ 9223372036854775807 ∧
      ∀ ρ H0, HRel ρ ro H0 w → ∃ ρ' H' p q r, Rho.le ρ ρ' ∧ Ext H0 H' ∧ HRel ρ' ro H' w ∧ VRel ρ' (gV p q r g) v ∧ RdG H' p q r g := by
  have hv' := hv
  simp only [Value.okWide, Try.underlying40] at hv'
  obtain ⟨cs, rfl, hsz, ts, hts, _, hcell⟩ := hv'
  have hts' : Try.prog.cellTypes Try.prog.depth 40 = some [37, 38, 37] := by kernel_rfl
  rw [hts'] at hts; cases hts
  obtain ⟨fuel, h⟩ := h
  obtain ⟨xs, n, _, _, hl, hx, hf⟩ := DataW.trod_struct Try.underlying40 h
  rw [cellsGraph] at hsz
  match cs, hsz, xs, hx with
  | ⟨[c0, c1, c2]⟩, _, [x0, x1, x2], _ =>
    have q0 : DataW.trod enc Try.prog w 0 spare held n 37 (List.take (Try.prog.cellsOf 37) (List.drop 0 [c0, c1, c2])) = some x0 := hf 0 _ rfl
    have q1 : DataW.trod enc Try.prog w 0 spare held n 38 (List.take (Try.prog.cellsOf 38) (List.drop 1 [c0, c1, c2])) = some x1 := hf 1 _ rfl
    have q2 : DataW.trod enc Try.prog w 0 spare held n 37 (List.take (Try.prog.cellsOf 37) (List.drop 2 [c0, c1, c2])) = some x2 := hf 2 _ rfl
    rw [cellsInts] at q0 q2
    rw [cellsVals] at q1
    obtain ⟨u0, e0, k0⟩ := hcell 0 c0 rfl
    obtain ⟨u1, e1, k1⟩ := hcell 1 c1 rfl
    obtain ⟨u2, e2, k2⟩ := hcell 2 c2 rfl
    cases e0
    cases e1
    cases e2
    obtain ⟨l0, _, b0, o0⟩ := open_sl (d := dInt) Try.underlying37 cellsInt (elem_int Try.underlying3) (cs := [c0]) q0 (fun a l c hq => spot_of Try.underlying37 k0 (List.cons.inj hq).1)
    obtain ⟨l1, _, b1, o1⟩ := open_sl (d := dVal) Try.underlying38 cellsVal (elem_Val w) (cs := [c1]) q1 (fun a l c hq => spot_of Try.underlying38 k1 (List.cons.inj hq).1)
    obtain ⟨l2, _, b2, o2⟩ := open_sl (d := dInt) Try.underlying37 cellsInt (elem_int Try.underlying3) (cs := [c2]) q2 (fun a l c hq => spot_of Try.underlying37 k2 (List.cons.inj hq).1)
    refine ⟨⟨l0, l1, l2⟩, b0, b1, b2, fun ρ H0 hr => ?_⟩
    obtain ⟨ρ1, H1, p, s1, s2, s3, s4, s5⟩ := o0 ρ H0 hr
    obtain ⟨ρ2, H2, q, t1, t2, t3, t4, t5⟩ := o1 ρ1 H1 s3
    obtain ⟨ρ3, H3, r, v1, v2, v3, v4, v5⟩ := o2 ρ2 H2 t3
    exact ⟨ρ3, H3, p, q, r, Rho.le_trans (Rho.le_trans s1 t1) v1, (s2.trans t2).trans v2, v3, .agg (((s4.mono (Rho.le_trans t1 v1)).append (t4.mono v1)).append v4), (s5.mono t2).mono v2, t5.mono v2, v5⟩

set_option maxRecDepth 100000 in
theorem lifted (os : Os) (started : os.Started) (H : Type) (enc : TypeId × Value → H) :
    ReturnsInHanded {} Try.checked os 9 .any (Rows.fnExactValidGraphSpec.pre6 enc Try.prog Try.f9 Rows.fnExactValidGraphRow.domain false) (Rows.fnExactValidGraphSpec.post enc Try.prog Try.f9 false true false false) := by
  refine returnsInHanded_of_change_sized (C := Try.checked) own started (by kernel_rfl) Try.func9
    (ChangeSpec.witness6 (enc := enc) (C := Try.checked) false ⟨#[], #[.agg #[.slice none 0 0, .slice none 0 0, .slice none 0 0]], []⟩ 8 (by kernel_rfl) (by kernel_rfl) (by kernel_rfl) (by kernel_rfl)) ?_
  intro W base args ds gs before hval0 hW hcnd hsz0 _
  have hval : ∀ (j : Nat) t v, Try.f9.params[j]? = some t → args[j]? = some v → Value.okWide Try.prog W .any base t v := hval0
  have hW' := hW
  obtain ⟨p, q, hA0, hV, rfl, hfz, hnd⟩ := hW
  have hA : DataW.TrodAll enc Try.prog W 0 (fun _ => true) true Try.f9.params.toList args.toList ds p := hA0
  rw [Try.params9] at hA hval
  obtain ⟨v0, vs0, d0, ds0, p0, q0, hargs, rfl, rfl, h0, r0⟩ := trodAll_cons hA
  obtain ⟨rfl, rfl, rfl⟩ := trodAll_nil r0
  obtain rfl : args = #[v0] := by cases args; simp_all
  obtain ⟨rfl, rfl⟩ := trodVars_none hV
  have k0 := h0
  have lt0 : ∀ x ∈ p0, x.block < W.heap.size := by obtain ⟨m, hm⟩ := k0; exact DataW.trod_lt m _ _ _ hm
  obtain ⟨g, b0, b1, b2, hopen⟩ := argGraph (hval 0 40 v0 rfl rfl) h0
  obtain ⟨ρ, H0, pp, qq, rr, _, _, hr, hv, hg⟩ := hopen _ _ (HRel.none W)
  clear hA0 hval0 hsz0
  have main := law_calls (w := W) (vs := [gV pp qq rr g]) (cargs := [v0]) Try.func9 rfl rfl hr (.cons hv .nil) (law_ValidGraph H0 pp qq rr g hg b0 b1 b2)
  refine Calls.mono main fun e W' ⟨he, bel⟩ => ?_
  subst he
  exact ⟨_, rfl, _, _, _, [], _, [], hW', trodAll_mk1 (shut_bool Try.underlying4 _), (trodAll_cons_mk (Below.trod laidOut (by kernel_rfl) (of_decide_eq_true (by kernel_rfl)) k0 bel lt0) trodAll_mk0), rfl, bel.frame _, fun h => by cases h⟩
theorem over : Rows.fnExactValidGraphRow.holds Try.pinned (OpenSpec.ofChange Rows.fnExactValidGraphSpec) :=
  OpenClaim.holds_of_wide 9 Try.f9 rfl rfl rfl rfl rfl rfl rfl ⟨rfl, rfl, rfl, rfl, rfl⟩ rfl rfl rfl rfl rfl (by kernel_rfl) Try.func9 (by kernel_rfl)
    (of_decide_eq_true (by kernel_rfl)) (by unfold Func.isWrapper; first | (rw [if_pos (by decide +kernel)]; kernel_rfl) | (rw [if_neg (by decide +kernel)]; exact ⟨rfl, rfl⟩))
    (fun os started H enc _ => lifted os started H enc)
end Go.Proofs.Ytkmhbppimkphbaa.fnExactValidGraph
namespace Go.Proofs.Ytkmhbppimkphbaa
/-- The row, for the claim. -/
theorem fnExactValidGraph_holds : Rows.FnExactValidGraphSaid := fnExactValidGraph.over
end Go.Proofs.Ytkmhbppimkphbaa
