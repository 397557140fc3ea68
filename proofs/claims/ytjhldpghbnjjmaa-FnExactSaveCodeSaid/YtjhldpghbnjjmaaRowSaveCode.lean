/- FnExactSaveCode: the law returns true for every input. No condition. -/
import Derived.Test.YtjhldpghbnjjmaaRows
import Derived.Test.YtjhldpghbnjjmaaLsav
import Derived.Test.YtjhldpghbnjjmaaArgc
import Derived.WalkKit
import Derived.ProofKit
import Derived.OpenShut
import Derived.SizedLaws
import Derived.Laws.Cover2
namespace Go.Proofs.Ytjhldpghbnjjmaa.fnExactSaveCode
open Go.ChangeShapes Go.WideShapes Go.ChangeAt Go.RowKit Go.Am
set_option linter.unusedVariables false
set_option linter.unusedSimpArgs false
theorem own : ownKnob Try.prog.godebug = none := by kernel_rfl
theorem laidOut : laidOutB Try.prog = true := by kernel_rfl
set_option maxRecDepth 100000 in
theorem lifted (os : Os) (started : os.Started) (H : Type) (enc : TypeId × Value → H) :
    ReturnsInHanded {} Try.checked os 4 .any (Rows.fnExactSaveCodeSpec.pre6 enc Try.prog Try.f4 Rows.fnExactSaveCodeRow.domain false) (Rows.fnExactSaveCodeSpec.post enc Try.prog Try.f4 false true false false) := by
  refine returnsInHanded_of_change_sized (C := Try.checked) own started (by kernel_rfl) Try.func4
    (ChangeSpec.witness6 (enc := enc) (C := Try.checked) false ⟨#[], #[.agg #[.slice none 0 0, .slice none 0 0, .slice none 0 0, .int .i64 0]], []⟩ 8 (by kernel_rfl) (by kernel_rfl) (by kernel_rfl) (by kernel_rfl)) ?_
  intro W base args ds gs before hval0 hW hcnd hsz0 _
  have hval : ∀ (j : Nat) t v, Try.f4.params[j]? = some t → args[j]? = some v → Value.okWide Try.prog W .any base t v := hval0
  have hW' := hW
  obtain ⟨p, q, hA0, hV, rfl, hfz, hnd⟩ := hW
  have hA : DataW.TrodAll enc Try.prog W 0 (fun _ => true) true Try.f4.params.toList args.toList ds p := hA0
  rw [Try.params4] at hA hval
  obtain ⟨v0, vs0, d0, ds0, pl0, ql0, hargs, rfl, rfl, h0, r0⟩ := trodAll_cons hA
  obtain ⟨rfl, rfl, rfl⟩ := trodAll_nil r0
  obtain rfl : args = #[v0] := by cases args; simp_all
  obtain ⟨rfl, rfl⟩ := trodVars_none hV
  have k0 := h0
  have lt0 : ∀ x ∈ pl0, x.block < W.heap.size := by obtain ⟨m, hm⟩ := k0; exact DataW.trod_lt m _ _ _ hm
  obtain ⟨y0, b0_0, b0_1, b0_2, o0⟩ := argC (hval 0 26 v0 rfl rfl) h0
  obtain ⟨ρ0, H0, u0, le0, e0, hr0, hv0, ⟨p0_0, p0_1, p0_2, rfl, s0⟩⟩ := o0 _ _ (HRel.none W)
  clear hA0 hval0 hsz0
  have main := law_calls (w := W) (cargs := [v0]) Try.func4 rfl rfl hr0 (.cons hv0 .nil) (law_SaveCode s0 b0_0 b0_1 b0_2)
  refine Calls.mono main fun e W' ⟨he, bel⟩ => ?_
  subst he
  exact ⟨_, rfl, _, _, _, [], _, [], hW', trodAll_mk1 (shut_bool Try.underlying4 _), (trodAll_cons_mk (Below.trod laidOut (by kernel_rfl) (of_decide_eq_true (by kernel_rfl)) k0 bel lt0) trodAll_mk0), rfl, bel.frame _, fun h => by cases h⟩
theorem over : Rows.fnExactSaveCodeRow.holds Try.pinned (OpenSpec.ofChange Rows.fnExactSaveCodeSpec) :=
  OpenClaim.holds_of_wide 4 Try.f4 rfl rfl rfl rfl rfl rfl rfl ⟨rfl, rfl, rfl, rfl, rfl⟩ rfl rfl rfl rfl rfl (by kernel_rfl) Try.func4 (by kernel_rfl)
    (of_decide_eq_true (by kernel_rfl)) (by unfold Func.isWrapper; first | (rw [if_pos (by decide +kernel)]; kernel_rfl) | (rw [if_neg (by decide +kernel)]; exact ⟨rfl, rfl⟩))
    (fun os started H enc _ => lifted os started H enc)
end Go.Proofs.Ytjhldpghbnjjmaa.fnExactSaveCode
namespace Go.Proofs.Ytjhldpghbnjjmaa
/-- The row, for the claim. -/
theorem fnExactSaveCode_holds : Rows.FnExactSaveCodeSaid := fnExactSaveCode.over
end Go.Proofs.Ytjhldpghbnjjmaa
