/- FnExactLoadCode: the law returns true for every input. No condition. -/
import Derived.Test.YthcnnificgbmhaaRows
import Derived.Test.YthcnnificgbmhaaLlod
import Derived.Test.YthcnnificgbmhaaArgb
import Derived.WalkKit
import Derived.ProofKit
import Derived.OpenShut
import Derived.SizedLaws
import Derived.Laws.Cover2
namespace Go.Proofs.Ythcnnificgbmhaa.fnExactLoadCode
open Go.ChangeShapes Go.WideShapes Go.ChangeAt Go.RowKit Go.Am
set_option linter.unusedVariables false
set_option linter.unusedSimpArgs false
theorem own : ownKnob Try.prog.godebug = none := by kernel_rfl
theorem laidOut : laidOutB Try.prog = true := by kernel_rfl
set_option maxRecDepth 100000 in
theorem lifted (os : Os) (started : os.Started) (H : Type) (enc : TypeId × Value → H) :
    ReturnsInHanded {} Try.checked os 3 .any (Rows.fnExactLoadCodeSpec.pre6 enc Try.prog Try.f3 Rows.fnExactLoadCodeRow.domain false) (Rows.fnExactLoadCodeSpec.post enc Try.prog Try.f3 false true false false) := by
  refine returnsInHanded_of_change_sized (C := Try.checked) own started (by kernel_rfl) Try.func3
    (ChangeSpec.witness6 (enc := enc) (C := Try.checked) false ⟨#[], #[.slice none 0 0], []⟩ 8 (by kernel_rfl) (by kernel_rfl) (by kernel_rfl) (by kernel_rfl)) ?_
  intro W base args ds gs before hval0 hW hcnd hsz0 _
  have hval : ∀ (j : Nat) t v, Try.f3.params[j]? = some t → args[j]? = some v → Value.okWide Try.prog W .any base t v := hval0
  have hW' := hW
  obtain ⟨p, q, hA0, hV, rfl, hfz, hnd⟩ := hW
  have hA : DataW.TrodAll enc Try.prog W 0 (fun _ => true) true Try.f3.params.toList args.toList ds p := hA0
  rw [Try.params3] at hA hval
  obtain ⟨v0, vs0, d0, ds0, pl0, ql0, hargs, rfl, rfl, h0, r0⟩ := trodAll_cons hA
  obtain ⟨rfl, rfl, rfl⟩ := trodAll_nil r0
  obtain rfl : args = #[v0] := by cases args; simp_all
  obtain ⟨rfl, rfl⟩ := trodVars_none hV
  have k0 := h0
  have lt0 : ∀ x ∈ pl0, x.block < W.heap.size := by obtain ⟨m, hm⟩ := k0; exact DataW.trod_lt m _ _ _ hm
  obtain ⟨y0, g0, b0, o0⟩ := argSl (de := dByte) Try.underlying22 cellsByte (elem_byte Try.underlying5) (hval 0 22 v0 rfl rfl) h0
  obtain ⟨ρ0, H0, u0, le0, e0, hr0, hv0, ⟨p0, rfl, s0⟩⟩ := o0 _ _ (HRel.none W)
  clear hA0 hval0 hsz0
  have main := law_calls (w := W) (cargs := [v0]) Try.func3 rfl rfl hr0 (.cons hv0 .nil) (law_LoadCode g0 s0 b0)
  refine Calls.mono main fun e W' ⟨he, bel⟩ => ?_
  subst he
  exact ⟨_, rfl, _, _, _, [], _, [], hW', trodAll_mk1 (shut_bool Try.underlying4 _), (trodAll_cons_mk (Below.trod laidOut (by kernel_rfl) (of_decide_eq_true (by kernel_rfl)) k0 bel lt0) trodAll_mk0), rfl, bel.frame _, fun h => by cases h⟩
theorem over : Rows.fnExactLoadCodeRow.holds Try.pinned (OpenSpec.ofChange Rows.fnExactLoadCodeSpec) :=
  OpenClaim.holds_of_wide 3 Try.f3 rfl rfl rfl rfl rfl rfl rfl ⟨rfl, rfl, rfl, rfl, rfl⟩ rfl rfl rfl rfl rfl (by kernel_rfl) Try.func3 (by kernel_rfl)
    (of_decide_eq_true (by kernel_rfl)) (by unfold Func.isWrapper; first | (rw [if_pos (by decide +kernel)]; kernel_rfl) | (rw [if_neg (by decide +kernel)]; exact ⟨rfl, rfl⟩))
    (fun os started H enc _ => lifted os started H enc)
end Go.Proofs.Ythcnnificgbmhaa.fnExactLoadCode
namespace Go.Proofs.Ythcnnificgbmhaa
/-- The row, for the claim. -/
theorem fnExactLoadCode_holds : Rows.FnExactLoadCodeSaid := fnExactLoadCode.over
end Go.Proofs.Ythcnnificgbmhaa
