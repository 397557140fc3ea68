/- FnExactVerify: the walk. Condition: the argument's slices read. -/
import Derived.Test.YtjhldpghbnjjmaaVerd
set_option linter.unusedVariables false
set_option linter.unusedSimpArgs false
namespace Go.Proofs.Ytjhldpghbnjjmaa
open Go.Am

theorem law_Verify {H : Heap} {p q r : Option Addr} {c : Code'} (hc : RdC H p q r c) (h1 : c.ins.length ≤ 9223372036854775807) (h2 : c.steps.length ≤ 9223372036854775807) (h3 : c.outs.length ≤ 9223372036854775807) :
    EC Try.prog 3 [cV p q r c] H fun e H' => e = .ret (.bool true) := by
  refine EC_fn ctx (fun _ => true) Try.func3 rfl rfl rfl ?_
  refine ⟨_, szCode_pc H p q r c 1048576 (by omega) (by omega) (by omega) (by omega) (by omega), ?_, fun v K hR => by cases hR.1⟩
  rintro _ K ⟨hx, rfl⟩
  cases hx
  refine ⟨fun h => rfl, fun h => ?_⟩
  have hb := szC_bound (by omega) (show ¬ szC c 1048576 < 0 by simp at h; omega)
  refine ⟨_, toCode_ec K p q r c hc (by omega) (by omega) (by omega), ?_, fun v K hR => by cases hR.1⟩
  rintro _ K1 ⟨hx, rfl⟩
  cases hx
  refine ⟨_, specVerify_pc _ _ _ _ c (RdC.push c) (by omega) (by omega) (by omega), ?_, fun v K hR => by cases hR.1⟩
  rintro _ K1 ⟨hx, rfl⟩
  cases hx
  have hc1 := hc.mono (pushC_ext (H := K) c)
  refine ⟨_, toCode_ec _ p q r c hc1 (by omega) (by omega) (by omega), ?_, fun v K hR => by cases hR.1⟩
  rintro _ K2 ⟨hx, rfl⟩
  cases hx
  refine ⟨_, implVerify_ec _ _ _ _ c (RdC.push c) (by omega) (by omega) (by omega), ?_, fun v K hR => by cases hR.1⟩
  rintro _ K2 ⟨hx, he⟩
  cases hx
  refine ⟨fun h => by simp at h, fun _ => ⟨[([0, 1], some 2), ([3, 4], none)], [0], by kernel_rfl, ?_⟩⟩
  refine ⟨_, toCode_ec _ p q r c ((hc1.mono (pushC_ext c)).mono he) (by omega) (by omega) (by omega), ?_, fun v K hR => by cases hR.1⟩
  rintro _ K3 ⟨hx, rfl⟩
  cases hx
  exact ⟨_, eqCode_pc _ _ _ _ _ _ _ c c (((RdC.push c).mono he).mono (pushC_ext c)) (RdC.push c) (by omega) (by omega) (by omega), fun h => by simp at h, fun _ => rfl⟩
end Go.Proofs.Ytjhldpghbnjjmaa
