/- FnExactValidGraph: the walk. Condition: the argument's slices read. -/
import Derived.Test.YtkmhbppimkphbaaGval
set_option linter.unusedVariables false
set_option linter.unusedSimpArgs false
namespace Go.Proofs.Ytkmhbppimkphbaa
open Go.Am

theorem szG_bound {g : Graph} {left : Int} (h0 : 0 ≤ left) (h : ¬ szG g left < 0) : (g.ins.length : Int) ≤ left ∧ (g.vals.length : Int) ≤ left ∧ (g.outs.length : Int) ≤ left := by
  unfold szG at h
  simp only at h
  split at h
  · omega
  · omega
theorem RdG.pushL {H : Heap} (g : Graph) : RdG (pushL dInt (pushL dVal (pushL dInt H g.ins) g.vals) g.outs) (some ⟨H.next, 0, none⟩) (some ⟨H.next + 1, 0, none⟩) (some ⟨H.next + 2, 0, none⟩) g :=
  ⟨((Rd.push H true).mono (Ext.push _ _)).mono (Ext.push _ _), (Rd.push (H.push _) true).mono (Ext.push _ _), Rd.push ((H.push _).push _) true⟩
theorem pushG_ext {H : Heap} (g : Graph) : Ext H (pushL dInt (pushL dVal (pushL dInt H g.ins) g.vals) g.outs) := ((Ext.push _ _).trans (Ext.push _ _)).trans (Ext.push _ _)

theorem law_ValidGraph (H : Heap) (p q r : Option Addr) (g : Graph) (hg : RdG H p q r g) (h1 : g.ins.length ≤ 9223372036854775807) (h2 : g.vals.length ≤ 9223372036854775807) (h3 : g.outs.length ≤ 9223372036854775807) :
    EC Try.prog 9 [gV p q r g] H fun e H' => e = .ret (.bool true) := by
  refine EC_fn ctx (fun _ => true) Try.func9 rfl rfl rfl ?_
  refine ⟨_, szGraph_pc H p q r g 1048576 (by omega) (by omega) (by omega) (by omega) (by omega), ?_, fun v K hR => by cases hR.1⟩
  rintro _ K ⟨hx, rfl⟩
  cases hx
  refine ⟨fun h => rfl, fun h => ?_⟩
  have hb := szG_bound (by omega) (show ¬ szG g 1048576 < 0 by simp at h; omega)
  refine ⟨_, toGraph_ec K p q r g hg (by omega) (by omega) (by omega), ?_, fun v K hR => by cases hR.1⟩
  rintro _ K1 ⟨hx, rfl⟩
  cases hx
  refine ⟨_, specValid_ec _ _ _ _ g (RdG.pushL g) (by omega) (by omega) (by omega), ?_, fun v K hR => by cases hR.1⟩
  rintro _ K1 ⟨hx, he1⟩
  cases hx
  have he1 := (pushG_ext g).trans he1
  refine ⟨_, toGraph_ec K1 p q r g (hg.mono he1) (by omega) (by omega) (by omega), ?_, fun v K hR => by cases hR.1⟩
  rintro _ K2 ⟨hx, rfl⟩
  cases hx
  refine ⟨_, implValid_pc _ _ _ _ g (RdG.pushL g) (by omega) (by omega) (by omega), ?_, fun v K hR => by cases hR.1⟩
  rintro _ K2 ⟨hx, rfl⟩
  cases hx
  refine ⟨fun h => by simp at h, fun _ => ⟨[([0, 1], some 2), ([3, 4], none)], [0], by kernel_rfl, ?_⟩⟩
  refine ⟨_, toGraph_ec _ p q r g ((hg.mono he1).mono (pushG_ext g)) (by omega) (by omega) (by omega), ?_, fun v K hR => by cases hR.1⟩
  rintro _ K2 ⟨hx, rfl⟩
  cases hx
  exact ⟨_, eqGraph_pc _ _ _ _ _ _ _ g g ((RdG.pushL g).mono (pushG_ext g)) (RdG.pushL g) (by omega) (by omega) (by omega), fun h => by simp at h, fun _ => rfl⟩
end Go.Proofs.Ytkmhbppimkphbaa
