/- FnExactRunPass: the walk. Condition: the argument's slices read. -/
import Derived.Test.YtjmobjiaoklfdaaPsp
set_option linter.unusedVariables false
set_option linter.unusedSimpArgs false
namespace Go.Proofs.Ytjmobjiaoklfdaa
open Go.Am

theorem szG_bnd {g : Graph} {left : Int} (h0 : 0 ≤ left) (h : ¬ szG g left < 0) : (g.ins.length : Int) ≤ left ∧ (g.vals.length : Int) ≤ left ∧ (g.outs.length : Int) ≤ left := by
  unfold szG at h
  simp only at h
  split at h
  · omega
  · omega
theorem heldGraph_pc (K : Heap) (p q r : Option Addr) (c : Graph) (k : Int) (h : RdG K p q r (mkG k c)) (h1 : c.ins.length ≤ 1048576) (h2 : c.vals.length ≤ 1048576) (h3 : c.outs.length ≤ 1048576) (hk0 : 0 ≤ k) (hk : k ≤ 1000000) :
    PC Try.prog 13 [gV p q r c, .int .i64 k] K (.int .i64 (mkGk k c)) := by
  refine EC_fn ctx (fun _ => true) Try.func13 rfl rfl rfl ?_
  refine ⟨_, heldIntS_pc K p k c.ins.length h.ins h1 hk0 (by omega), ?_, fun v K hR => by cases hR.1⟩
  rintro _ K1 ⟨hx, rfl⟩
  cases hx
  refine ⟨fun h => by simp at h; omega, fun _ => ?_⟩
  refine ⟨_, heldValS_pc K1 q _ c.vals.length h.vals h2 (by omega) (by omega), ?_, fun v K hR => by cases hR.1⟩
  rintro _ K1 ⟨hx, rfl⟩
  cases hx
  refine ⟨fun h => by simp at h; omega, fun _ => ?_⟩
  refine ⟨_, heldIntS_pc K1 r _ c.outs.length h.outs h3 (by omega) (by omega), ?_, fun v K hR => by cases hR.1⟩
  rintro _ K1 ⟨hx, rfl⟩
  cases hx
  exact ⟨fun h => by simp at h; omega, fun _ => ⟨rfl, rfl⟩⟩
theorem passG_len {g : Graph} {pass : Int} (hv : validB g = true) : (passG g pass).ins.length ≤ 1048576 ∧ (passG g pass).vals.length ≤ 1048576 ∧ (passG g pass).outs.length ≤ 1048576 := by
  obtain ⟨h1, h2, h3⟩ := valid_lens hv
  have hd := (dd_len g g.vals.length).2
  have s1 := (sh_ok sameCommon_ok (valid_ops hv) g.vals.length (Nat.le_refl _)).l1
  have s2 := (sh_ok sameNeg_ok (valid_ops hv) g.vals.length (Nat.le_refl _)).l1
  have s3 := (sh_ok sameUnit_ok (valid_ops hv) g.vals.length (Nat.le_refl _)).l1
  unfold passG
  repeat' split
  · simp only [deadG, List.length_map]; omega
  · simp only [shared, List.length_map]; omega
  · simp only [foldG, fl_len]; omega
  · simp only [shared, List.length_map]; omega
  · simp only [shared, List.length_map]; omega
theorem rp_len (g : Graph) (pass : Int) : (rp g pass).1.ins.length ≤ 1048576 ∧ (rp g pass).1.vals.length ≤ 1048576 ∧ (rp g pass).1.outs.length ≤ 1048576 := by
  unfold rp
  repeat' split
  · rename_i h _; exact passG_len h
  · simp [zG]
  · simp [zG]
end Go.Proofs.Ytjmobjiaoklfdaa
