/- FnExactOptimise: the walk. Condition: the arguments' slices read. -/
import Derived.Test.YtjmobjiaoklfdaaOvw
import Derived.Test.YtjmobjiaoklfdaaLrp
set_option linter.unusedVariables false
set_option linter.unusedSimpArgs false
namespace Go.Proofs.Ytjmobjiaoklfdaa
open Go.Am

theorem ov_len (g : Graph) (ps : List Int) : (ov g ps).1.ins.length ≤ 1048576 ∧ (ov g ps).1.vals.length ≤ 1048576 ∧ (ov g ps).1.outs.length ≤ 1048576 := by
  unfold ov
  repeat' split
  · simp [zG]
  · rename_i h _
    obtain ⟨a, b, c⟩ := valid_lens (optG_valid h ps)
    exact ⟨by show (optG g ps).ins.length ≤ _; omega, by show (optG g ps).vals.length ≤ _; omega, by show (optG g ps).outs.length ≤ _; omega⟩
  · simp [zG]
set_option maxHeartbeats 1000000 in
theorem law_Optimise {H : Heap} {p q r l : Option Addr} {g : Graph} {ps : List Int} (hg : RdG H p q r g) (hl : Rd dInt H l ps) (h1 : g.ins.length ≤ 9223372036854775807) (h2 : g.vals.length ≤ 9223372036854775807) (h3 : g.outs.length ≤ 9223372036854775807) (h4 : ps.length ≤ 9223372036854775807) :
    EC Try.prog 3 [gV p q r g, sv l ps] H fun e H' => e = .ret (.bool true) := by
  refine EC_fn ctx (fun _ => true) Try.func3 rfl rfl rfl ?_
  refine ⟨fun h => rfl, fun h => ?_⟩
  have z4 : ps.length ≤ 1048576 := by simp at h; omega
  clear h h4
  refine ⟨_, szGraph_pc H p q r g 1048576 (by omega) (by omega) (by omega) (by omega) (by omega), ?_, fun v K hR => by cases hR.1⟩
  rintro _ H ⟨hx, rfl⟩
  cases hx
  refine ⟨fun h => rfl, fun h => ?_⟩
  have hsz : ¬ szG g 1048576 < 0 := by simp at h; omega
  obtain ⟨z1, z2, z3⟩ := szG_bnd (by omega) hsz
  clear h h1 h2 h3
  obtain ⟨y1, y2, y3⟩ := ov_len g ps
  have hA := hg.at_
  have hB := hl.at (Nat.le_refl _)
  refine ⟨_, toGraph_ec H p q r g hg (by omega) (by omega) (by omega), ?_, fun v K hR => by cases hR.1⟩
  rintro _ K0 ⟨hx, hK⟩
  cases hx
  obtain ⟨e0, o0, n0⟩ := pushG_own hK
  clear hK
  refine ⟨_, toIntS_ec K0 l ps (hB.mono e0).rd z4, ?_, fun v K hR => by cases hR.1⟩
  rintro _ K1 ⟨hx, hK⟩
  cases hx
  have d1 : Ext K0 K1 := by rw [hK]; exact Ext.push _ _
  have r1 : Rd dInt K1 (some ⟨K0.next, 0, none⟩) ps := by rw [hK]; exact Rd.push _ _
  clear hK
  have e1 := e0.trans d1
  have hspec := specOptimise_ec K1 _ _ _ _ g ps (o0.mono d1).rd r1 (by omega) (by omega) (by omega) z4
  have himpl : ∀ (K : Heap) (p q r l : Option Addr), RdG K p q r g → Rd dInt K l ps → EC Try.prog 8 [gV p q r g, sv l ps] K (RPR K (ov g ps).1 (ov g ps).2) := fun K p q r l h h' => implOptimise_ec K p q r l g ps h h' (by omega) (by omega) (by omega) z4
  generalize (ov g ps).2 = code at *
  generalize (ov g ps).1 = g' at *
  refine ⟨_, hspec, ?_, fun v K hR => hR.no.elim⟩
  rintro _ K2 ⟨w1, w2, w3, hx, e2, ow⟩
  cases hx
  refine ⟨_, toGraph_ec K2 p q r g (hA.mono (e1.trans e2)).rd (by omega) (by omega) (by omega), ?_, fun v K hR => by cases hR.1⟩
  rintro _ K3 ⟨hx, hK⟩
  cases hx
  obtain ⟨e3, o3, n3⟩ := pushG_own hK
  clear hK
  refine ⟨_, toIntS_ec K3 l ps (hB.mono ((e1.trans e2).trans e3)).rd z4, ?_, fun v K hR => by cases hR.1⟩
  rintro _ K3b ⟨hx, hK⟩
  cases hx
  have d3 : Ext K3 K3b := by rw [hK]; exact Ext.push _ _
  have nb : K3b.next = K3.next + 1 := by rw [hK]; rfl
  have b3 : Buf dInt K3b K3.next (some ⟨K3.next, 0, none⟩) ps := .blk (Nat.le_refl _) (by rw [hK]; exact push_blk _ _)
  clear hK
  refine ⟨_, himpl K3b _ _ _ _ (o3.mono d3).rd b3.rd, ?_, fun v K hR => hR.no.elim⟩
  rintro _ K4 ⟨g1, g2, g3, hx, e4, og⟩
  cases hx
  have e34 := (e3.trans d3).trans e4
  have m1 := e1.next
  have m2 := e2.next
  have m3 := d3.next
  have m4 := e4.next
  have ow := ow.mono e34
  have o3' := o3.mono (d3.trans e4)
  have b3' := b3.mono e4
  have qA := hA.mono ((e1.trans e2).trans e34)
  have qB := hB.mono ((e1.trans e2).trans e34)
  refine ⟨_, eqGraph_pc K4 _ _ _ _ _ _ g' g' og.rd ow.rd (by omega) (by omega) (by omega), ?_, fun v K hR => by cases hR.1⟩
  rintro _ K4 ⟨hx, rfl⟩
  cases hx
  refine ⟨fun h => by simp at h, fun _ => ⟨.leaf [([0, 1], some 2), ([3, 4], none)] [0], by kernel_rfl, ?_⟩⟩
  refine ⟨_, toGraph_ec K4 p q r g qA.rd (by omega) (by omega) (by omega), ?_, fun v K hR => by cases hR.1⟩
  rintro _ K5 ⟨hx, hK⟩
  cases hx
  obtain ⟨e5, o5, n5⟩ := pushG_own hK
  clear hK
  have o3' := o3'.mono e5
  refine ⟨_, eqGraph_pc K5 _ _ _ _ _ _ g g o3'.rd o5.rd (by omega) (by omega) (by omega), fun h => by simp at h, fun _ => ?_⟩
  refine ⟨_, toIntS_ec K5 l ps (qB.mono e5).rd z4, ?_, fun v K hR => by cases hR.1⟩
  rintro _ K5b ⟨hx, hK⟩
  cases hx
  have d5 : Ext K5 K5b := by rw [hK]; exact Ext.push _ _
  have r5 : Rd dInt K5b (some ⟨K5.next, 0, none⟩) ps := by rw [hK]; exact Rd.push _ _
  clear hK
  have b5 := b3'.mono (e5.trans d5)
  refine ⟨_, eqIntS_pc K5b _ _ ps ps b5.rd r5 (by omega), ?_, fun v K hR => by cases hR.1⟩
  rintro _ K5b ⟨hx, rfl⟩
  cases hx
  refine ⟨fun h => by simp at h, fun _ => ?_⟩
  have e55 := e5.trans d5
  refine ⟨_, markGraph_ec K5b _ _ _ _ _ g 1 (o3'.mono d5) (by omega) (by omega) (by omega) (by omega) (by omega), ?_, fun v K hR => by cases hR.1⟩
  rintro _ K6 ⟨hx, _, t6⟩
  cases hx
  have qA := (qA.mono e55).out t6 (by omega)
  have qB := (qB.mono e55).out t6 (by omega)
  have ow := (ow.mono e55).out t6 (by omega)
  have og := (og.mono e55).out t6 (by omega)
  have b6 := b5.out t6 fun b o e => by cases e; omega
  have hgk : 0 ≤ mkGk 1 g ∧ mkGk 1 g ≤ 10000000 := by unfold mkGk; omega
  refine ⟨_, markIntS_ec K6 _ K3.next ps (mkGk 1 g) b6 z4 (by omega) (by omega), ?_, fun v K hR => by cases hR.1⟩
  rintro _ K6b ⟨hx, _, t6b⟩
  cases hx
  have o6 : Out K3.next K3b.next K6 K6b := t6b.out fun b o e => by cases e; omega
  have qA := qA.out o6 (by omega)
  have qB := qB.out o6 (by omega)
  have ow := ow.out o6 (by omega)
  have og := og.out o6 (by omega)
  refine ⟨_, fun _ => eqGraph_pc K6b _ _ _ _ _ _ g' g' og.rd ow.rd (by omega) (by omega) (by omega), fun h => ?_, fun _ => ?_⟩
  · simp at h; omega
  refine ⟨_, markGraph_ec K6b _ _ _ _ _ g' 1 og (by omega) (by omega) (by omega) (by omega) (by omega), ?_, fun v K hR => by cases hR.1⟩
  rintro _ K7 ⟨hx, og7, o7⟩
  cases hx
  have qA := qA.out o7 (by omega)
  have qB := qB.out o7 (by omega)
  have ow := ow.out o7 (by omega)
  refine ⟨_, heldGraph_pc K7 _ _ _ g' 1 og7.rd (by omega) (by omega) (by omega) (by omega) (by omega), ?_, fun v K hR => by cases hR.1⟩
  rintro _ K7 ⟨hx, rfl⟩
  cases hx
  refine ⟨fun h => by simp [mkGk] at h; omega, fun _ => ⟨fun h => by simp at h, fun _ => ?_⟩⟩
  refine ⟨_, toGraph_ec K7 p q r g qA.rd (by omega) (by omega) (by omega), ?_, fun v K hR => by cases hR.1⟩
  rintro _ K8 ⟨hx, hK⟩
  cases hx
  obtain ⟨e8, o8, n8⟩ := pushG_own hK
  clear hK
  refine ⟨_, toIntS_ec K8 l ps (qB.mono e8).rd z4, ?_, fun v K hR => by cases hR.1⟩
  rintro _ K8b ⟨hx, hK⟩
  cases hx
  have d8 : Ext K8 K8b := by rw [hK]; exact Ext.push _ _
  have r8 : Rd dInt K8b (some ⟨K8.next, 0, none⟩) ps := by rw [hK]; exact Rd.push _ _
  clear hK
  refine ⟨_, himpl K8b _ _ _ _ (o8.mono d8).rd r8, ?_, fun v K hR => hR.no.elim⟩
  rintro _ K9 ⟨j1, j2, j3, hx, e9, oj⟩
  cases hx
  have ow := ow.mono ((e8.trans d8).trans e9)
  refine ⟨_, eqGraph_pc K9 _ _ _ _ _ _ g' g' oj.rd ow.rd (by omega) (by omega) (by omega), ?_, fun v K hR => by cases hR.1⟩
  rintro _ K9 ⟨hx, rfl⟩
  cases hx
  refine ⟨fun h => by simp at h, fun _ => ?_⟩
  refine ⟨_, heldGraph_pc K9 _ _ _ g' 1 (og7.rd.mono ((e8.trans d8).trans e9)) (by omega) (by omega) (by omega) (by omega) (by omega), ?_, fun v K hR => by cases hR.1⟩
  rintro _ K9 ⟨hx, rfl⟩
  cases hx
  exact ⟨fun h => by simp [mkGk] at h; omega, fun _ => ⟨fun h => by simp at h, fun _ => rfl⟩⟩
end Go.Proofs.Ytjmobjiaoklfdaa
