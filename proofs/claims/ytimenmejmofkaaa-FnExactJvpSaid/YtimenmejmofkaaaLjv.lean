/- FnExactJvp: the walk. Condition: the argument's slices read. -/
import Derived.Test.YtimenmejmofkaaaJvm
import Derived.Test.YtimenmejmofkaaaMkg
import Derived.Test.YtimenmejmofkaaaMrkg
set_option linter.unusedVariables false
set_option linter.unusedSimpArgs false
namespace Go.Proofs.Ytimenmejmofkaaa
open Go.Am

theorem szG_bndJ {g : Graph} {left : Int} (h0 : 0 ≤ left) (h : ¬ szG g left < 0) : (g.ins.length : Int) ≤ left ∧ (g.vals.length : Int) ≤ left ∧ (g.outs.length : Int) ≤ left := by
  unfold szG at h
  simp only at h
  split at h
  · omega
  · omega
theorem heldGraphJ_pc (K : Heap) (p q r : Option Addr) (c : Graph) (k : Int) (h : RdG K p q r (mkG k c)) (h1 : c.ins.length ≤ 1048576) (h2 : c.vals.length ≤ 1048576) (h3 : c.outs.length ≤ 1048576) (hk0 : 0 ≤ k) (hk : k ≤ 1000000) :
    PC Try.prog 10 [gV p q r c, .int .i64 k] K (.int .i64 (mkGk k c)) := by
  refine EC_fn ctx (fun _ => true) Try.func10 rfl rfl rfl ?_
  refine ⟨_, heldIntS_pc K p k c.ins.length h.ins h1 hk0 (by omega), ?_, fun v K hR => by cases hR.1⟩
  rintro _ K1 ⟨hx, rfl⟩
  cases hx
  refine ⟨fun h => by simp at h; omega, fun _ => ?_⟩
  refine ⟨_, heldValS_pc K1 q _ c.vals.length h.vals h2 (by omega) (by omega), ?_, fun v K hR => by cases hR.1⟩
  rintro _ K1 ⟨hx, rfl⟩
  cases hx
  refine ⟨fun h => by simp at h; omega, fun _ => ?_⟩
  refine ⟨_, heldIntS_pc K1 r _ c.outs.length h.outs h3 (by omega) (by omega), ?_, fun v K hR => by cases hR.1⟩
  rintro _ K1 ⟨hx, rfl⟩
  cases hx
  exact ⟨fun h => by simp at h; omega, fun _ => ⟨rfl, rfl⟩⟩
theorem jvA_len (g : Graph) (s x t : Int) (h1 : g.ins.length ≤ 1048576) (h2 : g.vals.length ≤ 1048576) (h3 : g.outs.length ≤ 1048576) : (jvA g s x t).1.ins.length ≤ 1048576 ∧ (jvA g s x t).1.vals.length ≤ 1048576 ∧ (jvA g s x t).1.outs.length ≤ 1048576 := by
  unfold jvA
  repeat' split
  · rename_i h _ _
    have := (jvp_lens h.1 (s := s.toNat) (x := x.toNat) (t := t) (by omega) (by omega) h.2.2.2).1
    exact ⟨h1, by dsimp only; omega, h3⟩
  · simp [zGr]
  · simp [zGr]
  · simp [zGr]
set_option maxHeartbeats 1000000 in
theorem law_Jvp {H : Heap} {p q r : Option Addr} {g : Graph} {s x t : Int} (hg : RdG H p q r g) (h1 : g.ins.length ≤ 9223372036854775807) (h2 : g.vals.length ≤ 9223372036854775807) (h3 : g.outs.length ≤ 9223372036854775807) :
    EC Try.prog 3 [gV p q r g, .int .i64 s, .int .i64 x, .int .i64 t] H fun e H' => e = .ret (.bool true) := by
  refine EC_fn ctx (fun _ => true) Try.func3 rfl rfl rfl ?_
  refine ⟨_, szGraph_pc H p q r g 1048576 (by omega) (by omega) (by omega) (by omega) (by omega), ?_, fun v K hR => by cases hR.1⟩
  rintro _ H ⟨hx, rfl⟩
  cases hx
  refine ⟨fun h => rfl, fun h => ?_⟩
  have hsz : ¬ szG g 1048576 < 0 := by simp at h; omega
  obtain ⟨z1, z2, z3⟩ := szG_bndJ (by omega) hsz
  clear h h1 h2 h3
  obtain ⟨y1, y2, y3⟩ := jvA_len g s x t (by omega) (by omega) (by omega)
  have hA := hg.at_
  refine ⟨_, toGraph_ec H p q r g hg (by omega) (by omega) (by omega), ?_, fun v K hR => by cases hR.1⟩
  rintro _ K1 ⟨hx, hK⟩
  cases hx
  obtain ⟨e1, o1, n1⟩ := pushG_own hK
  clear hK
  have hspec := specJvp_ec K1 _ _ _ g s x t o1.rd (by omega) (by omega) (by omega)
  have himpl : ∀ (K : Heap) (p q r : Option Addr), RdG K p q r g → EC Try.prog 7 [gV p q r g, .int .i64 s, .int .i64 x, .int .i64 t] K (JAR K (jvA g s x t)) := fun K p q r h => implJvp_ec K p q r g s x t h (by omega) (by omega) (by omega)
  generalize jvA g s x t = ya at *
  obtain ⟨g', at1, code⟩ := ya
  dsimp only at y1 y2 y3
  refine ⟨_, hspec, ?_, fun v K hR => hR.no.elim⟩
  rintro _ K2 ⟨w1, w2, w3, hx, e2, ow⟩
  dsimp only at hx ow
  cases hx
  refine ⟨_, toGraph_ec K2 p q r g (hA.mono (e1.trans e2)).rd (by omega) (by omega) (by omega), ?_, fun v K hR => by cases hR.1⟩
  rintro _ K3 ⟨hx, hK⟩
  cases hx
  obtain ⟨e3, o3, n3⟩ := pushG_own hK
  clear hK
  refine ⟨_, himpl K3 _ _ _ o3.rd, ?_, fun v K hR => hR.no.elim⟩
  rintro _ K4 ⟨g1, g2, g3, hx, e4, og⟩
  dsimp only at hx og
  cases hx
  have e34 := e3.trans e4
  have m1 := e1.next
  have m2 := e2.next
  have m4 := e4.next
  have ow := ow.mono e34
  have o3' := o3.mono e4
  have qA := hA.mono ((e1.trans e2).trans e34)
  refine ⟨_, eqGraph_pc K4 _ _ _ _ _ _ g' g' og.rd ow.rd (by omega) (by omega) (by omega), ?_, fun v K hR => by cases hR.1⟩
  rintro _ K4 ⟨hx, rfl⟩
  cases hx
  refine ⟨fun h => by simp at h, fun _ => ⟨.leaf [([0, 1], some 2), ([3, 4], none)] [0], by kernel_rfl, ?_⟩⟩
  refine ⟨_, toGraph_ec K4 p q r g qA.rd (by omega) (by omega) (by omega), ?_, fun v K hR => by cases hR.1⟩
  rintro _ K5 ⟨hx, hK⟩
  cases hx
  obtain ⟨e5, o5, n5⟩ := pushG_own hK
  clear hK
  have o3' := o3'.mono e5
  refine ⟨_, eqGraph_pc K5 _ _ _ _ _ _ g g o3'.rd o5.rd (by omega) (by omega) (by omega), fun h => by simp at h, fun _ => ?_⟩
  refine ⟨_, markGraph_ec K5 _ _ _ _ _ g 1 o3' (by omega) (by omega) (by omega) (by omega) (by omega), ?_, fun v K hR => by cases hR.1⟩
  rintro _ K6 ⟨hx, _, t6⟩
  cases hx
  have qA := (qA.mono e5).out t6 (by omega)
  have ow := (ow.mono e5).out t6 (by omega)
  have og := (og.mono e5).out t6 (by omega)
  refine ⟨_, fun _ => eqGraph_pc K6 _ _ _ _ _ _ g' g' og.rd ow.rd (by omega) (by omega) (by omega), fun h => ?_, fun _ => ?_⟩
  · simp [mkGk] at h; omega
  refine ⟨_, markGraph_ec K6 _ _ _ _ _ g' 1 og (by omega) (by omega) (by omega) (by omega) (by omega), ?_, fun v K hR => by cases hR.1⟩
  rintro _ K7 ⟨hx, og7, o7⟩
  cases hx
  have qA := qA.out o7 (by omega)
  have ow := ow.out o7 (by omega)
  refine ⟨_, heldGraphJ_pc K7 _ _ _ g' 1 og7.rd (by omega) (by omega) (by omega) (by omega) (by omega), ?_, fun v K hR => by cases hR.1⟩
  rintro _ K7 ⟨hx, rfl⟩
  cases hx
  refine ⟨fun h => by simp [mkGk] at h; omega, fun _ => ⟨fun h => by simp at h, fun _ => ?_⟩⟩
  refine ⟨_, toGraph_ec K7 p q r g qA.rd (by omega) (by omega) (by omega), ?_, fun v K hR => by cases hR.1⟩
  rintro _ K8 ⟨hx, hK⟩
  cases hx
  obtain ⟨e8, o8, n8⟩ := pushG_own hK
  clear hK
  refine ⟨_, himpl K8 _ _ _ o8.rd, ?_, fun v K hR => hR.no.elim⟩
  rintro _ K9 ⟨j1, j2, j3, hx, e9, oj⟩
  dsimp only at hx oj
  cases hx
  have ow := ow.mono (e8.trans e9)
  refine ⟨_, eqGraph_pc K9 _ _ _ _ _ _ g' g' oj.rd ow.rd (by omega) (by omega) (by omega), ?_, fun v K hR => by cases hR.1⟩
  rintro _ K9 ⟨hx, rfl⟩
  cases hx
  refine ⟨fun h => by simp at h, fun _ => ?_⟩
  refine ⟨_, heldGraphJ_pc K9 _ _ _ g' 1 (og7.rd.mono (e8.trans e9)) (by omega) (by omega) (by omega) (by omega) (by omega), ?_, fun v K hR => by cases hR.1⟩
  rintro _ K9 ⟨hx, rfl⟩
  cases hx
  exact ⟨fun h => by simp [mkGk] at h; omega, fun _ => ⟨fun h => by simp at h, fun _ => rfl⟩⟩
end Go.Proofs.Ytimenmejmofkaaa
