/- FnExactSaveCode: the walk. Condition: the argument's slices read. -/
import Derived.Test.YtjhldpghbnjjmaaSave
import Derived.Test.YtjhldpghbnjjmaaMkc
import Derived.Test.YtjhldpghbnjjmaaByt
set_option linter.unusedVariables false
set_option linter.unusedSimpArgs false
namespace Go.Proofs.Ytjhldpghbnjjmaa
open Go.Am

theorem svR_len {c : Code'} (h : CodeS c) : (svR c).length ≤ 1048576 := by
  unfold svR
  split
  · rename_i hv
    simp only [verB, Bool.and_eq_true, decide_eq_true_eq] at hv
    obtain ⟨⟨⟨⟨⟨⟨v1, v2⟩, v3⟩, v4⟩, v5⟩, v6⟩, v7⟩ := hv
    have := flat_le stepBy 21 stepBy_le c.steps
    have := flat_le spanBy 4 (fun o => Nat.le_of_eq (spanBy_len o)) c.outs
    simp only [savL, savC, List.length_append, savB_len, cntB_len]
    omega
  · simp
/-- A code that reads, in a range. -/
structure AtC (K : Heap) (lo hi : Nat) (p q r : Option Addr) (c : Code') : Prop where
  i : RdAt dInt K lo hi p c.ins
  s : RdAt dStep K lo hi q c.steps
  o : RdAt dSpan K lo hi r c.outs
theorem RdC.at_ {K : Heap} {p q r : Option Addr} {c : Code'} (h : RdC K p q r c) : AtC K 0 K.next p q r c := ⟨h.ins.at (Nat.le_refl _), h.steps.at (Nat.le_refl _), h.outs.at (Nat.le_refl _)⟩
theorem AtC.out {K K' : Heap} {lo hi lo' hi' : Nat} {p q r : Option Addr} {c : Code'} (h : AtC K lo hi p q r c) (e : Out lo' hi' K K') (hd : hi ≤ lo' ∨ hi' ≤ lo) : AtC K' lo hi p q r c := ⟨h.i.out e hd, h.s.out e hd, h.o.out e hd⟩
theorem AtC.mono {K K' : Heap} {lo hi : Nat} {p q r : Option Addr} {c : Code'} (h : AtC K lo hi p q r c) (e : Ext K K') : AtC K' lo hi p q r c := ⟨h.i.mono e, h.s.mono e, h.o.mono e⟩
theorem AtC.rd {K : Heap} {lo hi : Nat} {p q r : Option Addr} {c : Code'} (h : AtC K lo hi p q r c) : RdC K p q r c := ⟨h.i.rd, h.s.rd, h.o.rd⟩

set_option maxHeartbeats 1000000 in
theorem law_SaveCode {H : Heap} {p q r : Option Addr} {c : Code'} (hc : RdC H p q r c) (h1 : c.ins.length ≤ 9223372036854775807) (h2 : c.steps.length ≤ 9223372036854775807) (h3 : c.outs.length ≤ 9223372036854775807) :
    EC Try.prog 4 [cV p q r c] H fun e H' => e = .ret (.bool true) := by
  refine EC_fn ctx (fun _ => true) Try.func4 rfl rfl rfl ?_
  refine ⟨_, szCode_pc H p q r c 1048576 (by omega) (by omega) (by omega) (by omega) (by omega), ?_, fun v K hR => by cases hR.1⟩
  rintro _ H ⟨hx, rfl⟩
  cases hx
  refine ⟨fun h => rfl, fun h => ?_⟩
  have hb := szC_bound (by omega) (show ¬ szC c 1048576 < 0 by simp at h; omega)
  have hs : CodeS c := ⟨by omega, by omega, by omega⟩
  have hln := svR_len hs
  have z1 := hs.ins
  have z2 := hs.steps
  have z3 := hs.outs
  have hA := hc.at_
  have eA : Ext H H := Ext.refl H
  refine ⟨_, toCode_ec H p q r c hc (by omega) (by omega) (by omega), ?_, fun v K hR => by cases hR.1⟩
  rintro _ K1 ⟨hx, rfl⟩
  cases hx
  have e1 := pushC_ext (H := H) c
  have o1 := OwnC.push (H := H) c
  have n1 := pushC_next H c
  generalize pushC H c = K1 at e1 o1 n1
  refine ⟨_, specSave_ec K1 _ _ _ c o1.rd hs, ?_, fun v K hR => by obtain ⟨_, h, _⟩ := hR; cases h⟩
  rintro _ K2 ⟨w, hx, e2, bw⟩
  cases hx
  have qw := bw.atR
  refine ⟨_, toCode_ec K2 p q r c (hA.mono (e1.trans e2)).rd (by omega) (by omega) (by omega), ?_, fun v K hR => by cases hR.1⟩
  rintro _ K3 ⟨hx, rfl⟩
  cases hx
  have e3 := pushC_ext (H := K2) c
  have o3 := OwnC.push (H := K2) c
  have n3 := pushC_next K2 c
  generalize pushC K2 c = K3 at e3 o3 n3
  refine ⟨_, implSave_ec K3 _ _ _ c o3.rd hs, ?_, fun v K hR => by obtain ⟨_, h, _⟩ := hR; cases h⟩
  rintro _ K4 ⟨g, hx, e4, bg⟩
  cases hx
  have m2 := e2.next
  have m4 := e4.next
  refine ⟨_, eqByteS_pc K4 g w _ _ bg.rd (bw.rd.mono (e3.trans e4)) (by omega), ?_, fun v K hR => by cases hR.1⟩
  rintro _ K4 ⟨hx, rfl⟩
  cases hx
  refine ⟨fun h => by simp at h, fun _ => ⟨.leaf [([0, 1], some 2), ([3, 4], none)] [0], by kernel_rfl, ?_⟩⟩
  refine ⟨_, toCode_ec K4 p q r c (hA.mono ((e1.trans e2).trans (e3.trans e4))).rd (by omega) (by omega) (by omega), ?_, fun v K hR => by cases hR.1⟩
  rintro _ K5 ⟨hx, rfl⟩
  cases hx
  have e5 := pushC_ext (H := K4) c
  have o5 := OwnC.push (H := K4) c
  have n5 := pushC_next K4 c
  generalize pushC K4 c = K5 at e5 o5 n5
  have o3' := o3.mono (e4.trans e5)
  refine ⟨_, eqCode_pc K5 _ _ _ _ _ _ c c o3'.rd o5.rd (by omega) (by omega) (by omega), fun h => by simp at h, fun _ => ?_⟩
  have qA := hA.mono (((e1.trans e2).trans (e3.trans e4)).trans e5)
  have qw := qw.mono ((e3.trans e4).trans e5)
  have bg := bg.mono e5
  refine ⟨_, markCode_ec K5 _ _ _ _ _ c 1 o3' (by omega) (by omega) (by omega) (by omega) (by omega), ?_, fun v K hR => by cases hR.1⟩
  rintro _ K6 ⟨hx, _, t6⟩
  cases hx
  have qA := qA.out t6 (by omega)
  have qw := qw.out t6 (by omega)
  have bg := bg.out t6 fun b o hp => by have := bg.lt hp; omega
  refine ⟨_, fun _ => eqByteS_pc K6 g w _ _ bg.rd qw.rd (by omega), fun h => ?_, fun _ => ?_⟩
  · simp [mkCk] at h; omega
  have m6 := t6.next
  refine ⟨_, markByteS_ec K6 g _ _ 1 bg hln (by omega) (by omega), ?_, fun v K hR => by cases hR.1⟩
  rintro _ K7 ⟨hx, bg7, t7⟩
  cases hx
  have t7 : Out K3.next K6.next K6 K7 := t7.out fun b o hp => bg.lt hp
  have m5 := e5.next
  have qA := qA.out t7 (by omega)
  have qw := qw.out t7 (by omega)
  refine ⟨_, heldByteS_pc K7 g 1 _ bg7.rd hln (by omega) (by omega), ?_, fun v K hR => by cases hR.1⟩
  rintro _ K7 ⟨hx, rfl⟩
  cases hx
  refine ⟨fun h => by simp at h; omega, fun _ => ⟨fun h => by simp at h, fun _ => ?_⟩⟩
  refine ⟨_, toCode_ec K7 p q r c qA.rd (by omega) (by omega) (by omega), ?_, fun v K hR => by cases hR.1⟩
  rintro _ K8 ⟨hx, rfl⟩
  cases hx
  have e8 := pushC_ext (H := K7) c
  have o8 := OwnC.push (H := K7) c
  generalize pushC K7 c = K8 at e8 o8
  refine ⟨_, implSave_ec K8 _ _ _ c o8.rd hs, ?_, fun v K hR => by obtain ⟨_, h, _⟩ := hR; cases h⟩
  rintro _ K9 ⟨g2, hx, e9, bg2⟩
  cases hx
  refine ⟨_, eqByteS_pc K9 g2 w _ _ bg2.rd (qw.mono (e8.trans e9)).rd (by omega), ?_, fun v K hR => by cases hR.1⟩
  rintro _ K9 ⟨hx, rfl⟩
  cases hx
  refine ⟨fun h => by simp at h, fun _ => ?_⟩
  refine ⟨_, heldByteS_pc K9 g 1 _ (bg7.rd.mono (e8.trans e9)) hln (by omega) (by omega), ?_, fun v K hR => by cases hR.1⟩
  rintro _ K9 ⟨hx, rfl⟩
  cases hx
  exact ⟨fun h => by simp at h; omega, fun _ => ⟨fun h => by simp at h, fun _ => rfl⟩⟩
end Go.Proofs.Ytjhldpghbnjjmaa
