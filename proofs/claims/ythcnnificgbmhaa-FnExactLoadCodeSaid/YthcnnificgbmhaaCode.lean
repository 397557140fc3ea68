/- Codes: how they lie in cells, and the laws' helpers over them. Conditions: lists of at most 2^20 elements where one is made. -/
import Derived.Test.YthcnnificgbmhaaDatc
set_option linter.unusedVariables false
set_option linter.unusedSimpArgs false
namespace Go.Proofs.Ythcnnificgbmhaa
open Go.Am

structure Code' where
  ins : List Int
  steps : List Step
  outs : List Span
  peak : Int
  deriving DecidableEq, Inhabited
abbrev cV (p q r : Option Addr) (c : Code') : Value := .agg #[sv p c.ins, sv q c.steps, sv r c.outs, .int .i64 c.peak]
structure RdC (H : Heap) (p q r : Option Addr) (c : Code') : Prop where
  ins : Rd dInt H p c.ins
  steps : Rd dStep H q c.steps
  outs : Rd dSpan H r c.outs
theorem RdC.mono {H H' : Heap} {p q r : Option Addr} {c : Code'} (h : RdC H p q r c) (e : Ext H H') : RdC H' p q r c := ⟨h.ins.mono e, h.steps.mono e, h.outs.mono e⟩
def pushC (H : Heap) (c : Code') : Heap := pushL dSpan (pushL dStep (pushL dInt H c.ins) c.steps) c.outs
theorem RdC.push {H : Heap} (c : Code') : RdC (pushC H c) (some ⟨H.next, 0, none⟩) (some ⟨H.next + 1, 0, none⟩) (some ⟨H.next + 2, 0, none⟩) c :=
  ⟨((Rd.push H true).mono (Ext.push _ _)).mono (Ext.push _ _), (Rd.push (H.push _) true).mono (Ext.push _ _), Rd.push ((H.push _).push _) true⟩
theorem pushC_ext {H : Heap} (c : Code') : Ext H (pushC H c) := ((Ext.push _ _).trans (Ext.push _ _)).trans (Ext.push _ _)
theorem eqCode_pc (H : Heap) (p q r p' q' r' : Option Addr) (c c' : Code') (h : RdC H p q r c) (h' : RdC H p' q' r' c') (h1 : c.ins.length < 9223372036854775807) (h2 : c.steps.length < 9223372036854775807) (h3 : c.outs.length < 9223372036854775807) :
    PC Try.prog 7 [cV p q r c, cV p' q' r' c'] H (.bool (decide (c = c'))) := by
  refine EC_fn ctx (fun _ => true) Try.func7 rfl rfl rfl ?_
  obtain ⟨i, v, o, k⟩ := c
  obtain ⟨i', v', o', k'⟩ := c'
  refine ⟨_, eqIntS_pc H p p' i i' h.ins h'.ins h1, ?_, fun v K hR => by cases hR.1⟩
  rintro _ K ⟨hv, rfl⟩
  cases hv
  refine ⟨fun e => pbool ?_, fun e1 => ⟨_, eqStepS_pc K q q' v v' h.steps h'.steps h2, ?_, fun v K hR => by cases hR.1⟩⟩
  · simp at e; simp [e]
  rintro _ K ⟨hv, rfl⟩
  cases hv
  refine ⟨fun e => pbool ?_, fun e2 => ⟨_, eqSpanS_pc K r r' o o' h.outs h'.outs h3, ?_, fun v K hR => by cases hR.1⟩⟩
  · simp at e; simp [e]
  rintro _ K ⟨hv, rfl⟩
  cases hv
  refine ⟨fun e => pbool ?_, fun e3 => ⟨fun e => pbool ?_, fun e4 => pbool ?_⟩⟩
  · simp at e; simp [e]
  · simp at e; simp [e]
  · simp at e1 e2 e3 e4; simp [e1, e2, e3, e4]
def szC (c : Code') (left : Int) : Int :=
  let l1 := left - c.ins.length
  let l2 := l1 - c.steps.length
  let l3 := l2 - c.outs.length
  if l1 < 0 ∨ l2 < 0 ∨ l3 < 0 then -1 else l3
theorem szC_bound {c : Code'} {left : Int} (h0 : 0 ≤ left) (h : ¬ szC c left < 0) : (c.ins.length : Int) ≤ left ∧ (c.steps.length : Int) ≤ left ∧ (c.outs.length : Int) ≤ left := by
  unfold szC at h
  simp only at h
  split at h
  · omega
  · omega
end Go.Proofs.Ythcnnificgbmhaa
