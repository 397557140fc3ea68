/- A code of a call's own, and the marks on it. Conditions: lists of at most 2^20 elements. -/
import Derived.Test.YthcnnificgbmhaaCode
import Derived.Test.YthcnnificgbmhaaMrkc
set_option linter.unusedVariables false
set_option linter.unusedSimpArgs false
namespace Go.Proofs.Ythcnnificgbmhaa
open Go.Am

/-- A code in blocks of its own, in a range. -/
structure OwnC (K : Heap) (lo hi : Nat) (p q r : Option Addr) (c : Code') : Prop where
  i : Buf dInt K lo p c.ins
  s : Buf dStep K lo q c.steps
  o : Buf dSpan K lo r c.outs
  hi_ : (∀ b f, p = some ⟨b, f, none⟩ → b < hi) ∧ (∀ b f, q = some ⟨b, f, none⟩ → b < hi) ∧ (∀ b f, r = some ⟨b, f, none⟩ → b < hi)
  ne : (∀ b f, p = some ⟨b, f, none⟩ → q ≠ some ⟨b, 0, none⟩ ∧ r ≠ some ⟨b, 0, none⟩) ∧ (∀ b f, q = some ⟨b, f, none⟩ → p ≠ some ⟨b, 0, none⟩ ∧ r ≠ some ⟨b, 0, none⟩) ∧ (∀ b f, r = some ⟨b, f, none⟩ → p ≠ some ⟨b, 0, none⟩ ∧ q ≠ some ⟨b, 0, none⟩)
theorem OwnC.rd {K : Heap} {lo hi : Nat} {p q r : Option Addr} {c : Code'} (h : OwnC K lo hi p q r c) : RdC K p q r c := ⟨h.i.rd, h.s.rd, h.o.rd⟩
theorem OwnC.mono {K K' : Heap} {lo hi : Nat} {p q r : Option Addr} {c : Code'} (h : OwnC K lo hi p q r c) (e : Ext K K') : OwnC K' lo hi p q r c := ⟨h.i.mono e, h.s.mono e, h.o.mono e, h.hi_, h.ne⟩
theorem OwnC.out {K K' : Heap} {lo hi lo' hi' : Nat} {p q r : Option Addr} {c : Code'} (h : OwnC K lo hi p q r c) (e : Out lo' hi' K K') (hd : hi ≤ lo' ∨ hi' ≤ lo) : OwnC K' lo hi p q r c :=
  ⟨h.i.out e (fun b o hp => by have := h.hi_.1 b o hp; have := h.i.lt hp; omega), h.s.out e (fun b o hp => by have := h.hi_.2.1 b o hp; have := h.s.lt hp; omega), h.o.out e (fun b o hp => by have := h.hi_.2.2 b o hp; have := h.o.lt hp; omega), h.hi_, h.ne⟩
theorem OwnC.push {H : Heap} (c : Code') : OwnC (pushC H c) H.next (H.next + 3) (some ⟨H.next, 0, none⟩) (some ⟨H.next + 1, 0, none⟩) (some ⟨H.next + 2, 0, none⟩) c where
  i := .blk (Nat.le_refl _) (by
    show (pushL dSpan (pushL dStep (pushL dInt H c.ins) c.steps) c.outs).blk H.next = _
    unfold pushL
    rw [push_blk_ne _ _ (by simp only [push_next]; omega), push_blk_ne _ _ (by simp only [push_next]; omega), push_blk])
  s := .blk (Nat.le_succ _) (by
    show (pushL dSpan (pushL dStep (pushL dInt H c.ins) c.steps) c.outs).blk (H.next + 1) = _
    unfold pushL
    rw [push_blk_ne _ _ (by simp only [push_next]; omega)]
    exact push_blk _ _)
  o := .blk (by omega) (push_blk _ _)
  hi_ := ⟨fun b f h => by cases h; omega, fun b f h => by cases h; omega, fun b f h => by cases h; omega⟩
  ne := ⟨fun b f h => by
      cases h
      exact ⟨fun e => by injection e with e; injection e with e; omega, fun e => by injection e with e; injection e with e; omega⟩, fun b f h => by
      cases h
      exact ⟨fun e => by injection e with e; injection e with e; omega, fun e => by injection e with e; injection e with e; omega⟩, fun b f h => by
      cases h
      exact ⟨fun e => by injection e with e; injection e with e; omega, fun e => by injection e with e; injection e with e; omega⟩⟩
theorem pushC_next (H : Heap) (c : Code') : (pushC H c).next = H.next + 3 := rfl
def mkC (k : Int) (c : Code') : Code' := ⟨mkInt k c.ins.length, mkStep (k + 1 * (c.ins.length : Int)) c.steps.length, mkSpan (k + 1 * (c.ins.length : Int) + 8 * (c.steps.length : Int)) c.outs.length, c.peak⟩
def mkCk (k : Int) (c : Code') : Int := k + 1 * (c.ins.length : Int) + 8 * (c.steps.length : Int) + 2 * (c.outs.length : Int)
theorem markCode_ec (K : Heap) (lo hi : Nat) (p q r : Option Addr) (c : Code') (k : Int) (h : OwnC K lo hi p q r c) (h1 : c.ins.length ≤ 1048576) (h2 : c.steps.length ≤ 1048576) (h3 : c.outs.length ≤ 1048576) (hk0 : 0 ≤ k) (hk : k ≤ 1000000) :
    EC Try.prog 10 [cV p q r c, .int .i64 k] K fun e K' => e = .ret (.int .i64 (mkCk k c)) ∧ OwnC K' lo hi p q r (mkC k c) ∧ Out lo hi K K' := by
  refine EC_fn ctx (fun _ => true) Try.func10 rfl rfl rfl ?_
  obtain ⟨hi1, hi2, hi3⟩ := h.hi_
  obtain ⟨n1, n2, n3⟩ := h.ne
  have l1 := fun b o hp => (h.i.lt (b := b) (o := o) hp).1
  have l2 := fun b o hp => (h.s.lt (b := b) (o := o) hp).1
  have l3 := fun b o hp => (h.o.lt (b := b) (o := o) hp).1
  refine ⟨_, markIntS_ec K p lo c.ins k h.i h1 hk0 (by omega), ?_, fun v K hR => by cases hR.1⟩
  rintro _ K1 ⟨hx, b1, t1⟩
  cases hx
  refine ⟨_, markStepS_ec K1 q lo c.steps _ (h.s.but t1 fun b o hp => (n1 b o hp).1) h2 (by omega) (by omega), ?_, fun v K hR => by cases hR.1⟩
  rintro _ K2 ⟨hx, b2, t2⟩
  cases hx
  refine ⟨_, markSpanS_ec K2 r lo c.outs _ ((h.o.but t1 fun b o hp => (n1 b o hp).2).but t2 fun b o hp => (n2 b o hp).2) h3 (by omega) (by omega), ?_, fun v K hR => by cases hR.1⟩
  rintro _ K3 ⟨hx, b3, t3⟩
  cases hx
  refine ⟨rfl, ⟨(b1.but t2 fun b o hp => (n2 b o hp).1).but t3 fun b o hp => (n3 b o hp).1, b2.but t3 fun b o hp => (n3 b o hp).2, b3, h.hi_, h.ne⟩, ?_⟩
  exact ((t1.out fun b o hp => ⟨l1 b o hp, hi1 b o hp⟩).trans (t2.out fun b o hp => ⟨l2 b o hp, hi2 b o hp⟩)).trans (t3.out fun b o hp => ⟨l3 b o hp, hi3 b o hp⟩)
/-- A code that reads, in a range. -/
structure AtC (K : Heap) (lo hi : Nat) (p q r : Option Addr) (c : Code') : Prop where
  i : RdAt dInt K lo hi p c.ins
  s : RdAt dStep K lo hi q c.steps
  o : RdAt dSpan K lo hi r c.outs
theorem RdC.at_ {K : Heap} {p q r : Option Addr} {c : Code'} (h : RdC K p q r c) : AtC K 0 K.next p q r c := ⟨h.ins.at (Nat.le_refl _), h.steps.at (Nat.le_refl _), h.outs.at (Nat.le_refl _)⟩
theorem AtC.out {K K' : Heap} {lo hi lo' hi' : Nat} {p q r : Option Addr} {c : Code'} (h : AtC K lo hi p q r c) (e : Out lo' hi' K K') (hd : hi ≤ lo' ∨ hi' ≤ lo) : AtC K' lo hi p q r c := ⟨h.i.out e hd, h.s.out e hd, h.o.out e hd⟩
theorem AtC.mono {K K' : Heap} {lo hi : Nat} {p q r : Option Addr} {c : Code'} (h : AtC K lo hi p q r c) (e : Ext K K') : AtC K' lo hi p q r c := ⟨h.i.mono e, h.s.mono e, h.o.mono e⟩
theorem AtC.rd {K : Heap} {lo hi : Nat} {p q r : Option Addr} {c : Code'} (h : AtC K lo hi p q r c) : RdC K p q r c := ⟨h.i.rd, h.s.rd, h.o.rd⟩
end Go.Proofs.Ythcnnificgbmhaa
