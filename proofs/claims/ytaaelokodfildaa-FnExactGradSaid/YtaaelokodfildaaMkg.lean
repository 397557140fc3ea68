/- A graph of a call's own, and the marks on it. Conditions: lists of at most 2^20 elements. -/
import Derived.Test.YtaaelokodfildaaDat
import Derived.Test.YtaaelokodfildaaMrkg
set_option linter.unusedVariables false
set_option linter.unusedSimpArgs false
namespace Go.Proofs.Ytaaelokodfildaa
open Go.Am

def pushG (H : Heap) (c : Graph) : Heap := pushL dInt (pushL dVal (pushL dInt H c.ins) c.vals) c.outs
/-- A graph in blocks of its own, in a range. -/
structure OwnG (K : Heap) (lo hi : Nat) (p q r : Option Addr) (c : Graph) : Prop where
  i : Buf dInt K lo p c.ins
  s : Buf dVal K lo q c.vals
  o : Buf dInt K lo r c.outs
  hi_ : (∀ b f, p = some ⟨b, f, none⟩ → b < hi) ∧ (∀ b f, q = some ⟨b, f, none⟩ → b < hi) ∧ (∀ b f, r = some ⟨b, f, none⟩ → b < hi)
  ne : (∀ b f, p = some ⟨b, f, none⟩ → q ≠ some ⟨b, 0, none⟩ ∧ r ≠ some ⟨b, 0, none⟩) ∧ (∀ b f, q = some ⟨b, f, none⟩ → p ≠ some ⟨b, 0, none⟩ ∧ r ≠ some ⟨b, 0, none⟩) ∧ (∀ b f, r = some ⟨b, f, none⟩ → p ≠ some ⟨b, 0, none⟩ ∧ q ≠ some ⟨b, 0, none⟩)
theorem OwnG.rd {K : Heap} {lo hi : Nat} {p q r : Option Addr} {c : Graph} (h : OwnG K lo hi p q r c) : RdG K p q r c := ⟨h.i.rd, h.s.rd, h.o.rd⟩
theorem OwnG.mono {K K' : Heap} {lo hi : Nat} {p q r : Option Addr} {c : Graph} (h : OwnG K lo hi p q r c) (e : Ext K K') : OwnG K' lo hi p q r c := ⟨h.i.mono e, h.s.mono e, h.o.mono e, h.hi_, h.ne⟩
theorem OwnG.out {K K' : Heap} {lo hi lo' hi' : Nat} {p q r : Option Addr} {c : Graph} (h : OwnG K lo hi p q r c) (e : Out lo' hi' K K') (hd : hi ≤ lo' ∨ hi' ≤ lo) : OwnG K' lo hi p q r c :=
  ⟨h.i.out e (fun b o hp => by have := h.hi_.1 b o hp; have := h.i.lt hp; omega), h.s.out e (fun b o hp => by have := h.hi_.2.1 b o hp; have := h.s.lt hp; omega), h.o.out e (fun b o hp => by have := h.hi_.2.2 b o hp; have := h.o.lt hp; omega), h.hi_, h.ne⟩
theorem OwnG.push {H : Heap} (c : Graph) : OwnG (pushG H c) H.next (H.next + 3) (some ⟨H.next, 0, none⟩) (some ⟨H.next + 1, 0, none⟩) (some ⟨H.next + 2, 0, none⟩) c where
  i := .blk (Nat.le_refl _) (by
    show (pushL dInt (pushL dVal (pushL dInt H c.ins) c.vals) c.outs).blk H.next = _
    unfold pushL
    rw [push_blk_ne _ _ (by simp only [push_next]; omega), push_blk_ne _ _ (by simp only [push_next]; omega), push_blk])
  s := .blk (Nat.le_succ _) (by
    show (pushL dInt (pushL dVal (pushL dInt H c.ins) c.vals) c.outs).blk (H.next + 1) = _
    unfold pushL
    rw [push_blk_ne _ _ (by simp only [push_next]; omega)]
    exact push_blk _ _)
  o := .blk (by omega) (push_blk _ _)
  hi_ := ⟨fun b f h => by cases h; omega, fun b f h => by cases h; omega, fun b f h => by cases h; omega⟩
  ne := ⟨fun b f h => by
      cases h
      exact ⟨fun e => by injection e with e; injection e with e; omega, fun e => by injection e with e; injection e with e; omega⟩, fun b f h => by
      cases h
      exact ⟨fun e => by injection e with e; injection e with e; omega, fun e => by injection e with e; injection e with e; omega⟩, fun b f h => by
      cases h
      exact ⟨fun e => by injection e with e; injection e with e; omega, fun e => by injection e with e; injection e with e; omega⟩⟩
theorem pushG_next0 (H : Heap) (c : Graph) : (pushG H c).next = H.next + 3 := rfl
theorem pushG_own {H K : Heap} {g : Graph} (h : K = pushL dInt (pushL dVal (pushL dInt H g.ins) g.vals) g.outs) : Ext H K ∧ OwnG K H.next (H.next + 3) (some ⟨H.next, 0, none⟩) (some ⟨H.next + 1, 0, none⟩) (some ⟨H.next + 2, 0, none⟩) g ∧ K.next = H.next + 3 := by
  subst h
  exact ⟨((Ext.push _ _).trans (Ext.push _ _)).trans (Ext.push _ _), OwnG.push g, rfl⟩
def mkG (k : Int) (c : Graph) : Graph := ⟨mkInt k c.ins.length, mkVal (k + 1 * (c.ins.length : Int)) c.vals.length, mkInt (k + 1 * (c.ins.length : Int) + 6 * (c.vals.length : Int)) c.outs.length⟩
def mkGk (k : Int) (c : Graph) : Int := k + 1 * (c.ins.length : Int) + 6 * (c.vals.length : Int) + 1 * (c.outs.length : Int)
theorem markGraph_ec (K : Heap) (lo hi : Nat) (p q r : Option Addr) (c : Graph) (k : Int) (h : OwnG K lo hi p q r c) (h1 : c.ins.length ≤ 1048576) (h2 : c.vals.length ≤ 1048576) (h3 : c.outs.length ≤ 1048576) (hk0 : 0 ≤ k) (hk : k ≤ 1000000) :
    EC Try.prog 9 [gV p q r c, .int .i64 k] K fun e K' => e = .ret (.int .i64 (mkGk k c)) ∧ OwnG K' lo hi p q r (mkG k c) ∧ Out lo hi K K' := by
  refine EC_fn ctx (fun _ => true) Try.func9 rfl rfl rfl ?_
  obtain ⟨hi1, hi2, hi3⟩ := h.hi_
  obtain ⟨n1, n2, n3⟩ := h.ne
  have l1 := fun b o hp => (h.i.lt (b := b) (o := o) hp).1
  have l2 := fun b o hp => (h.s.lt (b := b) (o := o) hp).1
  have l3 := fun b o hp => (h.o.lt (b := b) (o := o) hp).1
  refine ⟨_, markIntS_ec K p lo c.ins k h.i h1 hk0 (by omega), ?_, fun v K hR => by cases hR.1⟩
  rintro _ K1 ⟨hx, b1, t1⟩
  cases hx
  refine ⟨_, markValS_ec K1 q lo c.vals _ (h.s.but t1 fun b o hp => (n1 b o hp).1) h2 (by omega) (by omega), ?_, fun v K hR => by cases hR.1⟩
  rintro _ K2 ⟨hx, b2, t2⟩
  cases hx
  refine ⟨_, markIntS_ec K2 r lo c.outs _ ((h.o.but t1 fun b o hp => (n1 b o hp).2).but t2 fun b o hp => (n2 b o hp).2) h3 (by omega) (by omega), ?_, fun v K hR => by cases hR.1⟩
  rintro _ K3 ⟨hx, b3, t3⟩
  cases hx
  refine ⟨rfl, ⟨(b1.but t2 fun b o hp => (n2 b o hp).1).but t3 fun b o hp => (n3 b o hp).1, b2.but t3 fun b o hp => (n3 b o hp).2, b3, h.hi_, h.ne⟩, ?_⟩
  exact ((t1.out fun b o hp => ⟨l1 b o hp, hi1 b o hp⟩).trans (t2.out fun b o hp => ⟨l2 b o hp, hi2 b o hp⟩)).trans (t3.out fun b o hp => ⟨l3 b o hp, hi3 b o hp⟩)
structure AtG (K : Heap) (lo hi : Nat) (p q r : Option Addr) (g : Graph) : Prop where
  i : RdAt dInt K lo hi p g.ins
  s : RdAt dVal K lo hi q g.vals
  o : RdAt dInt K lo hi r g.outs
theorem RdG.at_ {K : Heap} {p q r : Option Addr} {g : Graph} (h : RdG K p q r g) : AtG K 0 K.next p q r g := ⟨h.ins.at (Nat.le_refl _), h.vals.at (Nat.le_refl _), h.outs.at (Nat.le_refl _)⟩
theorem AtG.out {K K' : Heap} {lo hi lo' hi' : Nat} {p q r : Option Addr} {g : Graph} (h : AtG K lo hi p q r g) (e : Out lo' hi' K K') (hd : hi ≤ lo' ∨ hi' ≤ lo) : AtG K' lo hi p q r g := ⟨h.i.out e hd, h.s.out e hd, h.o.out e hd⟩
theorem AtG.mono {K K' : Heap} {lo hi : Nat} {p q r : Option Addr} {g : Graph} (h : AtG K lo hi p q r g) (e : Ext K K') : AtG K' lo hi p q r g := ⟨h.i.mono e, h.s.mono e, h.o.mono e⟩
theorem AtG.rd {K : Heap} {lo hi : Nat} {p q r : Option Addr} {g : Graph} (h : AtG K lo hi p q r g) : RdG K p q r g := ⟨h.i.rd, h.s.rd, h.o.rd⟩
end Go.Proofs.Ytaaelokodfildaa
