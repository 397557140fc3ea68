/- Passes: small functions of both sides. Conditions: those of each. Passes: copies of graphs. Conditions: lists of at most a million elements. Passes: what makes two values one. Conditions: those of each. -/
import Derived.Test.YtaaelokodfildaaGval
import Derived.Test.YtaaelokodfildaaEvl
import Derived.Test.YtaaelokodfildaaFlSame
import Derived.Test.YtaaelokodfildaaMkg
set_option linter.unusedVariables false
set_option linter.unusedSimpArgs false
namespace Go.Proofs.Ytaaelokodfildaa
open Go.Am
open FlCore (canon isNan)

def atV (xs : List Int) (j : Int) : Int := (xs[j.toNat]?).getD 0
theorem at_cellI {H : Heap} {b o : Nat} {xs : List Int} (h : Rd dInt H (some ⟨b, o, none⟩) xs) {j : Int} (h0 : 0 ≤ j) (hj : j < xs.length) : H.cell? b (o + j.toNat * 1) = some (.int .i64 (atV xs j)) := by
  obtain ⟨b', o', h1, h2⟩ := h.cell (List.getElem?_eq_getElem (show j.toNat < xs.length by omega))
  cases h1
  rw [h2]; unfold atV; rw [List.getElem?_eq_getElem (show j.toNat < xs.length by omega)]; rfl
theorem rdI_some {H : Heap} {p : Option Addr} {xs : List Int} (h : Rd dInt H p xs) (hp : 0 < xs.length) : ∃ b o, p = some ⟨b, o, none⟩ := by
  obtain ⟨b, o, h1, _⟩ := h.cell (List.getElem?_eq_getElem hp)
  exact ⟨b, o, h1⟩
/-- A value with its operands replaced. -/
def withV (v : Val) (eq : List Int) : Val := ⟨v.op, v.len, if 0 < opnd v.op then atV eq v.a else v.a, if 1 < opnd v.op then atV eq v.b else v.b, if 2 < opnd v.op then atV eq v.c else v.c, v.k⟩
/-- A value's operands are ones of the first n. -/
structure OpsIn (v : Val) (n : Int) : Prop where
  a : 0 < opnd v.op → 0 ≤ v.a ∧ v.a < n
  b : 1 < opnd v.op → 0 ≤ v.b ∧ v.b < n
  c : 2 < opnd v.op → 0 ≤ v.c ∧ v.c < n
theorem OpsIn.mono {v : Val} {n m : Int} (h : OpsIn v n) (hm : n ≤ m) : OpsIn v m := ⟨fun q => by have := h.a q; omega, fun q => by have := h.b q; omega, fun q => by have := h.c q; omega⟩
theorem opnd4 (op : Int) : opnd op = 0 ∨ opnd op = 1 ∨ opnd op = 2 ∨ opnd op = 3 := by have := opnd3 op; omega
theorem pval {v w : Val} {H : Heap} (h : v = w) : AEnd.ret (valV v) = .ret (valV w) ∧ H = H := by rw [h]; exact ⟨rfl, rfl⟩
end Go.Proofs.Ytaaelokodfildaa

set_option linter.unusedVariables false
namespace Go.Proofs.Ytaaelokodfildaa
open Go.Am
open FlCore (canon isNan)

def CpL {α : Type} (d : Enc α) (H : Heap) (xs : List α) (r : AEnd) (K : Heap) : Prop := ∃ o, r = .ret (sv o xs) ∧ Ext H K ∧ Buf d K H.next o xs
theorem CpL.no {α : Type} {d : Enc α} {H K : Heap} {xs : List α} {v : Value} (h : CpL d H xs (.pan v) K) : False := by obtain ⟨_, h, _⟩ := h; cases h
theorem l2copyInts_ec (H : Heap) (a : Option Addr) (xs : List Int) (h : Rd dInt H a xs) (hl : xs.length ≤ 1048576) :
    EC Try.prog 54 [sv a xs] H (CpL dInt H xs) := by
  refine EC_fn ctx (fun _ => true) Try.func54 rfl rfl rfl ?_
  cases xs with
  | nil => exact ⟨none, rfl, Ext.refl _, .nil⟩
  | cons x r =>
    obtain ⟨b, o, rfl, hr⟩ := h.all_ (by simp)
    simp only [List.length_cons] at hl
    refine ⟨_, hr, by dsimp only; omega, by omega, [], rfl, some ⟨H.next, 0, none⟩, ?_, Ext.push _ _, .blk (Nat.le_refl _) (push_blk _ _)⟩
    exact ret_sv (by simp)
/-- A graph of a call's own. -/
def GR (H : Heap) (g : Graph) (r : AEnd) (K : Heap) : Prop := ∃ p q o, r = .ret (gV p q o g) ∧ Ext H K ∧ OwnG K H.next K.next p q o g
theorem GR.no {H K : Heap} {g : Graph} {v : Value} (h : GR H g (.pan v) K) : False := by obtain ⟨_, _, _, h, _⟩ := h; cases h
theorem ownG_of {K : Heap} {lo : Nat} {p q r : Option Addr} {g : Graph} (hi : Buf dInt K lo p g.ins) (hs : Buf dVal K lo q g.vals) (ho : Buf dInt K lo r g.outs)
    (h1 : ∀ b, p = some ⟨b, 0, none⟩ → q ≠ some ⟨b, 0, none⟩ ∧ r ≠ some ⟨b, 0, none⟩) (h2 : ∀ b, q = some ⟨b, 0, none⟩ → r ≠ some ⟨b, 0, none⟩) : OwnG K lo K.next p q r g where
  i := hi
  s := hs
  o := ho
  hi_ := ⟨fun b o h => (hi.lt h).2, fun b o h => (hs.lt h).2, fun b o h => (ho.lt h).2⟩
  ne := by
    have z : ∀ {α : Type} {d : Enc α} {p : Option Addr} {xs : List α} {b f : Nat}, Buf d K lo p xs → p = some ⟨b, f, none⟩ → p = some ⟨b, 0, none⟩ := fun {α d p xs b f} hb e => by
      cases hb with
      | nil => cases e
      | blk => cases e; rfl
    exact ⟨fun b f h => h1 b (z hi h), fun b f h => ⟨fun e => (h1 b e).1 (z hs h), h2 b (z hs h)⟩, fun b f h => ⟨fun e => (h1 b e).2 (z ho h), fun e => h2 b e (z ho h)⟩⟩
theorem buf_ne {α β : Type} {d : Enc α} {d' : Enc β} {K K2 : Heap} {lo lo' : Nat} {p q : Option Addr} {xs : List α} {ys : List β} (hp : Buf d K lo p xs) (hq : Buf d' K2 lo' q ys) (h : K.next ≤ lo') : ∀ b, p = some ⟨b, 0, none⟩ → q ≠ some ⟨b, 0, none⟩ := fun b e e' => by
  have := hp.lt e
  have := hq.lt e'
  omega
theorem _root_.Go.Am.Buf.wider {α : Type} {d : Enc α} {K : Heap} {lo lo' : Nat} {p : Option Addr} {xs : List α} (h : Buf d K lo p xs) (e : lo' ≤ lo) : Buf d K lo' p xs := by
  cases h with
  | nil => exact .nil
  | blk h1 h2 => exact .blk (Nat.le_trans e h1) h2
theorem l2copy_ec (H : Heap) (p q r : Option Addr) (g : Graph) (hg : RdG H p q r g) (h1 : g.ins.length ≤ 1048576) (h2 : g.vals.length ≤ 1048576) (h3 : g.outs.length ≤ 1048576) :
    EC Try.prog 34 [gV p q r g] H (GR H g) := by
  refine EC_fn ctx (fun _ => true) Try.func34 rfl rfl rfl ?_
  obtain ⟨ins, vals, outs⟩ := g
  simp only at h1 h2 h3
  cases vals with
  | nil =>
    refine ⟨.leaf [([0, 1, 3, 4, 5], some 2), ([], some 6), ([7], some 8), ([], none)] [3, 4, 5], by kernel_rfl, ?_⟩
    refine ⟨_, l2copyInts_ec H p ins (hg.ins.mono (Ext.refl H)) h1, ?_, fun v K hR => hR.no.elim⟩
    rintro _ K1 ⟨o1, hx, e1, b1⟩
    cases hx
    refine ⟨_, l2copyInts_ec K1 r outs (hg.outs.mono ((Ext.refl H).trans e1)) h3, ?_, fun v K hR => hR.no.elim⟩
    rintro _ K2 ⟨o2, hx, e2, b2⟩
    cases hx
    have n0 : H.next ≤ (H).next := (Ext.refl H).next
    have bq := (Buf.nil : Buf dVal H H.next none [])
    refine ⟨o1, none, o2, rfl, (((Ext.refl H).trans e1).trans e2).trans (Ext.refl _), ownG_of ((b1.mono e2).wider n0) ((bq.mono e1).mono e2) (b2.wider (Nat.le_trans n0 e1.next)) (fun b e => ⟨fun e' => buf_ne bq b1 (Nat.le_refl _) b e' e, buf_ne b1 b2 (Nat.le_refl _) b e⟩) (fun b e => buf_ne bq b2 e1.next b e)⟩
  | cons x xs =>
    obtain ⟨b, o, rfl, hr⟩ := hg.vals.all_ (by simp)
    simp only [List.length_cons] at h2 hr
    refine ⟨_, hr, by dsimp only; omega, by omega, [], rfl, ?_⟩
    have bq0 : Buf dVal (H.push (.cells (flat dVal (x :: xs)) 6 true)) H.next (some ⟨H.next, 0, none⟩) (x :: xs) := .blk (Nat.le_refl _) (push_blk _ _)
    refine ⟨.leaf [([0, 1, 3, 4, 5], some 2), ([], some 6), ([7], some 8), ([], none)] [3, 4, 5], by kernel_rfl, ?_⟩
    refine ⟨_, l2copyInts_ec (H.push (.cells (flat dVal (x :: xs)) 6 true)) p ins (hg.ins.mono (Ext.push H _)) h1, ?_, fun v K hR => hR.no.elim⟩
    rintro _ K1 ⟨o1, hx, e1, b1⟩
    cases hx
    refine ⟨_, l2copyInts_ec K1 r outs (hg.outs.mono ((Ext.push H _).trans e1)) h3, ?_, fun v K hR => hR.no.elim⟩
    rintro _ K2 ⟨o2, hx, e2, b2⟩
    cases hx
    have n0 : H.next ≤ ((H.push (.cells (flat dVal (x :: xs)) 6 true))).next := (Ext.push H _).next
    have bq := bq0
    refine ⟨o1, (some ⟨H.next, 0, none⟩), o2, (by simp only [Nat.zero_add]; rfl), (((Ext.push H _).trans e1).trans e2).trans (Ext.refl _), ownG_of ((b1.mono e2).wider n0) ((bq.mono e1).mono e2) (b2.wider (Nat.le_trans n0 e1.next)) (fun b e => ⟨fun e' => buf_ne bq b1 (Nat.le_refl _) b e' e, buf_ne b1 b2 (Nat.le_refl _) b e⟩) (fun b e => buf_ne bq b2 e1.next b e)⟩
theorem cloneInt_ec (H : Heap) (a : Option Addr) (xs : List Int) (h : Rd dInt H a xs) (hl : xs.length ≤ 1048576) :
    EC Try.prog 58 [sv a xs] H (CpL dInt H xs) := by
  refine EC_fn ctx (fun _ => true) Try.func58 rfl rfl rfl ?_
  cases xs with
  | nil =>
    cases a with
    | none =>
      refine ⟨⟨fun _ => ⟨none, rfl, Ext.refl _, .nil⟩, fun h => by simp at h⟩, ⟨fun h => by simp at h, fun _ => ?_⟩⟩
      exact ⟨some ⟨H.next, 0, none⟩, rfl, Ext.push _ _, .blk (Nat.le_refl _) (push_blk _ _)⟩
    | some ad =>
      refine ⟨fun h => by simp at h, fun _ => ?_⟩
      exact ⟨some ⟨H.next, 0, none⟩, rfl, Ext.push _ _, .blk (Nat.le_refl _) (push_blk _ _)⟩
  | cons x r =>
    obtain ⟨b, o, rfl, hr⟩ := h.all_ (by simp)
    simp only [List.length_cons] at hl hr
    refine ⟨fun h => by simp at h, fun _ => ?_⟩
    have hr' : (H.push (.cells (flat dInt ([] : List Int)) 1 true)).run? b o ((r.length + 1) * 1) = some (flat dInt (x :: r)) := (Ext.push H _).run' hr
    have hb : Buf dInt (H.push (.cells (flat dInt ([] : List Int)) 1 true)) H.next (some ⟨H.next, 0, none⟩) [] := .blk (Nat.le_refl _) (push_blk _ _)
    refine ⟨_, hr', by dsimp only; omega, by omega, _, hb.own, some ⟨H.next + 1, 0, none⟩, by simp only [Nat.zero_add]; rfl, (hb.killO (Ext.push H _) (Nat.le_refl _)).push' _, ?_⟩
    exact hb.app (ys := x :: r) rfl (Nat.le_succ _)
theorem cloneVal_ec (H : Heap) (a : Option Addr) (xs : List Val) (h : Rd dVal H a xs) (hl : xs.length ≤ 1048576) :
    EC Try.prog 59 [sv a xs] H (CpL dVal H xs) := by
  refine EC_fn ctx (fun _ => true) Try.func59 rfl rfl rfl ?_
  cases xs with
  | nil =>
    cases a with
    | none =>
      refine ⟨⟨fun _ => ⟨none, rfl, Ext.refl _, .nil⟩, fun h => by simp at h⟩, ⟨fun h => by simp at h, fun _ => ?_⟩⟩
      exact ⟨some ⟨H.next, 0, none⟩, rfl, Ext.push _ _, .blk (Nat.le_refl _) (push_blk _ _)⟩
    | some ad =>
      refine ⟨fun h => by simp at h, fun _ => ?_⟩
      exact ⟨some ⟨H.next, 0, none⟩, rfl, Ext.push _ _, .blk (Nat.le_refl _) (push_blk _ _)⟩
  | cons x r =>
    obtain ⟨b, o, rfl, hr⟩ := h.all_ (by simp)
    simp only [List.length_cons] at hl hr
    refine ⟨fun h => by simp at h, fun _ => ?_⟩
    have hr' : (H.push (.cells (flat dVal ([] : List Val)) 6 true)).run? b o ((r.length + 1) * 6) = some (flat dVal (x :: r)) := (Ext.push H _).run' hr
    have hb : Buf dVal (H.push (.cells (flat dVal ([] : List Val)) 6 true)) H.next (some ⟨H.next, 0, none⟩) [] := .blk (Nat.le_refl _) (push_blk _ _)
    refine ⟨_, hr', by dsimp only; omega, by omega, _, hb.own, some ⟨H.next + 1, 0, none⟩, by simp only [Nat.zero_add]; rfl, (hb.killO (Ext.push H _) (Nat.le_refl _)).push' _, ?_⟩
    exact hb.app (ys := x :: r) rfl (Nat.le_succ _)
theorem graphCopy_ec (H : Heap) (p q r : Option Addr) (g : Graph) (hg : RdG H p q r g) (h1 : g.ins.length ≤ 1048576) (h2 : g.vals.length ≤ 1048576) (h3 : g.outs.length ≤ 1048576) :
    EC Try.prog 45 [gV p q r g] H (GR H g) := by
  refine EC_fn ctx (fun _ => true) Try.func45 rfl rfl rfl ?_
  refine ⟨.leaf [([0, 1, 3, 4, 6, 7], some 2), ([], some 5), ([], some 8), ([9], some 10), ([], none)] [3, 4, 6, 7], by kernel_rfl, ?_⟩
  refine ⟨_, cloneInt_ec H p g.ins hg.ins h1, ?_, fun v K hR => hR.no.elim⟩
  rintro _ K1 ⟨o1, hx, e1, b1⟩
  cases hx
  refine ⟨_, cloneVal_ec K1 q g.vals (hg.vals.mono e1) h2, ?_, fun v K hR => hR.no.elim⟩
  rintro _ K2 ⟨o2, hx, e2, b2⟩
  cases hx
  refine ⟨_, cloneInt_ec K2 r g.outs (hg.outs.mono (e1.trans e2)) h3, ?_, fun v K hR => hR.no.elim⟩
  rintro _ K3 ⟨o3, hx, e3, b3⟩
  cases hx
  have n1 := e1.next
  have n2 := e2.next
  exact ⟨o1, o2, o3, rfl, ((e1.trans e2).trans e3).trans (Ext.refl _), ownG_of ((b1.mono e2).mono e3) ((b2.mono e3).wider n1) (b3.wider (by omega)) (fun b e => ⟨buf_ne b1 b2 (Nat.le_refl _) b e, buf_ne b1 b3 e2.next b e⟩) (fun b e => buf_ne b2 b3 (Nat.le_refl _) b e)⟩
end Go.Proofs.Ytaaelokodfildaa

set_option linter.unusedVariables false
namespace Go.Proofs.Ytaaelokodfildaa
open Go.Am
open FlCore (canon isNan)

def sameV (a b : Val) : Bool := decide (a.op = b.op ∧ a.len = b.len ∧ a.a = b.a ∧ a.b = b.b ∧ a.c = b.c) && (decide (a.op ≠ 1) || a.k == b.k)
/-- The value at an index. -/
def vAtI (vals : List Val) (i : Int) : Val := (vals[i.toNat]?).getD ⟨0, 0, 0, 0, 0, 0⟩
def constB (vals : List Val) (i : Int) (k : Nat) : Bool := decide ((vAtI vals i).op = 1) && ((vAtI vals i).k == k)
theorem vAtI_get {vals : List Val} {i : Int} (h0 : 0 ≤ i) (h1 : i < vals.length) : vals[i.toNat]? = some (vAtI vals i) := by
  unfold vAtI
  rw [List.getElem?_eq_getElem (show i.toNat < vals.length by omega)]; rfl
theorem rdV_some {H : Heap} {p : Option Addr} {xs : List Val} (h : Rd dVal H p xs) (hp : 0 < xs.length) : ∃ b o, p = some ⟨b, o, none⟩ := by
  obtain ⟨b, o, h1, _⟩ := h.val (List.getElem?_eq_getElem hp)
  exact ⟨b, o, h1⟩
theorem valF_at {H : Heap} {b o : Nat} {xs : List Val} (h : Rd dVal H (some ⟨b, o, none⟩) xs) {i : Int} (h0 : 0 ≤ i) (h1 : i < xs.length) :
    H.cell? b (o + i.toNat * 6) = some (.int .i64 (vAtI xs i).op) ∧ H.cell? b (o + i.toNat * 6 + 1) = some (.int .i64 (vAtI xs i).len) ∧ H.cell? b (o + i.toNat * 6 + 2) = some (.int .i64 (vAtI xs i).a) ∧ H.cell? b (o + i.toNat * 6 + 5) = some (.float .f64 (vAtI xs i).k) ∧ H.aggAt b (o + i.toNat * 6) 6 (valV (vAtI xs i)) := by
  obtain ⟨b', o', e, c⟩ := h.valF (vAtI_get h0 h1)
  obtain ⟨b2, o2, e2, c2⟩ := h.val (vAtI_get h0 h1)
  cases e
  cases e2
  obtain ⟨c0, c1, c3, c4, c5, c6⟩ := c
  exact ⟨c0, c1, c3, c6, c2⟩
def ONE : Nat := 4607182418800017408
def MZ : Nat := 9223372036854775808
def unitI (vals : List Val) (v : Val) : Int :=
  if (v.op = 4 ∨ v.op = 5) ∧ constB vals v.b ONE = true then v.a else
  if v.op = 4 ∧ constB vals v.a ONE = true then v.b else
  if v.op = 3 ∧ constB vals v.b 0 = true then v.a else
  if v.op = 2 ∧ constB vals v.b MZ = true then v.a else
  if v.op = 2 ∧ constB vals v.a MZ = true then v.b else -1
theorem opnd2 {op : Int} (h : op = 2 ∨ op = 3 ∨ op = 4 ∨ op = 5) : opnd op = 2 := by unfold opnd; rcases h with rfl | rfl | rfl | rfl <;> decide
theorem neg0 : canon (Op.negFloat .f64 0) = MZ := by decide
end Go.Proofs.Ytaaelokodfildaa
