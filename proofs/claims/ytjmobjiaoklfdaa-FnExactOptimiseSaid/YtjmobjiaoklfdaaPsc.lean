/- Passes: small functions of both sides. Conditions: those of each. Passes: copies of graphs. Conditions: lists of at most a million elements. Passes: what makes two values one. Conditions: those of each. -/
import Derived.Test.YtjmobjiaoklfdaaGval
import Derived.Test.YtjmobjiaoklfdaaEvl
import Derived.Test.YtjmobjiaoklfdaaFlSame
import Derived.Test.YtjmobjiaoklfdaaMkg
set_option linter.unusedVariables false
set_option linter.unusedSimpArgs false
namespace Go.Proofs.Ytjmobjiaoklfdaa
open Go.Am
open FlCore (canon isNan)

theorem specSame_pc (x y : Nat) (H : Heap) : PC Try.prog 78 [.float .f64 x, .float .f64 y] H (.bool (x == y)) :=
  PC_of_calls Try.func78 rfl rfl (fun ρ cargs w h => by
    cases h with
    | cons h1 h => cases h with
      | cons h2 h =>
        cases h
        cases h1 with
        | float i1 => cases h2 with
          | float i2 => exact (sSameFloat_any _ _ w i1.lt i2.lt).mono fun e w' ⟨h1, h2⟩ => ⟨_, h1, by unfold feq; rw [i1.eq, i2.eq]; exact .bool _, by rw [h2]; rfl⟩) H
theorem implSame_pc (x y : Nat) (H : Heap) : PC Try.prog 71 [.float .f64 x, .float .f64 y] H (.bool (x == y)) :=
  PC_of_calls Try.func71 rfl rfl (fun ρ cargs w h => by
    cases h with
    | cons h1 h => cases h with
      | cons h2 h =>
        cases h
        cases h1 with
        | float i1 => cases h2 with
          | float i2 => exact (iSameFloat_any _ _ w i1.lt i2.lt).mono fun e w' ⟨h1, h2⟩ => ⟨_, h1, by unfold feq; rw [i1.eq, i2.eq]; exact .bool _, by rw [h2]; rfl⟩) H
theorem implBits1_pc (x : Nat) (H : Heap) : PC Try.prog 68 [.float .f64 x] H (.int .u64 x) :=
  PC_of_calls Try.func68 rfl rfl (fun ρ cargs w h => by
    cases h with
    | cons h1 h =>
      cases h
      cases h1 with
      | float i1 => exact (iFloatBits_any _ w i1.lt).mono fun e w' ⟨h1, h3⟩ => ⟨_, h1, by rw [← i1.eq]; exact .int _ _, by rw [h3]; rfl⟩) H

def atV (xs : List Int) (j : Int) : Int := (xs[j.toNat]?).getD 0
theorem at_cellI {H : Heap} {b o : Nat} {xs : List Int} (h : Rd dInt H (some ⟨b, o, none⟩) xs) {j : Int} (h0 : 0 ≤ j) (hj : j < xs.length) : H.cell? b (o + j.toNat * 1) = some (.int .i64 (atV xs j)) := by
  obtain ⟨b', o', h1, h2⟩ := h.cell (List.getElem?_eq_getElem (show j.toNat < xs.length by omega))
  cases h1
  rw [h2]; unfold atV; rw [List.getElem?_eq_getElem (show j.toNat < xs.length by omega)]; rfl
theorem rdI_some {H : Heap} {p : Option Addr} {xs : List Int} (h : Rd dInt H p xs) (hp : 0 < xs.length) : ∃ b o, p = some ⟨b, o, none⟩ := by
  obtain ⟨b, o, h1, _⟩ := h.cell (List.getElem?_eq_getElem hp)
  exact ⟨b, o, h1⟩
/-- A value with its operands replaced. -/
def withV (v : Val) (eq : List Int) : Val := ⟨v.op, v.len, if 0 < opnd v.op then atV eq v.a else v.a, if 1 < opnd v.op then atV eq v.b else v.b, if 2 < opnd v.op then atV eq v.c else v.c, v.k⟩
/-- A value's operands are ones of the first n. -/
structure OpsIn (v : Val) (n : Int) : Prop where
  a : 0 < opnd v.op → 0 ≤ v.a ∧ v.a < n
  b : 1 < opnd v.op → 0 ≤ v.b ∧ v.b < n
  c : 2 < opnd v.op → 0 ≤ v.c ∧ v.c < n
theorem OpsIn.mono {v : Val} {n m : Int} (h : OpsIn v n) (hm : n ≤ m) : OpsIn v m := ⟨fun q => by have := h.a q; omega, fun q => by have := h.b q; omega, fun q => by have := h.c q; omega⟩
theorem opnd4 (op : Int) : opnd op = 0 ∨ opnd op = 1 ∨ opnd op = 2 ∨ opnd op = 3 := by have := opnd3 op; omega
theorem pval {v w : Val} {H : Heap} (h : v = w) : AEnd.ret (valV v) = .ret (valV w) ∧ H = H := by rw [h]; exact ⟨rfl, rfl⟩
theorem l4with_pc (H : Heap) (q : Option Addr) (eq : List Int) (v : Val) (h : Rd dInt H q eq) (hv : OpsIn v eq.length) :
    PC Try.prog 59 [valV v, sv q eq] H (valV (withV v eq)) := by
  refine EC_fn ctx (fun _ => true) Try.func59 rfl rfl rfl ?_
  refine ⟨_, l1operands_pc H v.op, ?_, fun v K hR => by cases hR.1⟩
  rintro _ H ⟨hx, rfl⟩
  cases hx
  obtain ⟨ha, hb, hc⟩ := hv
  have hw : withV v eq = ⟨v.op, v.len, if 0 < opnd v.op then atV eq v.a else v.a, if 1 < opnd v.op then atV eq v.b else v.b, if 2 < opnd v.op then atV eq v.c else v.c, v.k⟩ := rfl
  rcases opnd4 v.op with hn | hn | hn | hn <;> rw [hn] at ha hb hc hw ⊢
  · refine ⟨fun h => by simp at h, fun _ => ⟨fun h => by simp at h, fun _ => ⟨fun h => by simp at h, fun _ => ?_⟩⟩⟩
    refine ⟨?_, rfl⟩
    rw [hw]; rfl
  · have ha := ha (by omega)
    obtain ⟨b, o, rfl⟩ := rdI_some h (by omega)
    refine ⟨fun _ => ⟨⟨by omega, by omega⟩, _, at_cellI h (by omega) (by omega), fun h => by simp at h, fun _ => ⟨fun h => by simp at h, fun _ => ?_⟩⟩, fun h => by simp at h⟩
    refine ⟨?_, rfl⟩
    rw [hw]; rfl
  · have ha := ha (by omega)
    have hb := hb (by omega)
    obtain ⟨b, o, rfl⟩ := rdI_some h (by omega)
    refine ⟨fun _ => ⟨⟨by omega, by omega⟩, _, at_cellI h (by omega) (by omega), fun _ => ⟨⟨by omega, by omega⟩, _, at_cellI h (by omega) (by omega), fun h => by simp at h, fun _ => ?_⟩, fun h => by simp at h⟩, fun h => by simp at h⟩
    refine ⟨?_, rfl⟩
    rw [hw]; rfl
  · have ha := ha (by omega)
    have hb := hb (by omega)
    have hc := hc (by omega)
    obtain ⟨b, o, rfl⟩ := rdI_some h (by omega)
    refine ⟨fun _ => ⟨⟨by omega, by omega⟩, _, at_cellI h (by omega) (by omega), fun _ => ⟨⟨by omega, by omega⟩, _, at_cellI h (by omega) (by omega), fun _ => ⟨⟨by omega, by omega⟩, _, at_cellI h (by omega) (by omega), ?_⟩, fun h => by simp at h⟩, fun h => by simp at h⟩, fun h => by simp at h⟩
    refine ⟨?_, rfl⟩
    rw [hw]; rfl
theorem l4needed_pc (H : Heap) (p q r : Option Addr) (g : Graph) (hr : Rd dInt H r g.outs) (i : Int) (hl : g.outs.length ≤ 1048576) :
    PC Try.prog 58 [gV p q r g, .int .i64 i] H (.bool (g.outs.contains i)) := by
  refine EC_fn ctx (fun _ => true) Try.func58 rfl rfl rfl ?_
  refine loop_ind ctx (fun _ => true) (fun m E K => ∃ k, k ≤ g.outs.length ∧ m = g.outs.length - k ∧ E = ⟨[(1, .int .i64 i), (2, .pointer (some ⟨0, 0, some 0⟩)), (5, .int .i64 (k : Int))], [[sv p g.ins, sv q g.vals, sv r g.outs]]⟩ ∧ K = H ∧ (g.outs.take k).contains i = false)
    (E0 := ⟨[(1, .int .i64 i), (2, .pointer (some ⟨0, 0, some 0⟩)), (5, .int .i64 ((0 : Nat) : Int))], [[sv p g.ins, sv q g.vals, sv r g.outs]]⟩) ⟨0, Nat.zero_le _, rfl, rfl, rfl, by simp⟩ (by (refine ⟨?_, ?_⟩ <;> repeat' first | exact trivial | exact congrArg (fun x => some (Value.int .i64 x)) (wrap_nat (by omega)) | exact sv_eq (by simp; done) | exact rfl | refine ⟨?_, ?_⟩ | fail)) ?_
  rintro m E K ⟨k, hk, rfl, rfl, rfl, ht⟩
  refine ⟨fun hlt => ?_, fun hge => ?_⟩
  · have hlt : k < g.outs.length := by simpa using hlt
    obtain ⟨b, o, rfl⟩ := rdI_some hr (by omega)
    have hw := wrap_nat (k := k) (by omega)
    have hat := at_cellI hr (j := (k : Int)) (by omega) (by omega)
    have hatv : atV g.outs (k : Int) = g.outs[k] := by unfold atV; rw [show ((k : Int)).toNat = k from rfl, List.getElem?_eq_getElem hlt]; rfl
    rw [hatv] at hat
    refine ⟨⟨by omega, by omega⟩, _, hat, fun he => pbool ?_, fun hne => ?_⟩
    · have he : g.outs[k] = i := by simpa using he
      rw [← he]; simp [List.contains_iff_mem]
    · have hne : ¬ g.outs[k] = i := by simpa using hne
      refine ⟨g.outs.length - (k + 1), ⟨[(1, .int .i64 i), (2, .pointer (some ⟨0, 0, some 0⟩)), (5, .int .i64 ((k + 1 : Nat) : Int))], [[sv p g.ins, sv q g.vals, sv (some ⟨b, o, none⟩) g.outs]]⟩, by omega, (by (refine ⟨?_, ?_⟩ <;> repeat' first | exact trivial | exact congrArg (fun x => some (Value.int .i64 x)) hw | exact rfl | refine ⟨?_, ?_⟩ | fail)), k + 1, by omega, rfl, rfl, rfl, ?_⟩
      rw [List.take_succ_eq_append_getElem hlt]
      simp only [List.contains_eq_mem, List.mem_append, List.mem_singleton, decide_eq_false_iff_not, not_or] at ht ⊢
      exact ⟨ht, fun e => hne e.symm⟩
  · refine pbool ?_
    have hk : k = g.outs.length := by simp at hge; omega
    subst hk
    rw [List.take_of_length_le (Nat.le_refl _)] at ht
    rw [ht]
end Go.Proofs.Ytjmobjiaoklfdaa

set_option linter.unusedVariables false
namespace Go.Proofs.Ytjmobjiaoklfdaa
open Go.Am
open FlCore (canon isNan)

def CpL {α : Type} (d : Enc α) (H : Heap) (xs : List α) (r : AEnd) (K : Heap) : Prop := ∃ o, r = .ret (sv o xs) ∧ Ext H K ∧ Buf d K H.next o xs
theorem CpL.no {α : Type} {d : Enc α} {H K : Heap} {xs : List α} {v : Value} (h : CpL d H xs (.pan v) K) : False := by obtain ⟨_, h, _⟩ := h; cases h
theorem l2copyInts_ec (H : Heap) (a : Option Addr) (xs : List Int) (h : Rd dInt H a xs) (hl : xs.length ≤ 1048576) :
    EC Try.prog 42 [sv a xs] H (CpL dInt H xs) := by
  refine EC_fn ctx (fun _ => true) Try.func42 rfl rfl rfl ?_
  cases xs with
  | nil => exact ⟨none, rfl, Ext.refl _, .nil⟩
  | cons x r =>
    obtain ⟨b, o, rfl, hr⟩ := h.all_ (by simp)
    simp only [List.length_cons] at hl
    refine ⟨_, hr, by dsimp only; omega, by omega, [], rfl, some ⟨H.next, 0, none⟩, ?_, Ext.push _ _, .blk (Nat.le_refl _) (push_blk _ _)⟩
    exact ret_sv (by simp)
/-- A graph of a call's own. -/
def GR (H : Heap) (g : Graph) (r : AEnd) (K : Heap) : Prop := ∃ p q o, r = .ret (gV p q o g) ∧ Ext H K ∧ OwnG K H.next K.next p q o g
theorem GR.no {H K : Heap} {g : Graph} {v : Value} (h : GR H g (.pan v) K) : False := by obtain ⟨_, _, _, h, _⟩ := h; cases h
theorem ownG_of {K : Heap} {lo : Nat} {p q r : Option Addr} {g : Graph} (hi : Buf dInt K lo p g.ins) (hs : Buf dVal K lo q g.vals) (ho : Buf dInt K lo r g.outs)
    (h1 : ∀ b, p = some ⟨b, 0, none⟩ → q ≠ some ⟨b, 0, none⟩ ∧ r ≠ some ⟨b, 0, none⟩) (h2 : ∀ b, q = some ⟨b, 0, none⟩ → r ≠ some ⟨b, 0, none⟩) : OwnG K lo K.next p q r g where
  i := hi
  s := hs
  o := ho
  hi_ := ⟨fun b o h => (hi.lt h).2, fun b o h => (hs.lt h).2, fun b o h => (ho.lt h).2⟩
  ne := by
    have z : ∀ {α : Type} {d : Enc α} {p : Option Addr} {xs : List α} {b f : Nat}, Buf d K lo p xs → p = some ⟨b, f, none⟩ → p = some ⟨b, 0, none⟩ := fun {α d p xs b f} hb e => by
      cases hb with
      | nil => cases e
      | blk => cases e; rfl
    exact ⟨fun b f h => h1 b (z hi h), fun b f h => ⟨fun e => (h1 b e).1 (z hs h), h2 b (z hs h)⟩, fun b f h => ⟨fun e => (h1 b e).2 (z ho h), fun e => h2 b e (z ho h)⟩⟩
theorem buf_ne {α β : Type} {d : Enc α} {d' : Enc β} {K K2 : Heap} {lo lo' : Nat} {p q : Option Addr} {xs : List α} {ys : List β} (hp : Buf d K lo p xs) (hq : Buf d' K2 lo' q ys) (h : K.next ≤ lo') : ∀ b, p = some ⟨b, 0, none⟩ → q ≠ some ⟨b, 0, none⟩ := fun b e e' => by
  have := hp.lt e
  have := hq.lt e'
  omega
theorem _root_.Go.Am.Buf.wider {α : Type} {d : Enc α} {K : Heap} {lo lo' : Nat} {p : Option Addr} {xs : List α} (h : Buf d K lo p xs) (e : lo' ≤ lo) : Buf d K lo' p xs := by
  cases h with
  | nil => exact .nil
  | blk h1 h2 => exact .blk (Nat.le_trans e h1) h2
theorem l2copy_ec (H : Heap) (p q r : Option Addr) (g : Graph) (hg : RdG H p q r g) (h1 : g.ins.length ≤ 1048576) (h2 : g.vals.length ≤ 1048576) (h3 : g.outs.length ≤ 1048576) :
    EC Try.prog 30 [gV p q r g] H (GR H g) := by
  refine EC_fn ctx (fun _ => true) Try.func30 rfl rfl rfl ?_
  obtain ⟨ins, vals, outs⟩ := g
  simp only at h1 h2 h3
  cases vals with
  | nil =>
    refine ⟨.leaf [([0, 1, 3, 4, 5], some 2), ([], some 6), ([7], some 8), ([], none)] [3, 4, 5], by kernel_rfl, ?_⟩
    refine ⟨_, l2copyInts_ec H p ins (hg.ins.mono (Ext.refl H)) h1, ?_, fun v K hR => hR.no.elim⟩
    rintro _ K1 ⟨o1, hx, e1, b1⟩
    cases hx
    refine ⟨_, l2copyInts_ec K1 r outs (hg.outs.mono ((Ext.refl H).trans e1)) h3, ?_, fun v K hR => hR.no.elim⟩
    rintro _ K2 ⟨o2, hx, e2, b2⟩
    cases hx
    have n0 : H.next ≤ (H).next := (Ext.refl H).next
    have bq := (Buf.nil : Buf dVal H H.next none [])
    refine ⟨o1, none, o2, rfl, (((Ext.refl H).trans e1).trans e2).trans (Ext.refl _), ownG_of ((b1.mono e2).wider n0) ((bq.mono e1).mono e2) (b2.wider (Nat.le_trans n0 e1.next)) (fun b e => ⟨fun e' => buf_ne bq b1 (Nat.le_refl _) b e' e, buf_ne b1 b2 (Nat.le_refl _) b e⟩) (fun b e => buf_ne bq b2 e1.next b e)⟩
  | cons x xs =>
    obtain ⟨b, o, rfl, hr⟩ := hg.vals.all_ (by simp)
    simp only [List.length_cons] at h2 hr
    refine ⟨_, hr, by dsimp only; omega, by omega, [], rfl, ?_⟩
    have bq0 : Buf dVal (H.push (.cells (flat dVal (x :: xs)) 6 true)) H.next (some ⟨H.next, 0, none⟩) (x :: xs) := .blk (Nat.le_refl _) (push_blk _ _)
    refine ⟨.leaf [([0, 1, 3, 4, 5], some 2), ([], some 6), ([7], some 8), ([], none)] [3, 4, 5], by kernel_rfl, ?_⟩
    refine ⟨_, l2copyInts_ec (H.push (.cells (flat dVal (x :: xs)) 6 true)) p ins (hg.ins.mono (Ext.push H _)) h1, ?_, fun v K hR => hR.no.elim⟩
    rintro _ K1 ⟨o1, hx, e1, b1⟩
    cases hx
    refine ⟨_, l2copyInts_ec K1 r outs (hg.outs.mono ((Ext.push H _).trans e1)) h3, ?_, fun v K hR => hR.no.elim⟩
    rintro _ K2 ⟨o2, hx, e2, b2⟩
    cases hx
    have n0 : H.next ≤ ((H.push (.cells (flat dVal (x :: xs)) 6 true))).next := (Ext.push H _).next
    have bq := bq0
    refine ⟨o1, (some ⟨H.next, 0, none⟩), o2, (by simp only [Nat.zero_add]; rfl), (((Ext.push H _).trans e1).trans e2).trans (Ext.refl _), ownG_of ((b1.mono e2).wider n0) ((bq.mono e1).mono e2) (b2.wider (Nat.le_trans n0 e1.next)) (fun b e => ⟨fun e' => buf_ne bq b1 (Nat.le_refl _) b e' e, buf_ne b1 b2 (Nat.le_refl _) b e⟩) (fun b e => buf_ne bq b2 e1.next b e)⟩
theorem cloneInt_ec (H : Heap) (a : Option Addr) (xs : List Int) (h : Rd dInt H a xs) (hl : xs.length ≤ 1048576) :
    EC Try.prog 49 [sv a xs] H (CpL dInt H xs) := by
  refine EC_fn ctx (fun _ => true) Try.func49 rfl rfl rfl ?_
  cases xs with
  | nil =>
    cases a with
    | none =>
      refine ⟨⟨fun _ => ⟨none, rfl, Ext.refl _, .nil⟩, fun h => by simp at h⟩, ⟨fun h => by simp at h, fun _ => ?_⟩⟩
      exact ⟨some ⟨H.next, 0, none⟩, rfl, Ext.push _ _, .blk (Nat.le_refl _) (push_blk _ _)⟩
    | some ad =>
      refine ⟨fun h => by simp at h, fun _ => ?_⟩
      exact ⟨some ⟨H.next, 0, none⟩, rfl, Ext.push _ _, .blk (Nat.le_refl _) (push_blk _ _)⟩
  | cons x r =>
    obtain ⟨b, o, rfl, hr⟩ := h.all_ (by simp)
    simp only [List.length_cons] at hl hr
    refine ⟨fun h => by simp at h, fun _ => ?_⟩
    have hr' : (H.push (.cells (flat dInt ([] : List Int)) 1 true)).run? b o ((r.length + 1) * 1) = some (flat dInt (x :: r)) := (Ext.push H _).run' hr
    have hb : Buf dInt (H.push (.cells (flat dInt ([] : List Int)) 1 true)) H.next (some ⟨H.next, 0, none⟩) [] := .blk (Nat.le_refl _) (push_blk _ _)
    refine ⟨_, hr', by dsimp only; omega, by omega, _, hb.own, some ⟨H.next + 1, 0, none⟩, by simp only [Nat.zero_add]; rfl, (hb.killO (Ext.push H _) (Nat.le_refl _)).push' _, ?_⟩
    exact hb.app (ys := x :: r) rfl (Nat.le_succ _)
theorem cloneVal_ec (H : Heap) (a : Option Addr) (xs : List Val) (h : Rd dVal H a xs) (hl : xs.length ≤ 1048576) :
    EC Try.prog 50 [sv a xs] H (CpL dVal H xs) := by
  refine EC_fn ctx (fun _ => true) Try.func50 rfl rfl rfl ?_
  cases xs with
  | nil =>
    cases a with
    | none =>
      refine ⟨⟨fun _ => ⟨none, rfl, Ext.refl _, .nil⟩, fun h => by simp at h⟩, ⟨fun h => by simp at h, fun _ => ?_⟩⟩
      exact ⟨some ⟨H.next, 0, none⟩, rfl, Ext.push _ _, .blk (Nat.le_refl _) (push_blk _ _)⟩
    | some ad =>
      refine ⟨fun h => by simp at h, fun _ => ?_⟩
      exact ⟨some ⟨H.next, 0, none⟩, rfl, Ext.push _ _, .blk (Nat.le_refl _) (push_blk _ _)⟩
  | cons x r =>
    obtain ⟨b, o, rfl, hr⟩ := h.all_ (by simp)
    simp only [List.length_cons] at hl hr
    refine ⟨fun h => by simp at h, fun _ => ?_⟩
    have hr' : (H.push (.cells (flat dVal ([] : List Val)) 6 true)).run? b o ((r.length + 1) * 6) = some (flat dVal (x :: r)) := (Ext.push H _).run' hr
    have hb : Buf dVal (H.push (.cells (flat dVal ([] : List Val)) 6 true)) H.next (some ⟨H.next, 0, none⟩) [] := .blk (Nat.le_refl _) (push_blk _ _)
    refine ⟨_, hr', by dsimp only; omega, by omega, _, hb.own, some ⟨H.next + 1, 0, none⟩, by simp only [Nat.zero_add]; rfl, (hb.killO (Ext.push H _) (Nat.le_refl _)).push' _, ?_⟩
    exact hb.app (ys := x :: r) rfl (Nat.le_succ _)
theorem graphCopy_ec (H : Heap) (p q r : Option Addr) (g : Graph) (hg : RdG H p q r g) (h1 : g.ins.length ≤ 1048576) (h2 : g.vals.length ≤ 1048576) (h3 : g.outs.length ≤ 1048576) :
    EC Try.prog 36 [gV p q r g] H (GR H g) := by
  refine EC_fn ctx (fun _ => true) Try.func36 rfl rfl rfl ?_
  refine ⟨.leaf [([0, 1, 3, 4, 6, 7], some 2), ([], some 5), ([], some 8), ([9], some 10), ([], none)] [3, 4, 6, 7], by kernel_rfl, ?_⟩
  refine ⟨_, cloneInt_ec H p g.ins hg.ins h1, ?_, fun v K hR => hR.no.elim⟩
  rintro _ K1 ⟨o1, hx, e1, b1⟩
  cases hx
  refine ⟨_, cloneVal_ec K1 q g.vals (hg.vals.mono e1) h2, ?_, fun v K hR => hR.no.elim⟩
  rintro _ K2 ⟨o2, hx, e2, b2⟩
  cases hx
  refine ⟨_, cloneInt_ec K2 r g.outs (hg.outs.mono (e1.trans e2)) h3, ?_, fun v K hR => hR.no.elim⟩
  rintro _ K3 ⟨o3, hx, e3, b3⟩
  cases hx
  have n1 := e1.next
  have n2 := e2.next
  exact ⟨o1, o2, o3, rfl, ((e1.trans e2).trans e3).trans (Ext.refl _), ownG_of ((b1.mono e2).mono e3) ((b2.mono e3).wider n1) (b3.wider (by omega)) (fun b e => ⟨buf_ne b1 b2 (Nat.le_refl _) b e, buf_ne b1 b3 e2.next b e⟩) (fun b e => buf_ne b2 b3 (Nat.le_refl _) b e)⟩
end Go.Proofs.Ytjmobjiaoklfdaa

set_option linter.unusedVariables false
namespace Go.Proofs.Ytjmobjiaoklfdaa
open Go.Am
open FlCore (canon isNan)

def sameV (a b : Val) : Bool := decide (a.op = b.op ∧ a.len = b.len ∧ a.a = b.a ∧ a.b = b.b ∧ a.c = b.c) && (decide (a.op ≠ 1) || a.k == b.k)
theorem l4sameVal_pc (H : Heap) (v w : Val) : PC Try.prog 62 [valV v, valV w] H (.bool (sameV v w)) := by
  refine EC_fn ctx (fun _ => true) Try.func62 rfl rfl rfl ?_
  refine ⟨fun h => pbool ?_, fun h => ⟨.bool (v.k == w.k), fun _ => specSame_pc _ _ _, pbool ?_⟩⟩
  · unfold sameV
    have : ¬ (v.op = w.op ∧ v.len = w.len ∧ v.a = w.a ∧ v.b = w.b ∧ v.c = w.c) := by
      rintro ⟨h1, h2, h3, h4, h5⟩
      simp [h1, h2, h3, h4, h5] at h
    simp [this]
  · unfold sameV
    have : v.op = w.op ∧ v.len = w.len ∧ v.a = w.a ∧ v.b = w.b ∧ v.c = w.c := by
      by_cases h1 : v.op = w.op <;> by_cases h2 : v.len = w.len <;> by_cases h3 : v.a = w.a <;> by_cases h4 : v.b = w.b <;> by_cases h5 : v.c = w.c <;> simp [h1, h2, h3, h4, h5] at h ⊢
    obtain ⟨e, _⟩ := this
    by_cases h1 : v.op = 1 <;> simp [*] <;> rfl
/-- The value at an index. -/
def vAtI (vals : List Val) (i : Int) : Val := (vals[i.toNat]?).getD ⟨0, 0, 0, 0, 0, 0⟩
def constB (vals : List Val) (i : Int) (k : Nat) : Bool := decide ((vAtI vals i).op = 1) && ((vAtI vals i).k == k)
theorem vAtI_get {vals : List Val} {i : Int} (h0 : 0 ≤ i) (h1 : i < vals.length) : vals[i.toNat]? = some (vAtI vals i) := by
  unfold vAtI
  rw [List.getElem?_eq_getElem (show i.toNat < vals.length by omega)]; rfl
theorem rdV_some {H : Heap} {p : Option Addr} {xs : List Val} (h : Rd dVal H p xs) (hp : 0 < xs.length) : ∃ b o, p = some ⟨b, o, none⟩ := by
  obtain ⟨b, o, h1, _⟩ := h.val (List.getElem?_eq_getElem hp)
  exact ⟨b, o, h1⟩
theorem valF_at {H : Heap} {b o : Nat} {xs : List Val} (h : Rd dVal H (some ⟨b, o, none⟩) xs) {i : Int} (h0 : 0 ≤ i) (h1 : i < xs.length) :
    H.cell? b (o + i.toNat * 6) = some (.int .i64 (vAtI xs i).op) ∧ H.cell? b (o + i.toNat * 6 + 1) = some (.int .i64 (vAtI xs i).len) ∧ H.cell? b (o + i.toNat * 6 + 2) = some (.int .i64 (vAtI xs i).a) ∧ H.cell? b (o + i.toNat * 6 + 5) = some (.float .f64 (vAtI xs i).k) ∧ H.aggAt b (o + i.toNat * 6) 6 (valV (vAtI xs i)) := by
  obtain ⟨b', o', e, c⟩ := h.valF (vAtI_get h0 h1)
  obtain ⟨b2, o2, e2, c2⟩ := h.val (vAtI_get h0 h1)
  cases e
  cases e2
  obtain ⟨c0, c1, c3, c4, c5, c6⟩ := c
  exact ⟨c0, c1, c3, c6, c2⟩
theorem l4isConst_pc (H : Heap) (p q r : Option Addr) (g : Graph) (h : Rd dVal H q g.vals) (i : Int) (k : Nat) (h0 : 0 ≤ i) (h1 : i < g.vals.length) :
    PC Try.prog 79 [gV p q r g, .int .i64 i, .float .f64 k] H (.bool (constB g.vals i k)) := by
  refine EC_fn ctx (fun _ => true) Try.func79 rfl rfl rfl ?_
  obtain ⟨b, o, rfl⟩ := rdV_some h (by omega)
  obtain ⟨c0, _, _, c5, _⟩ := valF_at h h0 h1
  refine ⟨⟨h0, h1⟩, _, c0, fun _ => ⟨h0, h1⟩, _, fun _ => c5, .bool ((vAtI g.vals i).k == k), fun _ => specSame_pc _ _ _, pbool ?_⟩
  unfold constB
  cases hh : decide ((vAtI g.vals i).op = 1) <;> simp at hh <;> simp [hh]
def ONE : Nat := 4607182418800017408
def MZ : Nat := 9223372036854775808
def unitI (vals : List Val) (v : Val) : Int :=
  if (v.op = 4 ∨ v.op = 5) ∧ constB vals v.b ONE = true then v.a else
  if v.op = 4 ∧ constB vals v.a ONE = true then v.b else
  if v.op = 3 ∧ constB vals v.b 0 = true then v.a else
  if v.op = 2 ∧ constB vals v.b MZ = true then v.a else
  if v.op = 2 ∧ constB vals v.a MZ = true then v.b else -1
theorem opnd2 {op : Int} (h : op = 2 ∨ op = 3 ∨ op = 4 ∨ op = 5) : opnd op = 2 := by unfold opnd; rcases h with rfl | rfl | rfl | rfl <;> decide
theorem neg0 : canon (Op.negFloat .f64 0) = MZ := by decide
theorem l4unit_pc (H : Heap) (p q r : Option Addr) (g : Graph) (h : Rd dVal H q g.vals) (v : Val) (hv : OpsIn v g.vals.length) :
    PC Try.prog 63 [gV p q r g, valV v] H (.int .i64 (unitI g.vals v)) := by
  have hin : (v.op = 2 ∨ v.op = 3 ∨ v.op = 4 ∨ v.op = 5) → (0 ≤ v.a ∧ v.a < g.vals.length) ∧ (0 ≤ v.b ∧ v.b < g.vals.length) := fun hop => by
    have := opnd2 hop
    exact ⟨hv.a (by omega), hv.b (by omega)⟩
  refine EC_fn ctx (fun _ => true) Try.func63 rfl rfl rfl ?_
  refine ⟨fun h1 => ?_, fun h1 => ?_⟩
  · have hop : v.op = 4 ∨ v.op = 5 := by
      by_cases e4 : v.op = 4
      · exact .inl e4
      · by_cases e5 : v.op = 5
        · exact .inr e5
        · simp [e4, e5] at h1
    obtain ⟨ha, hb⟩ := hin (by omega)
    refine ⟨_, l4isConst_pc H p q r g h v.b ONE hb.1 hb.2, ?_, fun v K hR => by cases hR.1⟩
    rintro _ K ⟨hx, rfl⟩
    cases hx
    refine ⟨fun h2 => ?_, fun h2 => ?_⟩
    · refine ⟨congrArg (fun z => AEnd.ret (.int .i64 z)) ?_, rfl⟩; (unfold unitI; repeat' split) <;> simp_all
    refine ⟨.bool (constB g.vals v.a ONE), fun hc => l4isConst_pc _ p q r g h v.a ONE ha.1 ha.2, fun h6 => ?_, fun h6 => ?_⟩
    · refine ⟨congrArg (fun z => AEnd.ret (.int .i64 z)) ?_, rfl⟩; (unfold unitI; repeat' split) <;> simp_all
    refine ⟨.bool (constB g.vals v.b 0), fun hc => l4isConst_pc _ p q r g h v.b 0 (hin (by simp at hc; omega)).2.1 (hin (by simp at hc; omega)).2.2, fun h3 => ?_, fun h3 => ?_⟩
    · refine ⟨congrArg (fun z => AEnd.ret (.int .i64 z)) ?_, rfl⟩; (unfold unitI; repeat' split) <;> simp_all
    refine ⟨.bool (constB g.vals v.b MZ), fun hc => l4isConst_pc _ p q r g h v.b MZ (hin (by simp at hc; omega)).2.1 (hin (by simp at hc; omega)).2.2, fun h4 => ?_, fun h4 => ?_⟩
    · refine ⟨congrArg (fun z => AEnd.ret (.int .i64 z)) ?_, rfl⟩; (unfold unitI; repeat' split) <;> simp_all
    refine ⟨.bool (constB g.vals v.a MZ), fun hc => l4isConst_pc _ p q r g h v.a MZ (hin (by simp at hc; omega)).1.1 (hin (by simp at hc; omega)).1.2, fun h5 => ?_, fun h5 => ?_⟩
    · refine ⟨congrArg (fun z => AEnd.ret (.int .i64 z)) ?_, rfl⟩; (unfold unitI; repeat' split) <;> simp_all
    · refine ⟨congrArg (fun z => AEnd.ret (.int .i64 z)) ?_, rfl⟩; (unfold unitI; repeat' split) <;> simp_all
  · have hop : ¬ v.op = 4 ∧ ¬ v.op = 5 := by
      constructor <;> intro e <;> simp [e] at h1
    refine ⟨.bool (constB g.vals v.b 0), fun hc => l4isConst_pc _ p q r g h v.b 0 (hin (by simp at hc; omega)).2.1 (hin (by simp at hc; omega)).2.2, fun h3 => ?_, fun h3 => ?_⟩
    · refine ⟨congrArg (fun z => AEnd.ret (.int .i64 z)) ?_, rfl⟩; (unfold unitI; repeat' split) <;> simp_all
    refine ⟨.bool (constB g.vals v.b MZ), fun hc => l4isConst_pc _ p q r g h v.b MZ (hin (by simp at hc; omega)).2.1 (hin (by simp at hc; omega)).2.2, fun h4 => ?_, fun h4 => ?_⟩
    · refine ⟨congrArg (fun z => AEnd.ret (.int .i64 z)) ?_, rfl⟩; (unfold unitI; repeat' split) <;> simp_all
    refine ⟨.bool (constB g.vals v.a MZ), fun hc => l4isConst_pc _ p q r g h v.a MZ (hin (by simp at hc; omega)).1.1 (hin (by simp at hc; omega)).1.2, fun h5 => ?_, fun h5 => ?_⟩
    · refine ⟨congrArg (fun z => AEnd.ret (.int .i64 z)) ?_, rfl⟩; (unfold unitI; repeat' split) <;> simp_all
    · refine ⟨congrArg (fun z => AEnd.ret (.int .i64 z)) ?_, rfl⟩; (unfold unitI; repeat' split) <;> simp_all
end Go.Proofs.Ytjmobjiaoklfdaa
