/- Eval, the reference's side. Conditions: a valid graph; inputs that fit it. Eval: the reference's values. Conditions: a valid graph; inputs that fit it. Eval, both sides. Conditions: lists of at most 2^20 elements. -/
import Derived.Test.YtjmobjiaoklfdaaEvl
set_option linter.unusedVariables false
set_option linter.unusedSimpArgs false
namespace Go.Proofs.Ytjmobjiaoklfdaa
open Go.Am

def argO (v : Val) (prev : List (List Nat)) (k : Nat) : List Nat := if (k : Int) < opnd v.op then (prev[(fieldV v k).toNat]?).getD [] else []
def evOne (xss prev : List (List Nat)) (v : Val) : List Nat := if v.op = 0 then (xss[v.a.toNat]?).getD [] else kern v (argO v prev 0) (argO v prev 1) (argO v prev 2)
def evP (g : Graph) (xss : List (List Nat)) : Nat → List (List Nat)
  | 0 => []
  | i + 1 => evP g xss i ++ [match g.vals[i]? with
    | some v => evOne xss (evP g xss i) v
    | none => []]
@[simp] theorem evP_len (g : Graph) (xss : List (List Nat)) : ∀ i, (evP g xss i).length = i
  | 0 => rfl
  | i + 1 => by simp [evP, evP_len g xss i]
theorem evP_succ {g : Graph} {xss : List (List Nat)} {i : Nat} {v : Val} (h : g.vals[i]? = some v) : evP g xss (i + 1) = evP g xss i ++ [evOne xss (evP g xss i) v] := by
  simp only [evP, h]
def evalO (g : Graph) (xss : List (List Nat)) : List (List Nat) := g.outs.map fun o => ((evP g xss g.vals.length)[o.toNat]?).getD []
/-- What is known of a valid graph. -/
structure Vld (g : Graph) : Prop where
  ins : g.ins.length ≤ 20
  vals : g.vals.length ≤ 2000
  outs : g.outs.length ≤ 50
  len : ∀ v ∈ g.vals, 1 ≤ v.len ∧ v.len ≤ 1000
  inp : ∀ v ∈ g.vals, v.op = 0 → 0 ≤ v.a ∧ v.a < g.ins.length
  arg : ∀ (i : Nat) v, g.vals[i]? = some v → ¬ v.op = 0 → ∀ k : Nat, (k : Int) < opnd v.op → 0 ≤ fieldV v k ∧ fieldV v k < i
  out : ∀ o ∈ g.outs, 0 ≤ o ∧ o < g.vals.length
theorem vld_of {g : Graph} (h : validB g = true) : Vld g := by
  simp only [validB, Bool.and_eq_true, decide_eq_true_eq] at h
  obtain ⟨⟨⟨⟨⟨⟨h1, h2⟩, h3⟩, h4⟩, h5⟩, h6⟩, h7⟩ := h
  rw [List.all_eq_true] at h4 h5 h6
  have hv : ∀ (i : Nat) v, g.vals[i]? = some v → vokB g i v = true := fun i v hi => by
    have := h5 i (List.mem_range.2 (List.getElem?_eq_some_iff.1 hi).1)
    rw [vAt_get hi] at this; exact this
  have hm : ∀ v ∈ g.vals, ∃ i, vokB g i v = true := fun v hvm => by
    obtain ⟨i, hi, rfl⟩ := List.getElem_of_mem hvm
    exact ⟨i, hv i _ (List.getElem?_eq_getElem hi)⟩
  refine ⟨h1, h2, h3, fun v hvm => ?_, fun v hvm h0 => ?_, fun i v hi h0 k hk => ?_, fun o ho => ?_⟩
  · obtain ⟨i, hi⟩ := hm v hvm
    exact vok_len hi
  · obtain ⟨i, hi⟩ := hm v hvm
    simp only [vokB, Bool.and_eq_true, decide_eq_true_eq] at hi
    have := hi.2
    rw [if_pos h0] at this
    simp only [inputOK, decide_eq_true_eq] at this
    omega
  · have hi := hv i v hi
    simp only [vokB, Bool.and_eq_true, decide_eq_true_eq] at hi
    have := hi.2
    rw [if_neg h0] at this
    simp only [Bool.and_eq_true] at this
    obtain ⟨⟨⟨a0, a1⟩, a2⟩, _⟩ := this
    have ho := opnd3 v.op
    have hkk : k = 0 ∨ k = 1 ∨ k = 2 := by omega
    rcases hkk with rfl | rfl | rfl
    · simp only [argOK] at a0; rw [if_pos (by exact_mod_cast hk), decide_eq_true_eq] at a0; exact_mod_cast a0
    · simp only [argOK] at a1; rw [if_pos (by exact_mod_cast hk), decide_eq_true_eq] at a1; exact_mod_cast a1
    · simp only [argOK] at a2; rw [if_pos (by exact_mod_cast hk), decide_eq_true_eq] at a2; exact_mod_cast a2
  · have := h6 o ho
    simpa [inIdx] using this
theorem kern_len {v : Val} {xs ys zs : List Nat} : (kern v xs ys zs).length ≤ v.len.toNat := by
  unfold kern
  split <;> simp
theorem evP_le {g : Graph} {xss : List (List Nat)} (hg : Vld g) (hx : ∀ xs ∈ xss, xs.length ≤ 1048576) : ∀ i, i ≤ g.vals.length → ∀ ys ∈ evP g xss i, ys.length ≤ 1048576
  | 0, _, ys, h => by simp [evP] at h
  | i + 1, hi, ys, h => by
    have hlt : i < g.vals.length := by omega
    rw [evP_succ (List.getElem?_eq_getElem hlt)] at h
    rcases List.mem_append.1 h with h | h
    · exact evP_le hg hx i (by omega) ys h
    · simp at h
      subst h
      unfold evOne
      split
      · rename_i h0
        obtain ⟨a0, a1⟩ := hg.inp _ (List.getElem_mem hlt) h0
        cases hq : xss[(g.vals[i]).a.toNat]? with
        | none => simp
        | some x => exact hx x (List.mem_of_getElem? hq)
      · have := (hg.len _ (List.getElem_mem hlt)).2
        exact Nat.le_trans kern_len (by omega)
end Go.Proofs.Ytjmobjiaoklfdaa

set_option linter.unusedVariables false
namespace Go.Proofs.Ytjmobjiaoklfdaa
open Go.Am

abbrev gcells (p q r : Option Addr) (g : Graph) : List Value := [sv p g.ins, sv q g.vals, sv r g.outs]
theorem _root_.Go.Am.Buf.wide {α : Type} {d : Enc α} {H : Heap} {base base' : Nat} {a : Option Addr} {xs : List α} (h : Buf d H base a xs) (hb : base' ≤ base) : Buf d H base' a xs := by
  cases h with
  | nil => exact .nil
  | blk h1 h2 => exact .blk (Nat.le_trans hb h1) h2
/-- The values so far: a slice of the walk's own, whose elements live without it. -/
structure Vals (H K : Heap) (o : Option Addr) (es : List SlE) : Prop where
  buf : Buf dSl K H.next o es
  inn : ∀ e ∈ es, Rd dFlt (K.killO o) e.1 e.2
  ext : Ext H (K.killO o)
theorem Vals.ss {H K : Heap} {o : Option Addr} {es : List SlE} (h : Vals H K o es) : RdSS K o es := ⟨h.buf.rd, fun e he => (h.inn e he).mono (unkillO K o)⟩
theorem Vals.extK {H K : Heap} {o : Option Addr} {es : List SlE} (h : Vals H K o es) : Ext H K := h.ext.trans (unkillO K o)
theorem Vals.nil (H : Heap) : Vals H H none [] := ⟨.nil, by simp, Ext.refl _⟩
/-- One more: made in K2, behind K. -/
theorem Vals.app {H K K2 : Heap} {o o2 : Option Addr} {es : List SlE} {xs : List Nat} {news : List Value} (h : Vals H K o es) (e : Ext K K2) (hb : Buf dFlt K2 K.next o2 xs) (c : Blk) (hn : news = [.slice o2 xs.length xs.length]) :
    Vals H (((K2.push c).killO o).push (.cells (flat dSl es ++ news) 1 true)) (some ⟨K2.next + 1, 0, none⟩) (es ++ [(o2, xs)]) := by
  have e3 : Ext K (K2.push c) := e.trans (Ext.push _ _)
  have hk := killO_app e3 o (.cells (flat dSl es ++ news) 1 true)
  refine ⟨(h.buf.mono e3).app (ys := [(o2, xs)]) hn (Nat.le_trans h.extK.next e3.next), fun f hf => ?_, h.ext.trans hk⟩
  rcases List.mem_append.1 hf with hf | hf
  · exact (h.inn f hf).mono hk
  · simp at hf; subst hf
    exact (Buf.killed h.buf (hb.mono (Ext.push K2 c)) (Nat.le_refl _)).mono (killO_app (Ext.refl _) o _)

theorem snds_get {es : List SlE} {xss : List (List Nat)} (h : snds es = xss) {i : Nat} (hi : i < es.length) : (xss[i]?).getD [] = es[i].2 := by
  subst h
  simp [hi]
end Go.Proofs.Ytjmobjiaoklfdaa

set_option linter.unusedVariables false
namespace Go.Proofs.Ytjmobjiaoklfdaa
open Go.Am

def evR (g : Graph) (xss : List (List Nat)) : List (List Nat) × Int := if validB g = true then if shapesB g.ins xss = true then (evalO g xss, 0) else ([], 4) else ([], 1)
def ER (H : Heap) (g : Graph) (xss : List (List Nat)) (R : AEnd) (K : Heap) : Prop := ∃ o es, R = .ret (.tuple #[sv o es, .int .i64 (evR g xss).2]) ∧ snds es = (evR g xss).1 ∧ Ext H K ∧ OwnSS K H.next o es
theorem OwnSS.nil (K : Heap) (lo : Nat) : OwnSS K lo none [] := ⟨.nil, by simp, by simp, .nil⟩
theorem OwnSS.wide {K : Heap} {lo lo' : Nat} {a : Option Addr} {es : List SlE} (h : OwnSS K lo a es) (hl : lo' ≤ lo) : OwnSS K lo' a es := ⟨h.out.wide hl, fun e he => (h.inn e he).wide hl, h.ne, h.pw⟩
theorem Buf.off {α : Type} {d : Enc α} {K : Heap} {lo : Nat} {p : Option Addr} {xs : List α} (h : Buf d K lo p xs) {o : Option Addr} (hs : o = none ∨ ∃ b off, o = some ⟨b, off, none⟩) (ha : Apart o p) : Buf d (K.killO o) lo p xs := by
  cases h with
  | nil => exact .nil
  | @blk b _ h1 h2 =>
    refine .blk h1 ?_
    rcases hs with rfl | ⟨qb, qo, rfl⟩
    · exact h2
    · show (if b = qb then none else K.blk b) = _
      rw [if_neg (fun e => ha qb qo 0 rfl (by rw [e]))]; exact h2
theorem OwnSS.app {K K2 : Heap} {lo : Nat} {o o2 : Option Addr} {es : List SlE} {xs : List Nat} {news : List Value} (h : OwnSS K lo o es) (hlo : lo ≤ K.next) (e : Ext K K2) (hb : Buf dFlt K2 K.next o2 xs) (c : Blk) (hn : news = [.slice o2 xs.length xs.length]) :
    OwnSS (((K2.push c).killO o).push (.cells (flat dSl es ++ news) 1 true)) lo (some ⟨K2.next + 1, 0, none⟩) (es ++ [(o2, xs)]) := by
  have e3 : Ext K (K2.push c) := e.trans (Ext.push _ _)
  have lt : ∀ f ∈ es, ∀ b q, f.1 = some ⟨b, q, none⟩ → b < K.next := fun f hf b q hq => ((h.inn f hf).lt hq).2
  have l2 : ∀ b q, o2 = some ⟨b, q, none⟩ → K.next ≤ b ∧ b < K2.next := fun b q hq => hb.lt hq
  have lo_ : ∀ b q, o = some ⟨b, q, none⟩ → b < K.next := fun b q hq => (h.out.lt hq).2
  have hn2 := e.next
  refine ⟨(h.out.mono e3).app (ys := [(o2, xs)]) hn (by have := e3.next; omega), fun f hf => ?_, fun f hf => ?_, ?_⟩
  · refine Buf.mono ?_ (Ext.push _ _)
    rcases List.mem_append.1 hf with hf | hf
    · exact Buf.off ((h.inn f hf).mono e3) h.out.rd.sh (h.ne f hf)
    · simp at hf; subst hf
      refine Buf.off ((hb.mono (Ext.push K2 c)).wide hlo) h.out.rd.sh fun b q q' h1 h2 => ?_
      have := lo_ b q h1; have := l2 b q' h2; omega
  · intro b q q' h1 h2
    cases h1
    rcases List.mem_append.1 hf with hf | hf
    · have := lt f hf _ _ h2; omega
    · simp at hf; subst hf
      have := l2 _ _ h2; omega
  · refine List.pairwise_append.2 ⟨h.pw, by simp, fun f hf g hg b q q' h1 h2 => ?_⟩
    simp at hg; subst hg
    have := lt f hf _ _ h1; have := l2 _ _ h2; omega
theorem evalO_le {g : Graph} {xss : List (List Nat)} (hv : Vld g) (hx : ∀ xs ∈ xss, xs.length ≤ 1048576) : ∀ ys ∈ evP g xss g.vals.length, ys.length ≤ 1048576 := evP_le hv hx _ (Nat.le_refl _)

end Go.Proofs.Ytjmobjiaoklfdaa
