/- Passes: sharing, as a plain function; graphs of a call's own that are written. Conditions: those of each. -/
import Derived.Test.YtaaelokodfildaaPsc
import Derived.Test.YtaaelokodfildaaHel
set_option linter.unusedVariables false
set_option linter.unusedSimpArgs false
namespace Go.Proofs.Ytaaelokodfildaa
open Go.Am
open FlCore (canon isNan)

section
variable {K K' : Heap} {lo hi base : Nat} {p q r : Option Addr} {g : Graph}
theorem _root_.Go.Am.Buf.killB {α β : Type} {d : Enc α} {d' : Enc β} {o : Option Addr} {xs : List α} {ys : List β} (h : Buf d K lo p xs) (ho : Buf d' K base o ys) (hd : ∀ b f, p = some ⟨b, f, none⟩ → b < base) : Buf d (K.killO o) lo p xs := by
  cases h with
  | nil => exact .nil
  | @blk b _ h1 h2 => cases ho with
    | nil => exact .blk h1 h2
    | @blk b' _ k1 k2 => exact .blk h1 (by
        have := hd b 0 rfl
        show (if b = b' then none else K.blk b) = _
        rw [if_neg (by omega)]; exact h2)
theorem OwnG.killB {β : Type} {d' : Enc β} {o : Option Addr} {ys : List β} (h : OwnG K lo hi p q r g) (ho : Buf d' K base o ys) (hd : hi ≤ base) : OwnG (K.killO o) lo hi p q r g :=
  ⟨h.i.killB ho fun b f e => Nat.lt_of_lt_of_le (h.hi_.1 b f e) hd, h.s.killB ho fun b f e => Nat.lt_of_lt_of_le (h.hi_.2.1 b f e) hd, h.o.killB ho fun b f e => Nat.lt_of_lt_of_le (h.hi_.2.2 b f e) hd, h.hi_, h.ne⟩
theorem OwnG.push1 (h : OwnG K lo hi p q r g) (c : Blk) : OwnG (K.push c) lo hi p q r g := h.mono (Ext.push _ _)
/-- A value is stored. -/
theorem OwnG.setV (h : OwnG K lo hi p q r g) {b o : Nat} (hq : q = some ⟨b, o, none⟩) {i : Nat} {v : Val} (hi' : i < g.vals.length) {off : Nat} {l : List Value} (hoff : off = o + i * 6) (hl : l = vcells v) :
    OwnG (K.stor b off l) lo hi p q r ⟨g.ins, g.vals.set i v, g.outs⟩ ∧ K.stOK b off 6 ∧ But (some ⟨b, 0, none⟩) K (K.stor b off l) := by
  subst hq
  cases hs : h.s with
  | blk h1 h2 =>
    have ho : off = i * 6 := by omega
    obtain ⟨s1, s2⟩ := stor_but dVal h2 (i := i) (o := off) (l := l) v hi' ho hl
    refine ⟨⟨h.i.but s2 (fun b' o' e => by cases e; exact (h.ne.2.1 _ _ rfl).1), .blk h1 s1, h.o.but s2 (fun b' o' e => by cases e; exact (h.ne.2.1 _ _ rfl).2), h.hi_, h.ne⟩, ⟨_, _, h2, ?_⟩, s2⟩
    rw [flat_len]
    show off + 6 ≤ g.vals.length * 6
    omega
theorem OwnG.setO (h : OwnG K lo hi p q r g) {b o : Nat} (hq : r = some ⟨b, o, none⟩) {i : Nat} {v : Int} (hi' : i < g.outs.length) {off : Nat} {l : List Value} (hoff : off = o + i * 1) (hl : l = [.int .i64 v]) :
    OwnG (K.stor b off l) lo hi p q r ⟨g.ins, g.vals, g.outs.set i v⟩ ∧ K.stOK b off 1 ∧ But (some ⟨b, 0, none⟩) K (K.stor b off l) := by
  subst hq
  cases hs : h.o with
  | blk h1 h2 =>
    have ho : off = i * 1 := by omega
    obtain ⟨s1, s2⟩ := stor_but dInt h2 (i := i) (o := off) (l := l) v hi' ho hl
    refine ⟨⟨h.i.but s2 (fun b' o' e => by cases e; exact (h.ne.2.2 _ _ rfl).1), h.s.but s2 (fun b' o' e => by cases e; exact (h.ne.2.2 _ _ rfl).2), .blk h1 s1, h.hi_, h.ne⟩, ⟨_, _, h2, ?_⟩, s2⟩
    rw [flat_len]
    show off + 1 ≤ g.outs.length * 1
    omega
end
theorem sv_appX {α : Type} (a : Option Addr) (xs ys : List α) {n : Nat} (h : ys.length = n) : Value.slice a (xs.length + n) (xs.length + n) = sv a (xs ++ ys) := by
  subst h
  show _ = Value.slice a (xs ++ ys).length (xs ++ ys).length
  rw [List.length_append]
theorem _root_.Go.Am.Out.pushX {lo hi : Nat} {H K : Heap} (h : Out lo hi H K) (c : Blk) : Out lo hi H (K.push c) := h.trans (Out.of_ext (Ext.push _ _))
theorem _root_.Go.Am.Out.killX {α : Type} {d : Enc α} {ys : List α} {q : Option Addr} {lo hi : Nat} {H K : Heap} (h : Out lo hi H K) {base : Nat} (hq : Buf d K base q ys) (hb : H.next ≤ base) : Out lo hi H (K.killO q) := by
  cases hq with
  | nil => exact h
  | @blk b _ h1 h2 => exact ⟨h.next, fun x c hx hc => by
      have := H.lt _ _ hc
      show (if x = b then none else K.blk x) = some c
      rw [if_neg (by omega)]
      exact h.same x c hx hc⟩
theorem Out.ext {H K0 K : Heap} {hi : Nat} (e : Ext H K0) (o : Out H.next hi K0 K) : Ext H K := ⟨Nat.le_trans e.next o.next, fun b c h => o.same b c (.inl (H.lt _ _ h)) (e.same b c h)⟩
def v0 : Val := ⟨0, 0, 0, 0, 0, 0⟩
/-- The values so far, and what each is equal to. -/
def sh (same : List Val → Val → Int) (vals : List Val) : Nat → List Val × List Int
  | 0 => ([], [])
  | k + 1 => ((sh same vals k).1 ++ [withV ((vals[k]?).getD v0) (sh same vals k).2], (sh same vals k).2 ++ [same (sh same vals k).1 (withV ((vals[k]?).getD v0) (sh same vals k).2)])
/-- Every value's operands come ahead of it. -/
def OpsG (vals : List Val) : Prop := ∀ (i : Nat) (v : Val), vals[i]? = some v → OpsIn v i
/-- What is found equal comes no later. -/
def SameOK (same : List Val → Val → Int) : Prop := ∀ (vs : List Val) (v : Val), OpsG vs → OpsIn v vs.length → 0 ≤ same vs v ∧ same vs v ≤ vs.length
theorem withV_op (v : Val) (eq : List Int) : (withV v eq).op = v.op := rfl
theorem withV_in {v : Val} {eq : List Int} {n : Int} (h : OpsIn v eq.length) (he : ∀ (j : Nat) (x : Int), eq[j]? = some x → 0 ≤ x ∧ x ≤ j) (hn : eq.length ≤ n) : OpsIn (withV v eq) n := by
  have get : ∀ j : Int, 0 ≤ j → j < eq.length → 0 ≤ atV eq j ∧ atV eq j < n := fun j h0 h1 => by
    have hj : j.toNat < eq.length := by omega
    have := he j.toNat _ (List.getElem?_eq_getElem hj)
    unfold atV
    rw [List.getElem?_eq_getElem hj]
    simp only [Option.getD_some]
    omega
  refine ⟨fun q => ?_, fun q => ?_, fun q => ?_⟩ <;> rw [withV_op] at q
  · have := h.a q; simp only [withV, if_pos q]; exact get _ this.1 this.2
  · have := h.b q; simp only [withV, if_pos q]; exact get _ this.1 this.2
  · have := h.c q; simp only [withV, if_pos q]; exact get _ this.1 this.2
structure ShOK (same : List Val → Val → Int) (vals : List Val) (k : Nat) : Prop where
  l1 : (sh same vals k).1.length = k
  l2 : (sh same vals k).2.length = k
  eq : ∀ (j : Nat) (x : Int), (sh same vals k).2[j]? = some x → 0 ≤ x ∧ x ≤ j
  ops : OpsG (sh same vals k).1
theorem sh_ok {same : List Val → Val → Int} {vals : List Val} (hs : SameOK same) (hg : OpsG vals) : ∀ k, k ≤ vals.length → ShOK same vals k
  | 0, _ => ⟨rfl, rfl, fun j x h => by simp [sh] at h, fun j x h => by simp [sh] at h⟩
  | k + 1, hk => by
    obtain ⟨l1, l2, he, ho⟩ := sh_ok hs hg k (by omega)
    have hv : (vals[k]?).getD v0 = vals[k] := by rw [List.getElem?_eq_getElem (by omega)]; rfl
    have hin : OpsIn vals[k] k := hg k _ (List.getElem?_eq_getElem (by omega))
    have hw : OpsIn (withV vals[k] (sh same vals k).2) k := withV_in (by rw [l2]; exact hin) he (by omega)
    have hsm := hs (sh same vals k).1 (withV vals[k] (sh same vals k).2) ho (by rw [l1]; exact hw)
    refine ⟨by simp [sh, l1], by simp [sh, l2], fun j x h => ?_, fun j x h => ?_⟩
    · simp only [sh, hv] at h
      by_cases hj : j < k
      · rw [List.getElem?_append_left (by omega)] at h; exact he j x h
      · rw [List.getElem?_append_right (by omega), l2] at h
        have : j - k = 0 := by
          have := (List.getElem?_eq_some_iff.1 h).1
          simp at this; omega
        rw [this] at h
        simp at h
        subst h
        rw [l1] at hsm; omega
    · simp only [sh, hv] at h
      by_cases hj : j < k
      · rw [List.getElem?_append_left (by omega)] at h; exact ho j x h
      · rw [List.getElem?_append_right (by omega), l1] at h
        have : j - k = 0 := by
          have := (List.getElem?_eq_some_iff.1 h).1
          simp at this; omega
        rw [this] at h
        simp at h
        subst h
        have : j = k := by omega
        subst this
        exact hw
def sameCommon (vs : List Val) (v : Val) : Int := match vs.findIdx? (fun w => sameV w v) with | some j => (j : Int) | none => (vs.length : Int)
def sameNeg (vs : List Val) (v : Val) : Int := if v.op = 6 ∧ (vAtI vs v.a).op = 6 then (vAtI vs v.a).a else (vs.length : Int)
def sameUnit (vs : List Val) (v : Val) : Int := if 0 ≤ unitI vs v then unitI vs v else (vs.length : Int)
theorem sameCommon_ok : SameOK sameCommon := fun vs v h1 h2 => by
  unfold sameCommon
  split
  · rename_i j hj
    have := (List.findIdx?_eq_some_iff_getElem.1 hj).1
    omega
  · omega
theorem sameNeg_ok : SameOK sameNeg := fun vs v h1 h2 => by
  unfold sameNeg
  split
  · rename_i h
    have ho : ∀ op : Int, op = 6 → opnd op = 1 := fun op e => by subst e; decide
    have ha := h2.a (by rw [ho _ h.1]; omega)
    have hw := h1 v.a.toNat _ (vAtI_get ha.1 ha.2)
    have := hw.a (by rw [ho _ h.2]; omega)
    omega
  · omega
theorem sameUnit_ok : SameOK sameUnit := fun vs v h1 h2 => by
  unfold sameUnit
  split
  · rename_i h
    refine ⟨h, ?_⟩
    have hin : (v.op = 2 ∨ v.op = 3 ∨ v.op = 4 ∨ v.op = 5) → v.a ≤ vs.length ∧ v.b ≤ vs.length := fun hop => by
      have := opnd2 hop
      have ha := h2.a (by omega)
      have hb := h2.b (by omega)
      omega
    unfold unitI
    repeat' split
    all_goals first | (have := hin (by omega); omega) | omega
  · omega
theorem argOK_in {i : Int} {v : Val} (h0 : argOK i v 0 = true) (h1 : argOK i v 1 = true) (h2 : argOK i v 2 = true) : OpsIn v i := by
  refine ⟨fun q => ?_, fun q => ?_, fun q => ?_⟩
  · simpa [argOK, q, fieldV] using h0
  · simpa [argOK, q, fieldV] using h1
  · simpa [argOK, q, fieldV] using h2
theorem valid_ops {g : Graph} (h : validB g = true) : OpsG g.vals := fun i v hv => by
  simp only [validB, Bool.and_eq_true, decide_eq_true_eq] at h
  obtain ⟨⟨⟨⟨⟨⟨v1, v2⟩, v3⟩, v4⟩, v5⟩, v6⟩, v7⟩ := h
  rw [List.all_eq_true] at v5
  have hi : i < g.vals.length := (List.getElem?_eq_some_iff.1 hv).1
  have := v5 i (List.mem_range.2 hi)
  rw [vAt_get hv] at this
  by_cases hop : v.op = 0
  · have : opnd v.op = 0 := by rw [hop]; decide
    exact ⟨fun q => by omega, fun q => by omega, fun q => by omega⟩
  · simp only [vokB, if_neg hop, Bool.and_eq_true] at this
    exact argOK_in this.2.1.1.1 this.2.1.1.2 this.2.1.2
theorem valid_outs {g : Graph} (h : validB g = true) : ∀ o ∈ g.outs, 0 ≤ o ∧ o < g.vals.length := fun o ho => by
  simp only [validB, Bool.and_eq_true, decide_eq_true_eq] at h
  have := List.all_eq_true.1 h.1.2 o ho
  simpa [inIdx] using this
theorem valid_lens {g : Graph} (h : validB g = true) : g.ins.length ≤ 20 ∧ g.vals.length ≤ 2000 ∧ g.outs.length ≤ 50 := by
  simp only [validB, Bool.and_eq_true, decide_eq_true_eq] at h
  obtain ⟨⟨⟨⟨⟨⟨v1, v2⟩, v3⟩, v4⟩, v5⟩, v6⟩, v7⟩ := h
  exact ⟨v1, v2, v3⟩
/-- A graph whose values are shared. -/
def shared (same : List Val → Val → Int) (g : Graph) : Graph := ⟨g.ins, (sh same g.vals g.vals.length).1, g.outs.map (atV (sh same g.vals g.vals.length).2)⟩
end Go.Proofs.Ytaaelokodfildaa
