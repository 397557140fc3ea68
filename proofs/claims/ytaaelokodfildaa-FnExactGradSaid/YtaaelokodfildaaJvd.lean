/- Forward moves as a plain function. Conditions: those of each. -/
import Derived.Test.YtaaelokodfildaaJvc
set_option linter.unusedVariables false
set_option linter.unusedSimpArgs false
namespace Go.Proofs.Ytaaelokodfildaa
open Go.Am

/-- A list with at most k values of length n behind it. -/
def PreL (n : Int) (k : Nat) (vs ws : List Val) : Prop := ∃ e, ws = vs ++ e ∧ e.length ≤ k ∧ ∀ w ∈ e, w.len = n
theorem PreL.refl (n : Int) (k : Nat) (vs : List Val) : PreL n k vs vs := ⟨[], by simp, Nat.zero_le _, fun w h => by simp at h⟩
theorem PreL.one (n : Int) (vs : List Val) {v : Val} (h : v.len = n) : PreL n 1 vs (vs ++ [v]) := ⟨[v], rfl, Nat.le_refl _, fun w hw => by simp at hw; rw [hw]; exact h⟩
theorem PreL.trans {n : Int} {k l m : Nat} {a b c : List Val} (h : PreL n k a b) (h' : PreL n l b c) (hm : k + l ≤ m) : PreL n m a c := by
  obtain ⟨e, rfl, h1, h2⟩ := h
  obtain ⟨f, rfl, h3, h4⟩ := h'
  exact ⟨e ++ f, by simp, by simp; omega, fun w hw => by
    rcases List.mem_append.1 hw with q | q
    · exact h2 w q
    · exact h4 w q⟩
theorem PreL.le {n : Int} {k l : Nat} {a b : List Val} (h : PreL n k a b) (hm : k ≤ l) : PreL n l a b := by
  obtain ⟨e, h0, h1, h2⟩ := h; exact ⟨e, h0, by omega, h2⟩
theorem PreL.len {n : Int} {k : Nat} {a b : List Val} (h : PreL n k a b) : a.length ≤ b.length ∧ b.length ≤ a.length + k := by
  obtain ⟨e, rfl, h1, _⟩ := h; simp; omega
/-- An index or none. -/
def Bd (a : Int) (vs : List Val) : Prop := -1 ≤ a ∧ a < vs.length
theorem Bd.mono {a n : Int} {k : Nat} {vs ws : List Val} (h : Bd a vs) (p : PreL n k vs ws) : Bd a ws := ⟨h.1, by have := h.2; have := p.len; omega⟩
theorem orP_pre {vs : List Val} {a n : Int} (h : Bd a vs) : PreL n 1 vs (orP vs a n).1 ∧ Bd (orP vs a n).2 (orP vs a n).1 := by
  unfold orP
  split
  · exact ⟨PreL.refl _ _ _, h⟩
  · exact ⟨PreL.one _ _ rfl, by constructor <;> simp <;> omega⟩
theorem bd_new (vs : List Val) (v : Val) : Bd (vs.length : Int) (vs ++ [v]) := ⟨by omega, by simp; omega⟩
theorem bd_none (vs : List Val) : Bd (-1) vs := ⟨by omega, by omega⟩
theorem mvLin_pre {op n : Int} {vs : List Val} {ta tb : Int} (ha : Bd ta vs) (hb : Bd tb vs) : PreL n 1 vs (mvLin op n vs ta tb).1 ∧ Bd (mvLin op n vs ta tb).2 (mvLin op n vs ta tb).1 := by
  unfold mvLin
  repeat' split
  · exact ⟨PreL.one _ _ rfl, bd_new _ _⟩
  · exact ⟨PreL.refl _ _ _, ha⟩
  · exact ⟨PreL.one _ _ rfl, bd_new _ _⟩
  · exact ⟨PreL.refl _ _ _, hb⟩
theorem st1_pre {op n b : Int} {vs : List Val} {ta : Int} : PreL n 1 vs (st1 op n b vs ta).1 ∧ Bd (st1 op n b vs ta).2 (st1 op n b vs ta).1 := by
  unfold st1
  split
  · exact ⟨PreL.one _ _ rfl, bd_new _ _⟩
  · exact ⟨PreL.refl _ _ _, bd_none _⟩
theorem st2m_pre {n a : Int} {vs : List Val} {tb : Int} : PreL n 1 vs (st2m n a vs tb).1 ∧ Bd (st2m n a vs tb).2 (st2m n a vs tb).1 := by
  unfold st2m
  split
  · exact ⟨PreL.one _ _ rfl, bd_new _ _⟩
  · exact ⟨PreL.refl _ _ _, bd_none _⟩
theorem st2d_pre {n i b : Int} {vs : List Val} {tb : Int} : PreL n 2 vs (st2d n i b vs tb).1 ∧ Bd (st2d n i b vs tb).2 (st2d n i b vs tb).1 := by
  unfold st2d
  split
  · exact ⟨(PreL.one n vs (v := opV 4 n i tb 0) rfl).trans (PreL.one n _ rfl) (by omega), by constructor <;> simp <;> omega⟩
  · exact ⟨PreL.refl _ _ _, bd_none _⟩
theorem st3m_pre {n : Int} {vs : List Val} {p q : Int} (hp : Bd p vs) (hq : Bd q vs) : PreL n 1 vs (st3m n vs p q).1 ∧ Bd (st3m n vs p q).2 (st3m n vs p q).1 := by
  unfold st3m
  repeat' split
  · exact ⟨PreL.one _ _ rfl, bd_new _ _⟩
  · exact ⟨PreL.refl _ _ _, hp⟩
  · exact ⟨PreL.refl _ _ _, hq⟩
theorem st3d_pre {n : Int} {vs : List Val} {p q : Int} (hp : Bd p vs) (hq : Bd q vs) : PreL n 1 vs (st3d n vs p q).1 ∧ Bd (st3d n vs p q).2 (st3d n vs p q).1 := by
  unfold st3d
  repeat' split
  · exact ⟨PreL.one _ _ rfl, bd_new _ _⟩
  · exact ⟨PreL.refl _ _ _, hp⟩
  · exact ⟨PreL.one _ _ rfl, bd_new _ _⟩
  · exact ⟨PreL.refl _ _ _, hq⟩
theorem moveP_pre {vs : List Val} {v : Val} {i ta tb tc : Int} (ha : Bd ta vs) (hb : Bd tb vs) (hc : Bd tc vs) : PreL v.len 4 vs (moveP vs v i ta tb tc).1 ∧ Bd (moveP vs v i ta tb tc).2 (moveP vs v i ta tb tc).1 := by
  unfold moveP
  split
  · obtain ⟨a, b⟩ := mvLin_pre (op := v.op) (n := v.len) ha hb
    exact ⟨a.le (by omega), b⟩
  split
  · unfold mvMul
    obtain ⟨a1, b1⟩ := st1_pre (op := v.op) (n := v.len) (b := v.b) (vs := vs) (ta := ta)
    obtain ⟨a2, b2⟩ := st2m_pre (n := v.len) (a := v.a) (vs := (st1 v.op v.len v.b vs ta).1) (tb := tb)
    obtain ⟨a3, b3⟩ := st3m_pre (n := v.len) (b1.mono a2) b2
    exact ⟨(a1.trans a2 (m := 3) (by omega)).trans a3 (by omega), b3⟩
  split
  · unfold mvDiv
    obtain ⟨a1, b1⟩ := st1_pre (op := v.op) (n := v.len) (b := v.b) (vs := vs) (ta := ta)
    obtain ⟨a2, b2⟩ := st2d_pre (n := v.len) (i := i) (b := v.b) (vs := (st1 v.op v.len v.b vs ta).1) (tb := tb)
    obtain ⟨a3, b3⟩ := st3d_pre (n := v.len) (b1.mono a2) b2
    exact ⟨(a1.trans a2 (m := 3) (by omega)).trans a3 (by omega), b3⟩
  split
  · unfold mvMax
    split
    · exact ⟨PreL.refl _ _ _, bd_none _⟩
    · have p0 := PreL.one v.len vs (v := opV 3 v.len v.a v.b 0) rfl
      obtain ⟨a1, b1⟩ := orP_pre (n := v.len) (ha.mono p0)
      obtain ⟨a2, b2⟩ := orP_pre (n := v.len) ((hb.mono p0).mono a1)
      exact ⟨((p0.trans a1 (m := 2) (by omega)).trans a2 (m := 3) (by omega)).trans (PreL.one _ _ rfl) (by omega), bd_new _ _⟩
  split
  · unfold mvSel
    split
    · exact ⟨PreL.refl _ _ _, bd_none _⟩
    · obtain ⟨a1, b1⟩ := orP_pre (n := v.len) hb
      obtain ⟨a2, b2⟩ := orP_pre (n := v.len) (hc.mono a1)
      exact ⟨(a1.trans a2 (m := 2) (by omega)).trans (PreL.one _ _ rfl) (by omega), bd_new _ _⟩
  · unfold mvOne
    split
    · exact ⟨PreL.refl _ _ _, bd_none _⟩
    · exact ⟨(PreL.one _ _ (by split <;> rfl)).le (by omega), bd_new _ _⟩
/-- Without a move of an operand there is none. -/
theorem moveP_none {vs : List Val} {v : Val} {i ta tb tc : Int} (ha : Bd ta vs) (hb : Bd tb vs) (hc : Bd tc vs) (h1 : ta < 0) (h2 : tb < 0) (h3 : tc < 0) : moveP vs v i ta tb tc = (vs, -1) := by
  have e2 : tb = -1 := by have := hb.1; omega
  have n1 : ¬ 0 ≤ ta := by omega
  have n2 : ¬ 0 ≤ tb := by omega
  unfold moveP
  split
  · unfold mvLin; rw [if_neg (by omega), if_neg n1, if_neg (by omega), e2]
  split
  · unfold mvMul st1; rw [if_neg n1]; dsimp only; unfold st2m; rw [if_neg n2]; dsimp only; unfold st3m; rw [if_neg (by omega), if_neg (by omega)]
  split
  · unfold mvDiv st1; rw [if_neg n1]; dsimp only; unfold st2d; rw [if_neg n2]; dsimp only; unfold st3d; rw [if_neg (by omega), if_neg (by omega), if_neg (by omega)]
  split
  · unfold mvMax; rw [if_pos ⟨h1, h2⟩]
  split
  · unfold mvSel; rw [if_pos ⟨h2, h3⟩]
  · unfold mvOne; rw [if_pos h1]
/-- The move of an operand. -/
def jf (mv : List Int) (v : Val) (k : Int) : Int := if k < opnd v.op then atV mv (fieldV v k) else -1
def jsome (mv : List Int) (v : Val) : Bool := decide (0 ≤ jf mv v 0 ∨ 0 ≤ jf mv v 1 ∨ 0 ≤ jf mv v 2)
/-- The values and the moves, d values behind x. -/
def jr (vals : List Val) (x : Nat) (t : Int) : Nat → List Val × List Int
  | 0 => (vals, (List.replicate vals.length (-1)).set x t)
  | d + 1 => if jsome (jr vals x t d).2 (vAtI vals ((x + d + 1 : Nat) : Int)) then
      ((moveP (jr vals x t d).1 (vAtI vals ((x + d + 1 : Nat) : Int)) ((x + d + 1 : Nat) : Int) (jf (jr vals x t d).2 (vAtI vals ((x + d + 1 : Nat) : Int)) 0) (jf (jr vals x t d).2 (vAtI vals ((x + d + 1 : Nat) : Int)) 1) (jf (jr vals x t d).2 (vAtI vals ((x + d + 1 : Nat) : Int)) 2)).1,
       (jr vals x t d).2.set (x + d + 1) (moveP (jr vals x t d).1 (vAtI vals ((x + d + 1 : Nat) : Int)) ((x + d + 1 : Nat) : Int) (jf (jr vals x t d).2 (vAtI vals ((x + d + 1 : Nat) : Int)) 0) (jf (jr vals x t d).2 (vAtI vals ((x + d + 1 : Nat) : Int)) 1) (jf (jr vals x t d).2 (vAtI vals ((x + d + 1 : Nat) : Int)) 2)).2)
    else jr vals x t d
structure JrOK (vals : List Val) (x d : Nat) (st : List Val × List Int) : Prop where
  len : st.2.length = vals.length
  bd : ∀ j, Bd (atV st.2 j) st.1
  pre : ∃ e, st.1 = vals ++ e ∧ e.length ≤ 4 * d ∧ ∀ w ∈ e, 0 ≤ w.len ∧ w.len ≤ 1000
  none : ∀ j : Nat, x + d < j → j < vals.length → atV st.2 (j : Int) < 0
theorem atV_rep (n : Nat) (j : Int) (h : j.toNat < n) : atV (List.replicate n (-1)) j = -1 := by unfold atV; simp [h]
theorem atV_out {l : List Int} {j : Int} (h : l.length ≤ j.toNat) : atV l j = 0 := by unfold atV; rw [List.getElem?_eq_none h]; rfl
theorem jf_bd {vals : List Val} {x d : Nat} {st : List Val × List Int} (h : JrOK vals x d st) (v : Val) (k : Int) : Bd (jf st.2 v k) st.1 := by
  unfold jf
  split
  · exact h.bd _
  · exact bd_none _
theorem atV_setI (l : List Int) (k : Nat) (y j : Int) (hk : k < l.length) : atV (l.set k y) j = if j.toNat = k then y else atV l j := by
  unfold atV
  rw [List.getElem?_set]
  by_cases h : k = j.toNat
  · subst h; simp [hk]
  · have h' : ¬ j.toNat = k := fun e => h e.symm
    simp [h, h']
theorem valid_okl {g : Graph} (h : validB g = true) {i : Nat} {v : Val} (hv : g.vals[i]? = some v) : okLen v.len = true := by
  simp only [validB, Bool.and_eq_true, decide_eq_true_eq] at h
  obtain ⟨⟨⟨⟨⟨⟨v1, v2⟩, v3⟩, v4⟩, v5⟩, v6⟩, v7⟩ := h
  rw [List.all_eq_true] at v5
  have hi : i < g.vals.length := (List.getElem?_eq_some_iff.1 hv).1
  have := v5 i (List.mem_range.2 hi)
  rw [vAt_get hv] at this
  simp only [vokB, Bool.and_eq_true] at this
  exact this.1.2
theorem jr_ok {g : Graph} (hv : validB g = true) {x : Nat} {t : Int} (hx : x < g.vals.length) (ht : 0 ≤ t ∧ t < g.vals.length) : ∀ d, x + d < g.vals.length → JrOK g.vals x d (jr g.vals x t d)
  | 0, _ => ⟨by simp [jr], fun j => by
      show Bd (atV ((List.replicate g.vals.length (-1)).set x t) j) g.vals
      rw [atV_setI _ _ _ _ (by simpa using hx)]
      split
      · exact ⟨by omega, ht.2⟩
      · by_cases hj : j.toNat < g.vals.length
        · rw [atV_rep _ _ hj]; exact bd_none _
        · rw [atV_out (by simp; omega)]; exact ⟨by omega, by omega⟩, ⟨[], by simp [jr], by simp, fun w h => by simp at h⟩, fun j hj hjn => by
      show atV ((List.replicate g.vals.length (-1)).set x t) (j : Int) < 0
      rw [atV_setI _ _ _ _ (by simpa using hx), if_neg (by omega), atV_rep _ _ (by omega)]; omega⟩
  | d + 1, hd => by
    have IH := jr_ok hv hx ht d (by omega)
    have hi : x + d + 1 < g.vals.length := by omega
    have hvk : g.vals[x + d + 1]? = some (vAtI g.vals ((x + d + 1 : Nat) : Int)) := vAtI_get (vals := g.vals) (i := ((x + d + 1 : Nat) : Int)) (by omega) (by omega)
    have hlen : 1 ≤ (vAtI g.vals ((x + d + 1 : Nat) : Int)).len ∧ (vAtI g.vals ((x + d + 1 : Nat) : Int)).len ≤ 1000 := by
      have := valid_okl hv hvk
      simpa [okLen] using this
    simp only [jr]
    generalize hst : jr g.vals x t d = st at *
    generalize hvv : vAtI g.vals ((x + d + 1 : Nat) : Int) = v at *
    obtain ⟨e, he, hel, hew⟩ := IH.pre
    split
    · obtain ⟨hp, hb⟩ := moveP_pre (v := v) (i := ((x + d + 1 : Nat) : Int)) (jf_bd IH v 0) (jf_bd IH v 1) (jf_bd IH v 2)
      generalize hm : moveP st.1 v ((x + d + 1 : Nat) : Int) (jf st.2 v 0) (jf st.2 v 1) (jf st.2 v 2) = m at *
      refine ⟨by simp [IH.len], fun j => ?_, ?_, fun j hj hjn => ?_⟩
      · dsimp only
        rw [atV_setI _ _ _ _ (by rw [IH.len]; exact hi)]
        split
        · exact hb
        · exact (IH.bd j).mono hp
      · obtain ⟨f, hf, hfl, hfw⟩ := hp
        refine ⟨e ++ f, by rw [hf, he]; simp, by simp; omega, fun w hw => ?_⟩
        rcases List.mem_append.1 hw with q | q
        · exact hew w q
        · rw [hfw w q]; omega
      · dsimp only
        rw [atV_setI _ _ _ _ (by rw [IH.len]; exact hi), if_neg (by omega)]
        exact IH.none j (by omega) hjn
    · exact ⟨IH.len, IH.bd, ⟨e, he, by omega, hew⟩, fun j hj hjn => IH.none j (by omega) hjn⟩
end Go.Proofs.Ytaaelokodfildaa
