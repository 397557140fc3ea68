/- The gradient as a plain function. Conditions: those of each. l2part: the reference's part of an operand. Written by gengrb.py. Conditions: the index is one of the graph's. -/
import Derived.Test.YtaaelokodfildaaJvn
set_option linter.unusedVariables false
set_option linter.unusedSimpArgs false
namespace Go.Proofs.Ytaaelokodfildaa
open Go.Am

def baL (l : List Bool) (i : Nat) : Bool := (l[i]?).getD false
theorem baL_set (l : List Bool) (i j : Nat) (y : Bool) (h : i < l.length) : baL (l.set i y) j = if j = i then y else baL l j := by
  unfold baL
  rw [List.getElem?_set]
  by_cases e : i = j
  · subst e; simp [h]
  · have e' : ¬ j = i := fun h => e h.symm
    simp [e, e']
theorem baL_out {l : List Bool} {i : Nat} (h : l.length ≤ i) : baL l i = false := by unfold baL; rw [List.getElem?_eq_none h]; rfl
theorem baL_rep (n i : Nat) : baL (List.replicate n false) i = false := by
  unfold baL
  by_cases h : i < n
  · simp [h]
  · rw [List.getElem?_eq_none (by simpa using h)]; rfl
theorem baL_get {l : List Bool} {i : Nat} (h : i < l.length) : l[i]? = some (baL l i) := by unfold baL; rw [List.getElem?_eq_getElem h]; rfl
theorem set_false {l : List Bool} {i : Nat} (h : baL l i = false) : l.set i false = l := by
  by_cases hi : i < l.length
  · have := baL_get hi
    rw [h] at this
    rw [List.getElem?_eq_getElem hi] at this
    have this := Option.some.inj this
    apply List.ext_getElem?
    intro j
    rw [List.getElem?_set]
    split
    · rename_i e; subst e; simp [hi, this]
    · rfl
  · exact List.set_eq_of_length_le (by omega)
theorem opnd_fieldB {v : Val} {n : Int} (h : OpsIn v n) {k : Int} (h0 : 0 ≤ k) (hk : k < opnd v.op) : 0 ≤ fieldV v k ∧ fieldV v k < n := by
  have h3 := opnd3 v.op
  have hk3 : k = 0 ∨ k = 1 ∨ k = 2 := by omega
  rcases hk3 with rfl | rfl | rfl
  · simpa [fieldV] using h.a (by omega)
  · simpa [fieldV] using h.b (by omega)
  · simpa [fieldV] using h.c (by omega)
/-- Some of the first k operands is active. -/
def anyK (m : List Bool) (v : Val) (k : Nat) : Bool := ((argsL v).take k).any fun o => baL m o.toNat
/-- What is active, d values behind x. -/
def acL (N : Nat) (vals : List Val) (x : Nat) : Nat → List Bool
  | 0 => (List.replicate N false).set x true
  | d + 1 => (acL N vals x d).set (x + d + 1) (anyK (acL N vals x d) (vAtI vals ((x + d + 1 : Nat) : Int)) (argsL (vAtI vals ((x + d + 1 : Nat) : Int))).length)
theorem acL_len (N : Nat) (vals : List Val) (x : Nat) : ∀ d, (acL N vals x d).length = N
  | 0 => by simp [acL]
  | d + 1 => by simp [acL, acL_len N vals x d]
theorem acL_false (N : Nat) (vals : List Val) (x : Nat) (hx : x < N) : ∀ d j, x + d < j → baL (acL N vals x d) j = false
  | 0, j, h => by
    rw [acL, baL_set _ _ _ _ (by simpa using hx), if_neg (by omega), baL_rep]
  | d + 1, j, h => by
    simp only [acL]
    by_cases hi : x + d + 1 < N
    · rw [baL_set _ _ _ _ (by rw [acL_len]; exact hi), if_neg (by omega)]
      exact acL_false N vals x hx d j (by omega)
    · exact baL_out (by simp [acL_len]; omega)
theorem args_lt {v : Val} {n : Int} (h : OpsIn v n) : ∀ o ∈ argsL v, 0 ≤ o ∧ o < n := fun o ho => by
  obtain ⟨k, hk⟩ := List.getElem?_of_mem ho
  have hlt : k < (opnd v.op).toNat := by rw [← argsL_len]; exact (List.getElem?_eq_some_iff.1 hk).1
  have h3 := opnd3 v.op
  rw [argsL_get hlt] at hk
  cases hk
  have hk3 : k = 0 ∨ k = 1 ∨ k = 2 := by omega
  rcases hk3 with rfl | rfl | rfl
  · simpa [fieldV] using h.a (by omega)
  · simpa [fieldV] using h.b (by omega)
  · simpa [fieldV] using h.c (by omega)
theorem acL_same {N M : Nat} {vals : List Val} (hops : OpsG vals) {x : Nat} (hN : x < N) (hM : x < M) : ∀ d, x + d < N → x + d < M → x + d < vals.length → ∀ j, j < N → j < M → baL (acL N vals x d) j = baL (acL M vals x d) j
  | 0, _, _, _, j, h1, h2 => by
    rw [acL, acL, baL_set _ _ _ _ (by simpa using hN), baL_set _ _ _ _ (by simpa using hM), baL_rep, baL_rep]
  | d + 1, a1, a2, a3, j, h1, h2 => by
    have IH := acL_same hops hN hM d (by omega) (by omega) (by omega)
    simp only [acL]
    rw [baL_set _ _ _ _ (by rw [acL_len]; omega), baL_set _ _ _ _ (by rw [acL_len]; omega)]
    split
    · have hv : vals[x + d + 1]? = some (vAtI vals ((x + d + 1 : Nat) : Int)) := vAtI_get (vals := vals) (i := ((x + d + 1 : Nat) : Int)) (by omega) (by omega)
      have hin := args_lt (hops _ _ hv)
      generalize vAtI vals ((x + d + 1 : Nat) : Int) = v at *
      unfold anyK
      rw [List.take_of_length_le (Nat.le_refl _)]
      have key : ∀ l : List Int, (∀ o ∈ l, 0 ≤ o ∧ o < ((x + d + 1 : Nat) : Int)) → l.any (fun o => baL (acL N vals x d) o.toNat) = l.any (fun o => baL (acL M vals x d) o.toNat) := by
        intro l
        induction l with
        | nil => intro _; rfl
        | cons o r ih =>
          intro hl
          have := hl o (by simp)
          rw [List.any_cons, List.any_cons, ih (fun o ho => hl o (by simp [ho])), IH o.toNat (by omega) (by omega)]
      exact key _ hin
    · exact IH j h1 h2
theorem anyK_succ (m : List Bool) (v : Val) {k : Nat} (h : k < (opnd v.op).toNat) : anyK m v (k + 1) = (anyK m v k || baL m (fieldV v k).toNat) := by
  unfold anyK
  have hg := argsL_get h
  have hlt : k < (argsL v).length := by rw [argsL_len]; exact h
  rw [List.take_add_one, hg, List.any_append]
  simp
/-- The part of value i for its k-th operand, of slope d: what is put behind, and where it is. -/
def partP (vs : List Val) (v : Val) (i k d src : Int) : List Val × Int :=
  if v.op = 2 ∨ (v.op = 3 ∧ k = 0) then (vs, d)
  else if v.op = 3 ∨ v.op = 6 then (vs ++ [opV 6 v.len d 0 0], (vs.length : Int))
  else if v.op = 4 then (vs ++ [opV 4 v.len d (fieldV v (1 - k)) 0], (vs.length : Int))
  else if v.op = 5 ∧ k = 0 then (vs ++ [opV 5 v.len d v.b 0], (vs.length : Int))
  else if v.op = 5 then (vs ++ [opV 4 v.len d i 0] ++ [opV 5 v.len (vs.length : Int) v.b 0] ++ [opV 6 v.len ((vs.length : Int) + 1) 0 0], (vs.length : Int) + 2)
  else if v.op = 7 then (vs ++ [opV 3 v.len v.a v.b 0] ++ [opV 1 v.len 0 0 0] ++ [if k = 0 then opV 8 v.len (vs.length : Int) d ((vs.length : Int) + 1) else opV 8 v.len (vs.length : Int) ((vs.length : Int) + 1) d], (vs.length : Int) + 2)
  else if v.op = 8 then (vs ++ [opV 1 v.len 0 0 0] ++ [if k = 1 then opV 8 v.len v.a d (vs.length : Int) else opV 8 v.len v.a (vs.length : Int) d], (vs.length : Int) + 1)
  else if v.op = 9 then (vs ++ [opV 10 src d 0 0], (vs.length : Int))
  else if v.op = 10 then (vs ++ [opV 9 1 d 0 0], (vs.length : Int))
  else if v.op = 11 then (vs ++ [opV 12 src d 0 v.c], (vs.length : Int))
  else if v.op = 12 then (vs ++ [opV 11 1 d 0 v.c], (vs.length : Int))
  else (vs ++ [opV 4 v.len d i 0], (vs.length : Int))
/-- A list with at most k values behind it, all of a length. -/
def PreB (k : Nat) (vs ws : List Val) : Prop := ∃ e, ws = vs ++ e ∧ e.length ≤ k ∧ ∀ w ∈ e, 0 ≤ w.len ∧ w.len ≤ 1000
theorem PreB.refl (k : Nat) (vs : List Val) : PreB k vs vs := ⟨[], by simp, Nat.zero_le _, fun w h => by simp at h⟩
theorem PreB.one (vs : List Val) (v : Val) (h : 0 ≤ v.len ∧ v.len ≤ 1000) : PreB 1 vs (vs ++ [v]) := ⟨[v], rfl, Nat.le_refl _, fun w hw => by simp at hw; rw [hw]; exact h⟩
theorem PreB.trans {k l m : Nat} {a b c : List Val} (h : PreB k a b) (h' : PreB l b c) (hm : k + l ≤ m) : PreB m a c := by
  obtain ⟨e, rfl, h1, h2⟩ := h
  obtain ⟨f, rfl, h3, h4⟩ := h'
  exact ⟨e ++ f, by simp, by simp; omega, fun w hw => by
    rcases List.mem_append.1 hw with q | q
    · exact h2 w q
    · exact h4 w q⟩
theorem PreB.le {k l : Nat} {a b : List Val} (h : PreB k a b) (hm : k ≤ l) : PreB l a b := by
  obtain ⟨e, h0, h1, h2⟩ := h; exact ⟨e, h0, by omega, h2⟩
theorem PreB.len {k : Nat} {a b : List Val} (h : PreB k a b) : a.length ≤ b.length ∧ b.length ≤ a.length + k := by
  obtain ⟨e, rfl, h1, _⟩ := h; simp; omega
theorem PreB.pre {k : Nat} {a b : List Val} (h : PreB k a b) : Pre a b := by obtain ⟨e, h1, _, h2⟩ := h; exact ⟨e, h1, h2⟩
theorem PreB.two (vs : List Val) (a c : Val) (ha : 0 ≤ a.len ∧ a.len ≤ 1000) (hc : 0 ≤ c.len ∧ c.len ≤ 1000) : PreB 2 vs (vs ++ [a] ++ [c]) := (PreB.one vs a ha).trans (PreB.one _ c hc) (by omega)
theorem PreB.three (vs : List Val) (a c e : Val) (ha : 0 ≤ a.len ∧ a.len ≤ 1000) (hc : 0 ≤ c.len ∧ c.len ≤ 1000) (he : 0 ≤ e.len ∧ e.len ≤ 1000) : PreB 3 vs (vs ++ [a] ++ [c] ++ [e]) := (PreB.two vs a c ha hc).trans (PreB.one _ e he) (by omega)
theorem Bd.preB {a : Int} {k : Nat} {vs ws : List Val} (h : Bd a vs) (p : PreB k vs ws) : Bd a ws := ⟨h.1, by have := h.2; have := p.len; omega⟩
theorem partP_pre {vs : List Val} {v : Val} {i k d src : Int} (hd : Bd d vs) (hn : 0 ≤ v.len ∧ v.len ≤ 1000) (hs : 0 ≤ src ∧ src ≤ 1000) : PreB 3 vs (partP vs v i k d src).1 ∧ Bd (partP vs v i k d src).2 (partP vs v i k d src).1 ∧ (0 ≤ d → 0 ≤ (partP vs v i k d src).2) := by
  have o : ∀ w : Val, 0 ≤ w.len ∧ w.len ≤ 1000 → PreB 3 vs (vs ++ [w]) ∧ Bd (vs.length : Int) (vs ++ [w]) ∧ (0 ≤ d → 0 ≤ (vs.length : Int)) := fun w h => ⟨(PreB.one vs w h).le (by omega), bd_new _ _, fun _ => by omega⟩
  generalize hy : partP vs v i k d src = y
  unfold partP at hy
  by_cases h0 : v.op = 2 ∨ (v.op = 3 ∧ k = 0)
  · rw [if_pos h0] at hy; subst hy
    exact ⟨PreB.refl _ _, hd, id⟩
  rw [if_neg h0] at hy
  by_cases h1 : v.op = 3 ∨ v.op = 6
  · rw [if_pos h1] at hy; subst hy
    exact o _ hn
  rw [if_neg h1] at hy
  by_cases h2 : v.op = 4
  · rw [if_pos h2] at hy; subst hy
    exact o _ hn
  rw [if_neg h2] at hy
  by_cases h3 : v.op = 5 ∧ k = 0
  · rw [if_pos h3] at hy; subst hy
    exact o _ hn
  rw [if_neg h3] at hy
  by_cases h4 : v.op = 5
  · rw [if_pos h4] at hy; subst hy
    refine ⟨PreB.three vs _ _ _ ?_ ?_ ?_, ⟨by omega, by simp⟩, fun _ => by omega⟩ <;> exact hn
  rw [if_neg h4] at hy
  by_cases h5 : v.op = 7
  · rw [if_pos h5] at hy; subst hy
    refine ⟨PreB.three vs _ _ _ hn hn ?_, ⟨by omega, by simp⟩, fun _ => by omega⟩
    split <;> exact hn
  rw [if_neg h5] at hy
  by_cases h6 : v.op = 8
  · rw [if_pos h6] at hy; subst hy
    refine ⟨(PreB.two vs (opV 1 v.len 0 0 0) _ hn ?_).le (show 2 ≤ 3 by omega), ⟨by omega, by simp⟩, fun _ => by omega⟩
    split <;> exact hn
  rw [if_neg h6] at hy
  by_cases h7 : v.op = 9
  · rw [if_pos h7] at hy; subst hy
    exact o _ hs
  rw [if_neg h7] at hy
  by_cases h8 : v.op = 10
  · rw [if_pos h8] at hy; subst hy
    exact o _ ⟨by show (0:Int) ≤ 1; omega, by show (1:Int) ≤ 1000; omega⟩
  rw [if_neg h8] at hy
  by_cases h9 : v.op = 11
  · rw [if_pos h9] at hy; subst hy
    exact o _ hs
  rw [if_neg h9] at hy
  by_cases h10 : v.op = 12
  · rw [if_pos h10] at hy; subst hy
    exact o _ ⟨by show (0:Int) ≤ 1; omega, by show (1:Int) ≤ 1000; omega⟩
  rw [if_neg h10] at hy
  subst hy
  exact o _ hn
/-- One operand's slope. -/
def gk (vals : List Val) (act : Nat → Bool) (v : Val) (i : Int) (d : Int) (st : List Val × List Int) (k : Nat) : List Val × List Int :=
  if act (fieldV v k).toNat = true ∧ ¬ (v.op = 8 ∧ k = 0) then
    if atV st.2 (fieldV v k) < 0 then ((partP st.1 v i k d (lenAt vals v.a)).1, st.2.set (fieldV v k).toNat (partP st.1 v i k d (lenAt vals v.a)).2)
    else ((partP st.1 v i k d (lenAt vals v.a)).1 ++ [opV 2 (lenAt vals (fieldV v k)) (atV st.2 (fieldV v k)) (partP st.1 v i k d (lenAt vals v.a)).2 0], st.2.set (fieldV v k).toNat ((partP st.1 v i k d (lenAt vals v.a)).1.length : Int))
  else st
def gin (vals : List Val) (act : Nat → Bool) (v : Val) (i : Int) (d : Int) (st : List Val × List Int) : Nat → List Val × List Int
  | 0 => st
  | k + 1 => gk vals act v i d (gin vals act v i d st k) k
def gi (vals : List Val) (act : Nat → Bool) (st : List Val × List Int) (i : Nat) : List Val × List Int :=
  if act i = true ∧ 0 ≤ atV st.2 i then gin vals act (vAtI vals i) i (atV st.2 i) st (opnd (vAtI vals i).op).toNat else st
def gr (vals : List Val) (act : Nat → Bool) (s : Nat) (st0 : List Val × List Int) : Nat → List Val × List Int
  | 0 => st0
  | d + 1 => gi vals act (gr vals act s st0 d) (s - d)
/-- The constant one. -/
def oneV : Val := ⟨1, 1, 0, 0, 0, 4607182418800017408⟩
def g0 (vals : List Val) (s : Nat) : List Val × List Int := (vals ++ [oneV], (List.replicate (s + 1) (-1)).set s (vals.length : Int))
/-- The gradient's values, and where it is. -/
def gradP (vals : List Val) (s x : Nat) : List Val × Int :=
  if s < x ∨ baL (acL vals.length vals x (s - x)) s = false then (vals ++ [opV 1 (lenAt vals x) 0 0 0], (vals.length : Int))
  else if atV (gr vals (baL (acL vals.length vals x (s - x))) s (g0 vals s) (s - x)).2 x < 0 then
    ((gr vals (baL (acL vals.length vals x (s - x))) s (g0 vals s) (s - x)).1 ++ [opV 1 (lenAt vals x) 0 0 0], ((gr vals (baL (acL vals.length vals x (s - x))) s (g0 vals s) (s - x)).1.length : Int))
  else ((gr vals (baL (acL vals.length vals x (s - x))) s (g0 vals s) (s - x)).1, atV (gr vals (baL (acL vals.length vals x (s - x))) s (g0 vals s) (s - x)).2 x)
/-- What holds of values and slopes. -/
structure GOK (vals : List Val) (s m : Nat) (st : List Val × List Int) : Prop where
  len : st.2.length = s + 1
  bd : ∀ j, Bd (atV st.2 j) st.1
  pre : PreB m vals st.1
theorem GOK.gk {vals : List Val} {act : Nat → Bool} {v : Val} {i d : Int} {s m : Nat} {st : List Val × List Int} (h : GOK vals s m st) (hin : OpsIn v ((s : Int) + 1)) (hvs : s < vals.length) (hlen : ∀ j : Int, 0 ≤ lenAt vals j ∧ lenAt vals j ≤ 1000) (hn : 0 ≤ v.len ∧ v.len ≤ 1000) (hd : Bd d st.1) (hd0 : 0 ≤ d) {k : Nat} (hk : k < (opnd v.op).toNat) :
    GOK vals s (m + 4) (gk vals act v i d st k) ∧ PreB 4 st.1 (gk vals act v i d st k).1 ∧ (0 ≤ atV st.2 (fieldV v k) → 0 ≤ atV (gk vals act v i d st k).2 (fieldV v k)) ∧ ∀ j : Int, j.toNat ≠ (fieldV v k).toNat → atV (gk vals act v i d st k).2 j = atV st.2 j := by
  have hf := opnd_fieldB hin (k := (k : Int)) (by omega) (by omega)
  have hlt : (fieldV v k).toNat < st.2.length := by rw [h.len]; omega
  obtain ⟨p1, p2, p3⟩ := partP_pre (i := i) (k := (k : Int)) (src := lenAt vals v.a) hd hn (hlen _)
  unfold Go.Proofs.Ytaaelokodfildaa.gk
  split
  · split
    · refine ⟨⟨by simp [h.len], fun j => ?_, h.pre.trans p1 (by omega)⟩, p1.le (by omega), fun _ => ?_, fun j hj => ?_⟩
      · dsimp only
        rw [atV_setI _ _ _ _ hlt]
        split
        · exact p2
        · exact (h.bd j).preB p1
      · dsimp only
        rw [atV_setI _ _ _ _ hlt, if_pos rfl]; exact p3 hd0
      · dsimp only
        rw [atV_setI _ _ _ _ hlt, if_neg hj]
    · have q := p1.trans (PreB.one (partP st.1 v i k d (lenAt vals v.a)).1 (opV 2 (lenAt vals (fieldV v k)) (atV st.2 (fieldV v k)) (partP st.1 v i k d (lenAt vals v.a)).2 0) (hlen _)) (m := 4) (by omega)
      refine ⟨⟨by simp [h.len], fun j => ?_, h.pre.trans q (by omega)⟩, q, fun _ => ?_, fun j hj => ?_⟩
      · dsimp only
        rw [atV_setI _ _ _ _ hlt]
        split
        · exact bd_new _ _
        · exact (h.bd j).preB q
      · dsimp only
        rw [atV_setI _ _ _ _ hlt, if_pos rfl]; omega
      · dsimp only
        rw [atV_setI _ _ _ _ hlt, if_neg hj]
  · exact ⟨⟨h.len, h.bd, h.pre.le (by omega)⟩, PreB.refl _ _, id, fun _ _ => rfl⟩
/-- The context of a gradient. -/
structure GC (vals : List Val) (s : Nat) : Prop where
  hs : s < vals.length
  ops : OpsG vals
  len : ∀ j : Int, 0 ≤ lenAt vals j ∧ lenAt vals j ≤ 1000
  all : ∀ v ∈ vals, 0 ≤ v.len ∧ v.len ≤ 1000
theorem GC.of {g : Graph} (hv : validB g = true) {s : Nat} (hs : s < g.vals.length) : GC g.vals s :=
  ⟨hs, valid_ops hv, fun j => by
    have hall := valid_all hv
    unfold lenAt
    cases h : g.vals[j.toNat]? with
    | none => simp
    | some v => exact hall v (List.mem_of_getElem? h), valid_all hv⟩
theorem gin_ok {vals : List Val} {s : Nat} (C : GC vals s) {act : Nat → Bool} {m : Nat} {st : List Val × List Int} (h : GOK vals s m st) {i : Nat} (hi : i ≤ s) (hd : 0 ≤ atV st.2 (i : Int)) : ∀ k, k ≤ (opnd (vAtI vals (i : Int)).op).toNat →
    GOK vals s (m + 4 * k) (gin vals act (vAtI vals (i : Int)) i (atV st.2 (i : Int)) st k) ∧ PreB (4 * k) st.1 (gin vals act (vAtI vals (i : Int)) i (atV st.2 (i : Int)) st k).1 ∧ ∀ j : Int, (i : Int) ≤ j → atV (gin vals act (vAtI vals (i : Int)) i (atV st.2 (i : Int)) st k).2 j = atV st.2 j
  | 0, _ => ⟨h, PreB.refl _ _, fun _ _ => rfl⟩
  | k + 1, hk => by
    obtain ⟨a1, a2, a3⟩ := gin_ok C h hi hd (act := act) k (by omega)
    have hvk : vals[i]? = some (vAtI vals (i : Int)) := vAtI_get (vals := vals) (i := (i : Int)) (by omega) (by have := C.hs; omega)
    have hin := C.ops _ _ hvk
    have hn := C.all _ (List.mem_of_getElem? hvk)
    obtain ⟨b1, b2, b3, b4⟩ := a1.gk (act := act) (i := i) (hin.mono (show (i : Int) ≤ (s : Int) + 1 by omega)) C.hs C.len hn ((h.bd _).preB a2) hd (k := k) (by omega)
    have hf := opnd_fieldB hin (k := (k : Int)) (by omega) (by omega)
    refine ⟨?_, ?_, fun j hj => ?_⟩
    · have e : m + 4 * k + 4 = m + 4 * (k + 1) := by omega
      rw [← e]; exact b1
    · exact a2.trans b2 (by omega)
    · rw [← a3 j hj]; exact b4 j (by omega)
theorem gi_ok {vals : List Val} {s : Nat} (C : GC vals s) {act : Nat → Bool} {m : Nat} {st : List Val × List Int} (h : GOK vals s m st) {i : Nat} (hi : i ≤ s) : GOK vals s (m + 12) (gi vals act st i) ∧ PreB 12 st.1 (gi vals act st i).1 := by
  unfold gi
  split
  · rename_i hc
    have h3 := opnd3 (vAtI vals (i : Int)).op
    obtain ⟨a1, a2, _⟩ := gin_ok C h hi hc.2 (act := act) _ (Nat.le_refl _)
    exact ⟨⟨a1.len, a1.bd, a1.pre.le (by omega)⟩, a2.le (by omega)⟩
  · exact ⟨⟨h.len, h.bd, h.pre.le (by omega)⟩, PreB.refl _ _⟩
theorem atV_repS (n : Nat) (j : Int) : atV (List.replicate n (-1)) j = -1 ∨ atV (List.replicate n (-1)) j = 0 := by
  by_cases h : j.toNat < n
  · exact .inl (atV_rep _ _ h)
  · exact .inr (atV_out (by simp; omega))
theorem g0_ok {vals : List Val} {s : Nat} (C : GC vals s) : GOK vals s 1 (g0 vals s) :=
  ⟨by simp [g0], fun j => by
    show Bd (atV ((List.replicate (s + 1) (-1)).set s (vals.length : Int)) j) (vals ++ [oneV])
    rw [atV_setI _ _ _ _ (by simp)]
    split
    · exact bd_new _ _
    · have := C.hs
      rcases atV_repS (s + 1) j with h | h <;> rw [h] <;> exact ⟨by omega, by simp <;> omega⟩, PreB.one vals oneV ⟨by show (0:Int) ≤ 1; omega, by show (1:Int) ≤ 1000; omega⟩⟩
theorem gr_ok {vals : List Val} {s : Nat} (C : GC vals s) (act : Nat → Bool) : ∀ d, GOK vals s (1 + 12 * d) (gr vals act s (g0 vals s) d)
  | 0 => g0_ok C
  | d + 1 => by
    have := (gi_ok C (gr_ok C act d) (act := act) (i := s - d) (by omega)).1
    have e : 1 + 12 * d + 12 = 1 + 12 * (d + 1) := by omega
    rw [← e]; exact this
theorem gr_pre {vals : List Val} {s : Nat} (C : GC vals s) (act : Nat → Bool) (d : Nat) : ∀ k, Pre (gr vals act s (g0 vals s) d).1 (gr vals act s (g0 vals s) (d + k)).1
  | 0 => .refl _
  | k + 1 => (gr_pre C act d k).trans (gi_ok C (gr_ok C act (d + k)) (act := act) (i := s - (d + k)) (by omega)).2.pre
theorem gin_pre {vals : List Val} {s : Nat} (C : GC vals s) {act : Nat → Bool} {m : Nat} {st : List Val × List Int} (h : GOK vals s m st) {i : Nat} (hi : i ≤ s) (hd : 0 ≤ atV st.2 (i : Int)) (k : Nat) : ∀ j, k + j ≤ (opnd (vAtI vals (i : Int)).op).toNat →
    Pre (gin vals act (vAtI vals (i : Int)) i (atV st.2 (i : Int)) st k).1 (gin vals act (vAtI vals (i : Int)) i (atV st.2 (i : Int)) st (k + j)).1
  | 0, _ => .refl _
  | j + 1, hk => by
    refine (gin_pre C h hi hd k j (by omega)).trans ?_
    obtain ⟨a1, a2, a3⟩ := gin_ok C h hi hd (act := act) (k + j) (by omega)
    have hvk : vals[i]? = some (vAtI vals (i : Int)) := vAtI_get (vals := vals) (i := (i : Int)) (by omega) (by have := C.hs; omega)
    have hin := C.ops _ _ hvk
    exact (a1.gk (act := act) (i := i) (hin.mono (show (i : Int) ≤ (s : Int) + 1 by omega)) C.hs C.len (C.all _ (List.mem_of_getElem? hvk)) ((h.bd _).preB a2) hd (k := k + j) (by omega)).2.1.pre
theorem grad_lens {g : Graph} (hv : validB g = true) {s x : Nat} (hs : s < g.vals.length) (hx : x < g.vals.length) : (gradP g.vals s x).1.length ≤ 30000 ∧ ∀ v ∈ (gradP g.vals s x).1, 0 ≤ v.len ∧ v.len ≤ 1000 := by
  have C := GC.of hv hs
  obtain ⟨h1, h2, h3⟩ := valid_lens hv
  have fin : ∀ {m : Nat} {ws : List Val}, m ≤ 27000 → PreB m g.vals ws → ws.length ≤ 30000 ∧ ∀ v ∈ ws, 0 ≤ v.len ∧ v.len ≤ 1000 := fun {m ws} hm h => by
    obtain ⟨e, rfl, hl, hw⟩ := h
    refine ⟨by simp; omega, fun v hv => ?_⟩
    rcases List.mem_append.1 hv with q | q
    · exact C.all v q
    · exact hw v q
  unfold gradP
  split
  · exact fin (m := 1) (by omega) (PreB.one _ _ (C.len _))
  · split
    · exact fin (m := 1 + 12 * (s - x) + 1) (by omega) ((gr_ok C _ (s - x)).pre.trans (PreB.one _ _ (C.len _)) (Nat.le_refl _))
    · exact fin (m := 1 + 12 * (s - x)) (by omega) (gr_ok C _ (s - x)).pre
/-- What is made on the way begins what is made. -/
theorem grad_pre {vals : List Val} {s x : Nat} (C : GC vals s) (hc : ¬ (s < x ∨ baL (acL vals.length vals x (s - x)) s = false)) (d : Nat) (hd : d ≤ s - x) : Pre (gr vals (baL (acL vals.length vals x (s - x))) s (g0 vals s) d).1 (gradP vals s x).1 := by
  have h1 : Pre (gr vals (baL (acL vals.length vals x (s - x))) s (g0 vals s) d).1 (gr vals (baL (acL vals.length vals x (s - x))) s (g0 vals s) (s - x)).1 := by
    have := gr_pre C (baL (acL vals.length vals x (s - x))) d (s - x - d)
    rwa [show d + (s - x - d) = s - x by omega] at this
  unfold gradP
  rw [if_neg hc]
  split
  · exact h1.trans (Pre.snoc _ _ (C.len _))
  · exact h1
end Go.Proofs.Ytaaelokodfildaa

set_option linter.unusedVariables false
namespace Go.Proofs.Ytaaelokodfildaa
open Go.Am

/-- What a part leaves. -/
def QR (K : Heap) (lo : Nat) (p q r : Option Addr) (g : Graph) (y : List Val × Int) (b : Bool) (e : AEnd) (K' : Heap) : Prop := ∃ q', e = .ret (.tuple #[gV p q' r ⟨g.ins, y.1, g.outs⟩, .int .i64 y.2, .bool b]) ∧ OwnG K' lo K'.next p q' r ⟨g.ins, y.1, g.outs⟩ ∧ Mv K q K' q'
theorem QR.no {K K' : Heap} {lo : Nat} {p q r : Option Addr} {g : Graph} {y : List Val × Int} {b : Bool} {v : Value} (h : QR K lo p q r g y b (.pan v) K') : False := by obtain ⟨_, h, _⟩ := h; cases h
theorem lenAt_v2 {vs : List Val} {o : Int} {v : Val} (h : vAtI vs o = v) (h0 : 0 ≤ o) (h1 : o < vs.length) : lenAt vs o = v.len := by
  unfold lenAt; rw [vAtI_get h0 h1, h]; rfl
theorem l2last_putB (K : Heap) (p q r : Option Addr) (g : Graph) (v : Val) (hl : (putG g v).vals.length ≤ 1000000) : PC Try.prog 37 [gV p q r (putG g v)] K (.int .i64 (g.vals.length : Int)) := by
  have := l2last_pc K p q r (putG g v) hl
  rw [show ((putG g v).vals.length : Int) - 1 = g.vals.length by simp [putG]] at this
  exact this
set_option maxHeartbeats 1000000 in
theorem l2part_add (K : Heap) (lo : Nat) (p q r : Option Addr) (g : Graph) (v : Val) (i k d : Int) (og : OwnG K lo K.next p q r g) (hlo : lo ≤ K.next) (hl : g.vals.length ≤ 100000) (h0 : 0 ≤ i) (hi : i < g.vals.length) (hv : vAtI g.vals i = v) (hk3 : 0 ≤ k ∧ k ≤ 2) (ha : 0 ≤ v.a ∧ v.a < g.vals.length) (hop : v.op = 2 ∨ (v.op = 3 ∧ k = 0)) :
    EC Try.prog 40 [gV p q r g, .int .i64 i, .int .i64 k, .int .i64 d] K (QR K lo p q r g (partP g.vals v i k d (lenAt g.vals v.a)) true) := by
  refine EC_fn ctx (fun _ => true) Try.func40 rfl rfl rfl ?_
  obtain ⟨bq, hq⟩ := bufq_some og.s (by omega)
  subst hq
  obtain ⟨c0, c1, c2, _, hva⟩ := valF_at og.s.rd h0 hi
  have hla := (valF_at og.s.rd ha.1 ha.2).2.1
  rw [← lenAt_v2 (vs := g.vals) (o := v.a) rfl ha.1 ha.2] at hla
  rw [hv] at hva
  refine ⟨⟨h0, hi⟩, valV v, hva, ?_⟩
  have hm : partP g.vals v i k d (lenAt g.vals v.a) = (g.vals, d) := by unfold partP; rw [if_pos hop]
  rw [hm]
  refine ⟨fun _ => ?_, fun h => by rcases hop with e | ⟨e, f⟩ <;> simp [e] at h <;> omega⟩
  exact ⟨(some ⟨bq, 0, none⟩), rfl, og, Mv.refl _ _⟩
set_option maxHeartbeats 1000000 in
theorem l2part_neg (K : Heap) (lo : Nat) (p q r : Option Addr) (g : Graph) (v : Val) (i k d : Int) (og : OwnG K lo K.next p q r g) (hlo : lo ≤ K.next) (hl : g.vals.length ≤ 100000) (h0 : 0 ≤ i) (hi : i < g.vals.length) (hv : vAtI g.vals i = v) (hk3 : 0 ≤ k ∧ k ≤ 2) (ha : 0 ≤ v.a ∧ v.a < g.vals.length) (hop : (v.op = 3 ∧ k ≠ 0) ∨ v.op = 6) :
    EC Try.prog 40 [gV p q r g, .int .i64 i, .int .i64 k, .int .i64 d] K (QR K lo p q r g (partP g.vals v i k d (lenAt g.vals v.a)) true) := by
  refine EC_fn ctx (fun _ => true) Try.func40 rfl rfl rfl ?_
  obtain ⟨bq, hq⟩ := bufq_some og.s (by omega)
  subst hq
  obtain ⟨c0, c1, c2, _, hva⟩ := valF_at og.s.rd h0 hi
  have hla := (valF_at og.s.rd ha.1 ha.2).2.1
  rw [← lenAt_v2 (vs := g.vals) (o := v.a) rfl ha.1 ha.2] at hla
  rw [hv] at hva
  refine ⟨⟨h0, hi⟩, valV v, hva, ?_⟩
  refine ⟨fun h => by rcases hop with ⟨e, f⟩ | e <;> simp [e] at h <;> omega, fun _ => ?_⟩
  refine ⟨fun _ => ?_, fun h => by rcases hop with ⟨e, f⟩ | e <;> simp [e] at h⟩
  refine ⟨.leaf [([0, 1, 2, 3], some 4), ([], some 5), ([], none)] [], by kernel_rfl, _, l2op_pc _ _ _ _ _ _, ?_⟩
  refine ⟨_, l2put_ec K lo p (some ⟨bq, 0, none⟩) r g (opV 6 v.len d 0 0) og hlo (by omega), ?_, fun v K hR => hR.no.elim⟩
  rintro _ K1 ⟨q1, hx, o1, m1⟩
  cases hx
  have ln1 := putG_len g (opV 6 v.len d 0 0)
  have lo1 : lo ≤ K1.next := Nat.le_trans hlo m1.next
  refine ⟨.leaf [([0, 1, 2], some 3), ([4, 5], none)] [], by kernel_rfl, _, l2last_putB K1 _ _ _ _ _ (by omega), ?_⟩
  rw [show partP g.vals v i k d (lenAt g.vals v.a) = ((putG g (opV 6 v.len d 0 0)).vals, (g.vals.length : Int)) by unfold partP; rw [if_neg (by omega), if_pos (by omega)]; rfl]
  exact ⟨q1, rfl, o1, m1⟩
set_option maxHeartbeats 1000000 in
theorem l2part_mul (K : Heap) (lo : Nat) (p q r : Option Addr) (g : Graph) (v : Val) (i k d : Int) (og : OwnG K lo K.next p q r g) (hlo : lo ≤ K.next) (hl : g.vals.length ≤ 100000) (h0 : 0 ≤ i) (hi : i < g.vals.length) (hv : vAtI g.vals i = v) (hk3 : 0 ≤ k ∧ k ≤ 2) (ha : 0 ≤ v.a ∧ v.a < g.vals.length) (hop : v.op = 4 ∧ k ≤ 1) :
    EC Try.prog 40 [gV p q r g, .int .i64 i, .int .i64 k, .int .i64 d] K (QR K lo p q r g (partP g.vals v i k d (lenAt g.vals v.a)) true) := by
  refine EC_fn ctx (fun _ => true) Try.func40 rfl rfl rfl ?_
  obtain ⟨bq, hq⟩ := bufq_some og.s (by omega)
  subst hq
  obtain ⟨c0, c1, c2, _, hva⟩ := valF_at og.s.rd h0 hi
  have hla := (valF_at og.s.rd ha.1 ha.2).2.1
  rw [← lenAt_v2 (vs := g.vals) (o := v.a) rfl ha.1 ha.2] at hla
  rw [hv] at hva
  refine ⟨⟨h0, hi⟩, valV v, hva, ?_⟩
  obtain ⟨hop, hk1⟩ := hop
  refine ⟨fun h => by simp [hop] at h <;> omega, fun _ => ?_⟩
  refine ⟨fun h => by simp [hop] at h <;> omega, fun _ => ?_⟩
  refine ⟨fun _ => ?_, fun h => by simp [hop] at h <;> omega⟩
  have hw : IntKind.i64.wrap (1 - k) = 1 - k := wrap_i64 (by omega) (by omega)
  have hfl : PC Try.prog 39 [valV v, .int .i64 (IntKind.i64.wrap (1 - k))] K (.int .i64 (fieldV v (1 - k))) := by rw [hw]; exact l1field_pc K v (1 - k)
  refine ⟨.leaf [([0, 1, 2, 3, 4, 5, 6, 7], some 8), ([], some 9), ([], none)] [], by kernel_rfl, _, hfl, _, l2op_pc _ _ _ _ _ _, ?_⟩
  refine ⟨_, l2put_ec K lo p (some ⟨bq, 0, none⟩) r g (opV 4 v.len d (fieldV v (1 - k)) 0) og hlo (by omega), ?_, fun v K hR => hR.no.elim⟩
  rintro _ K1 ⟨q1, hx, o1, m1⟩
  cases hx
  have ln1 := putG_len g (opV 4 v.len d (fieldV v (1 - k)) 0)
  have lo1 : lo ≤ K1.next := Nat.le_trans hlo m1.next
  refine ⟨.leaf [([0, 1, 2], some 3), ([4, 5], none)] [], by kernel_rfl, _, l2last_putB K1 _ _ _ _ _ (by omega), ?_⟩
  rw [show partP g.vals v i k d (lenAt g.vals v.a) = ((putG g (opV 4 v.len d (fieldV v (1 - k)) 0)).vals, (g.vals.length : Int)) by unfold partP; rw [if_neg (by omega), if_neg (by omega), if_pos (by omega)]; rfl]
  exact ⟨q1, rfl, o1, m1⟩
set_option maxHeartbeats 1000000 in
theorem l2part_div0 (K : Heap) (lo : Nat) (p q r : Option Addr) (g : Graph) (v : Val) (i k d : Int) (og : OwnG K lo K.next p q r g) (hlo : lo ≤ K.next) (hl : g.vals.length ≤ 100000) (h0 : 0 ≤ i) (hi : i < g.vals.length) (hv : vAtI g.vals i = v) (hk3 : 0 ≤ k ∧ k ≤ 2) (ha : 0 ≤ v.a ∧ v.a < g.vals.length) (hop : v.op = 5 ∧ k = 0) :
    EC Try.prog 40 [gV p q r g, .int .i64 i, .int .i64 k, .int .i64 d] K (QR K lo p q r g (partP g.vals v i k d (lenAt g.vals v.a)) true) := by
  refine EC_fn ctx (fun _ => true) Try.func40 rfl rfl rfl ?_
  obtain ⟨bq, hq⟩ := bufq_some og.s (by omega)
  subst hq
  obtain ⟨c0, c1, c2, _, hva⟩ := valF_at og.s.rd h0 hi
  have hla := (valF_at og.s.rd ha.1 ha.2).2.1
  rw [← lenAt_v2 (vs := g.vals) (o := v.a) rfl ha.1 ha.2] at hla
  rw [hv] at hva
  refine ⟨⟨h0, hi⟩, valV v, hva, ?_⟩
  obtain ⟨hop, hk⟩ := hop
  refine ⟨fun h => by simp [hop] at h <;> omega, fun _ => ?_⟩
  refine ⟨fun h => by simp [hop] at h <;> omega, fun _ => ?_⟩
  refine ⟨fun h => by simp [hop] at h <;> omega, fun _ => ?_⟩
  refine ⟨fun _ => ?_, fun h => by simp [hop, hk] at h <;> omega⟩
  refine ⟨.leaf [([0, 1, 2, 3, 4, 5], some 6), ([], some 7), ([], none)] [], by kernel_rfl, _, l2op_pc _ _ _ _ _ _, ?_⟩
  refine ⟨_, l2put_ec K lo p (some ⟨bq, 0, none⟩) r g (opV 5 v.len d v.b 0) og hlo (by omega), ?_, fun v K hR => hR.no.elim⟩
  rintro _ K1 ⟨q1, hx, o1, m1⟩
  cases hx
  have ln1 := putG_len g (opV 5 v.len d v.b 0)
  have lo1 : lo ≤ K1.next := Nat.le_trans hlo m1.next
  refine ⟨.leaf [([0, 1, 2], some 3), ([4, 5], none)] [], by kernel_rfl, _, l2last_putB K1 _ _ _ _ _ (by omega), ?_⟩
  rw [show partP g.vals v i k d (lenAt g.vals v.a) = ((putG g (opV 5 v.len d v.b 0)).vals, (g.vals.length : Int)) by unfold partP; rw [if_neg (by omega), if_neg (by omega), if_neg (by omega), if_pos (by omega)]; rfl]
  exact ⟨q1, rfl, o1, m1⟩
set_option maxHeartbeats 1000000 in
theorem l2part_div1 (K : Heap) (lo : Nat) (p q r : Option Addr) (g : Graph) (v : Val) (i k d : Int) (og : OwnG K lo K.next p q r g) (hlo : lo ≤ K.next) (hl : g.vals.length ≤ 100000) (h0 : 0 ≤ i) (hi : i < g.vals.length) (hv : vAtI g.vals i = v) (hk3 : 0 ≤ k ∧ k ≤ 2) (ha : 0 ≤ v.a ∧ v.a < g.vals.length) (hop : v.op = 5 ∧ k ≠ 0) :
    EC Try.prog 40 [gV p q r g, .int .i64 i, .int .i64 k, .int .i64 d] K (QR K lo p q r g (partP g.vals v i k d (lenAt g.vals v.a)) true) := by
  refine EC_fn ctx (fun _ => true) Try.func40 rfl rfl rfl ?_
  obtain ⟨bq, hq⟩ := bufq_some og.s (by omega)
  subst hq
  obtain ⟨c0, c1, c2, _, hva⟩ := valF_at og.s.rd h0 hi
  have hla := (valF_at og.s.rd ha.1 ha.2).2.1
  rw [← lenAt_v2 (vs := g.vals) (o := v.a) rfl ha.1 ha.2] at hla
  rw [hv] at hva
  refine ⟨⟨h0, hi⟩, valV v, hva, ?_⟩
  obtain ⟨hop, hk⟩ := hop
  refine ⟨fun h => by simp [hop] at h <;> omega, fun _ => ?_⟩
  refine ⟨fun h => by simp [hop] at h <;> omega, fun _ => ?_⟩
  refine ⟨fun h => by simp [hop] at h <;> omega, fun _ => ?_⟩
  refine ⟨fun h => by simp [hop, hk] at h <;> omega, fun _ => ?_⟩
  refine ⟨fun _ => ?_, fun h => by simp [hop] at h <;> omega⟩
  refine ⟨.leaf [([0, 1, 2, 3, 4], some 5), ([], some 6), ([], none)] [], by kernel_rfl, _, l2op_pc _ _ _ _ _ _, ?_⟩
  refine ⟨_, l2put_ec K lo p (some ⟨bq, 0, none⟩) r g (opV 4 v.len d i 0) og hlo (by omega), ?_, fun v K hR => hR.no.elim⟩
  rintro _ K1 ⟨q1, hx, o1, m1⟩
  cases hx
  have ln1 := putG_len g (opV 4 v.len d i 0)
  have lo1 : lo ≤ K1.next := Nat.le_trans hlo m1.next
  refine ⟨.leaf [([0, 1, 2, 3, 4, 5, 6], some 7), ([], some 8), ([], none)] [], by kernel_rfl, _, l2last_putB K1 _ _ _ _ _ (by omega), _, l2op_pc _ _ _ _ _ _, ?_⟩
  refine ⟨_, l2put_ec K1 lo p q1 r (putG g (opV 4 v.len d i 0)) (opV 5 v.len (g.vals.length : Int) v.b 0) o1 lo1 (by omega), ?_, fun v K hR => hR.no.elim⟩
  rintro _ K2 ⟨q2, hx, o2, m2⟩
  cases hx
  have ln2 := putG_len (putG g (opV 4 v.len d i 0)) (opV 5 v.len (g.vals.length : Int) v.b 0)
  have lo2 : lo ≤ K2.next := Nat.le_trans lo1 m2.next
  have e1 : (K1 : Heap) = K1 := rfl
  refine ⟨.leaf [([0, 1, 2, 3, 4], some 5), ([], some 6), ([], none)] [], by kernel_rfl, _, l2last_putB K2 _ _ _ _ _ (by omega), _, l2op_pc _ _ _ _ _ _, ?_⟩
  refine ⟨_, l2put_ec K2 lo p q2 r (putG (putG g (opV 4 v.len d i 0)) (opV 5 v.len (g.vals.length : Int) v.b 0)) (opV 6 v.len ((putG g (opV 4 v.len d i 0)).vals.length : Int) 0 0) o2 lo2 (by omega), ?_, fun v K hR => hR.no.elim⟩
  rintro _ K3 ⟨q3, hx, o3, m3⟩
  cases hx
  have ln3 := putG_len (putG (putG g (opV 4 v.len d i 0)) (opV 5 v.len (g.vals.length : Int) v.b 0)) (opV 6 v.len ((putG g (opV 4 v.len d i 0)).vals.length : Int) 0 0)
  have lo3 : lo ≤ K3.next := Nat.le_trans lo2 m3.next
  have hm : partP g.vals v i k d (lenAt g.vals v.a) = ((putG (putG (putG g (opV 4 v.len d i 0)) (opV 5 v.len (g.vals.length : Int) v.b 0)) (opV 6 v.len ((putG g (opV 4 v.len d i 0)).vals.length : Int) 0 0)).vals, ((putG (putG g (opV 4 v.len d i 0)) (opV 5 v.len (g.vals.length : Int) v.b 0)).vals.length : Int)) := by
    have e1 : ((putG g (opV 4 v.len d i 0)).vals.length : Int) = (g.vals.length : Int) + 1 := by omega
    have e2 : ((putG (putG g (opV 4 v.len d i 0)) (opV 5 v.len (g.vals.length : Int) v.b 0)).vals.length : Int) = (g.vals.length : Int) + 2 := by omega
    rw [e1, e2]; unfold partP; rw [if_neg (by omega), if_neg (by omega), if_neg (by omega), if_neg (by omega), if_pos (by omega)]; rfl
  refine ⟨.leaf [([0, 1, 2], some 3), ([4, 5], none)] [], by kernel_rfl, _, l2last_putB K3 _ _ _ _ _ (by omega), ?_⟩
  rw [hm]
  exact ⟨q3, rfl, o3, ((m1.trans m2).trans m3)⟩
set_option maxHeartbeats 1000000 in
theorem l2part_max0 (K : Heap) (lo : Nat) (p q r : Option Addr) (g : Graph) (v : Val) (i k d : Int) (og : OwnG K lo K.next p q r g) (hlo : lo ≤ K.next) (hl : g.vals.length ≤ 100000) (h0 : 0 ≤ i) (hi : i < g.vals.length) (hv : vAtI g.vals i = v) (hk3 : 0 ≤ k ∧ k ≤ 2) (ha : 0 ≤ v.a ∧ v.a < g.vals.length) (hop : v.op = 7 ∧ k = 0) :
    EC Try.prog 40 [gV p q r g, .int .i64 i, .int .i64 k, .int .i64 d] K (QR K lo p q r g (partP g.vals v i k d (lenAt g.vals v.a)) true) := by
  refine EC_fn ctx (fun _ => true) Try.func40 rfl rfl rfl ?_
  obtain ⟨bq, hq⟩ := bufq_some og.s (by omega)
  subst hq
  obtain ⟨c0, c1, c2, _, hva⟩ := valF_at og.s.rd h0 hi
  have hla := (valF_at og.s.rd ha.1 ha.2).2.1
  rw [← lenAt_v2 (vs := g.vals) (o := v.a) rfl ha.1 ha.2] at hla
  rw [hv] at hva
  refine ⟨⟨h0, hi⟩, valV v, hva, ?_⟩
  obtain ⟨hop, hk⟩ := hop
  refine ⟨fun h => by simp [hop] at h <;> omega, fun _ => ?_⟩
  refine ⟨fun h => by simp [hop] at h <;> omega, fun _ => ?_⟩
  refine ⟨fun h => by simp [hop] at h <;> omega, fun _ => ?_⟩
  refine ⟨fun h => by simp [hop] at h <;> omega, fun _ => ?_⟩
  refine ⟨fun h => by simp [hop] at h <;> omega, fun _ => ?_⟩
  refine ⟨fun _ => ?_, fun h => by simp [hop] at h <;> omega⟩
  refine ⟨fun _ => ?_, fun h => by simp [hop] at h <;> omega⟩
  refine ⟨.leaf [([0, 1, 2, 3, 4, 5, 6], some 7), ([], some 8), ([], none)] [], by kernel_rfl, _, l2op_pc _ _ _ _ _ _, ?_⟩
  refine ⟨_, l2put_ec K lo p (some ⟨bq, 0, none⟩) r g (opV 3 v.len v.a v.b 0) og hlo (by omega), ?_, fun v K hR => hR.no.elim⟩
  rintro _ K1 ⟨q1, hx, o1, m1⟩
  cases hx
  have ln1 := putG_len g (opV 3 v.len v.a v.b 0)
  have lo1 : lo ≤ K1.next := Nat.le_trans hlo m1.next
  refine ⟨_, l2last_putB K1 _ _ _ _ _ (by omega), ?_, fun v K hR => by cases hR.1⟩
  rintro _ K1 ⟨hx, rfl⟩
  cases hx
  refine ⟨.leaf [([0, 1, 2], some 3), ([], some 4), ([], none)] [], by kernel_rfl, _, l2zeros_pc _ _, ?_⟩
  refine ⟨_, l2put_ec K1 lo p q1 r (putG g (opV 3 v.len v.a v.b 0)) (opV 1 v.len 0 0 0) o1 lo1 (by omega), ?_, fun v K hR => hR.no.elim⟩
  rintro _ K2 ⟨q2, hx, o2, m2⟩
  cases hx
  have ln2 := putG_len (putG g (opV 3 v.len v.a v.b 0)) (opV 1 v.len 0 0 0)
  have lo2 : lo ≤ K2.next := Nat.le_trans lo1 m2.next
  refine ⟨_, l2last_putB K2 _ _ _ _ _ (by omega), ?_, fun v K hR => by cases hR.1⟩
  rintro _ K2 ⟨hx, rfl⟩
  cases hx
  refine ⟨fun _ => ?_, fun h => by simp [hk] at h <;> omega⟩
  refine ⟨.leaf [([0, 1, 2, 3, 4, 5], some 6), ([], some 7), ([], none)] [], by kernel_rfl, _, l2op_pc _ _ _ _ _ _, ?_⟩
  refine ⟨_, l2put_ec K2 lo p q2 r (putG (putG g (opV 3 v.len v.a v.b 0)) (opV 1 v.len 0 0 0)) (opV 8 v.len (g.vals.length : Int) d ((putG g (opV 3 v.len v.a v.b 0)).vals.length : Int)) o2 lo2 (by omega), ?_, fun v K hR => hR.no.elim⟩
  rintro _ K3 ⟨q3, hx, o3, m3⟩
  cases hx
  have ln3 := putG_len (putG (putG g (opV 3 v.len v.a v.b 0)) (opV 1 v.len 0 0 0)) (opV 8 v.len (g.vals.length : Int) d ((putG g (opV 3 v.len v.a v.b 0)).vals.length : Int))
  have lo3 : lo ≤ K3.next := Nat.le_trans lo2 m3.next
  have hm : partP g.vals v i k d (lenAt g.vals v.a) = ((putG (putG (putG g (opV 3 v.len v.a v.b 0)) (opV 1 v.len 0 0 0)) (opV 8 v.len (g.vals.length : Int) d ((putG g (opV 3 v.len v.a v.b 0)).vals.length : Int))).vals, ((putG (putG g (opV 3 v.len v.a v.b 0)) (opV 1 v.len 0 0 0)).vals.length : Int)) := by
    have e1 : ((putG g (opV 3 v.len v.a v.b 0)).vals.length : Int) = (g.vals.length : Int) + 1 := by omega
    have e2 : ((putG (putG g (opV 3 v.len v.a v.b 0)) (opV 1 v.len 0 0 0)).vals.length : Int) = (g.vals.length : Int) + 2 := by omega
    rw [e1, e2]; unfold partP; rw [if_neg (by omega), if_neg (by omega), if_neg (by omega), if_neg (by omega), if_neg (by omega), if_pos (by omega), if_pos hk]; rfl
  refine ⟨.leaf [([0, 1, 2], some 3), ([4, 5], none)] [], by kernel_rfl, _, l2last_putB K3 _ _ _ _ _ (by omega), ?_⟩
  rw [hm]
  exact ⟨q3, rfl, o3, ((m1.trans m2).trans m3)⟩
set_option maxHeartbeats 1000000 in
theorem l2part_max1 (K : Heap) (lo : Nat) (p q r : Option Addr) (g : Graph) (v : Val) (i k d : Int) (og : OwnG K lo K.next p q r g) (hlo : lo ≤ K.next) (hl : g.vals.length ≤ 100000) (h0 : 0 ≤ i) (hi : i < g.vals.length) (hv : vAtI g.vals i = v) (hk3 : 0 ≤ k ∧ k ≤ 2) (ha : 0 ≤ v.a ∧ v.a < g.vals.length) (hop : v.op = 7 ∧ k ≠ 0) :
    EC Try.prog 40 [gV p q r g, .int .i64 i, .int .i64 k, .int .i64 d] K (QR K lo p q r g (partP g.vals v i k d (lenAt g.vals v.a)) true) := by
  refine EC_fn ctx (fun _ => true) Try.func40 rfl rfl rfl ?_
  obtain ⟨bq, hq⟩ := bufq_some og.s (by omega)
  subst hq
  obtain ⟨c0, c1, c2, _, hva⟩ := valF_at og.s.rd h0 hi
  have hla := (valF_at og.s.rd ha.1 ha.2).2.1
  rw [← lenAt_v2 (vs := g.vals) (o := v.a) rfl ha.1 ha.2] at hla
  rw [hv] at hva
  refine ⟨⟨h0, hi⟩, valV v, hva, ?_⟩
  obtain ⟨hop, hk⟩ := hop
  refine ⟨fun h => by simp [hop] at h <;> omega, fun _ => ?_⟩
  refine ⟨fun h => by simp [hop] at h <;> omega, fun _ => ?_⟩
  refine ⟨fun h => by simp [hop] at h <;> omega, fun _ => ?_⟩
  refine ⟨fun h => by simp [hop] at h <;> omega, fun _ => ?_⟩
  refine ⟨fun h => by simp [hop] at h <;> omega, fun _ => ?_⟩
  refine ⟨fun _ => ?_, fun h => by simp [hop] at h <;> omega⟩
  refine ⟨fun _ => ?_, fun h => by simp [hop] at h <;> omega⟩
  refine ⟨.leaf [([0, 1, 2, 3, 4, 5, 6], some 7), ([], some 8), ([], none)] [], by kernel_rfl, _, l2op_pc _ _ _ _ _ _, ?_⟩
  refine ⟨_, l2put_ec K lo p (some ⟨bq, 0, none⟩) r g (opV 3 v.len v.a v.b 0) og hlo (by omega), ?_, fun v K hR => hR.no.elim⟩
  rintro _ K1 ⟨q1, hx, o1, m1⟩
  cases hx
  have ln1 := putG_len g (opV 3 v.len v.a v.b 0)
  have lo1 : lo ≤ K1.next := Nat.le_trans hlo m1.next
  refine ⟨_, l2last_putB K1 _ _ _ _ _ (by omega), ?_, fun v K hR => by cases hR.1⟩
  rintro _ K1 ⟨hx, rfl⟩
  cases hx
  refine ⟨.leaf [([0, 1, 2], some 3), ([], some 4), ([], none)] [], by kernel_rfl, _, l2zeros_pc _ _, ?_⟩
  refine ⟨_, l2put_ec K1 lo p q1 r (putG g (opV 3 v.len v.a v.b 0)) (opV 1 v.len 0 0 0) o1 lo1 (by omega), ?_, fun v K hR => hR.no.elim⟩
  rintro _ K2 ⟨q2, hx, o2, m2⟩
  cases hx
  have ln2 := putG_len (putG g (opV 3 v.len v.a v.b 0)) (opV 1 v.len 0 0 0)
  have lo2 : lo ≤ K2.next := Nat.le_trans lo1 m2.next
  refine ⟨_, l2last_putB K2 _ _ _ _ _ (by omega), ?_, fun v K hR => by cases hR.1⟩
  rintro _ K2 ⟨hx, rfl⟩
  cases hx
  refine ⟨fun h => by simp [hk] at h, fun _ => ?_⟩
  refine ⟨.leaf [([0, 1, 2, 3, 4, 5], some 6), ([], some 7), ([], none)] [], by kernel_rfl, _, l2op_pc _ _ _ _ _ _, ?_⟩
  refine ⟨_, l2put_ec K2 lo p q2 r (putG (putG g (opV 3 v.len v.a v.b 0)) (opV 1 v.len 0 0 0)) (opV 8 v.len (g.vals.length : Int) ((putG g (opV 3 v.len v.a v.b 0)).vals.length : Int) d) o2 lo2 (by omega), ?_, fun v K hR => hR.no.elim⟩
  rintro _ K3 ⟨q3, hx, o3, m3⟩
  cases hx
  have ln3 := putG_len (putG (putG g (opV 3 v.len v.a v.b 0)) (opV 1 v.len 0 0 0)) (opV 8 v.len (g.vals.length : Int) ((putG g (opV 3 v.len v.a v.b 0)).vals.length : Int) d)
  have lo3 : lo ≤ K3.next := Nat.le_trans lo2 m3.next
  have hm : partP g.vals v i k d (lenAt g.vals v.a) = ((putG (putG (putG g (opV 3 v.len v.a v.b 0)) (opV 1 v.len 0 0 0)) (opV 8 v.len (g.vals.length : Int) ((putG g (opV 3 v.len v.a v.b 0)).vals.length : Int) d)).vals, ((putG (putG g (opV 3 v.len v.a v.b 0)) (opV 1 v.len 0 0 0)).vals.length : Int)) := by
    have e1 : ((putG g (opV 3 v.len v.a v.b 0)).vals.length : Int) = (g.vals.length : Int) + 1 := by omega
    have e2 : ((putG (putG g (opV 3 v.len v.a v.b 0)) (opV 1 v.len 0 0 0)).vals.length : Int) = (g.vals.length : Int) + 2 := by omega
    rw [e1, e2]; unfold partP; rw [if_neg (by omega), if_neg (by omega), if_neg (by omega), if_neg (by omega), if_neg (by omega), if_pos (by omega), if_neg hk]; rfl
  refine ⟨.leaf [([0, 1, 2], some 3), ([4, 5], none)] [], by kernel_rfl, _, l2last_putB K3 _ _ _ _ _ (by omega), ?_⟩
  rw [hm]
  exact ⟨q3, rfl, o3, ((m1.trans m2).trans m3)⟩
set_option maxHeartbeats 1000000 in
theorem l2part_sel1 (K : Heap) (lo : Nat) (p q r : Option Addr) (g : Graph) (v : Val) (i k d : Int) (og : OwnG K lo K.next p q r g) (hlo : lo ≤ K.next) (hl : g.vals.length ≤ 100000) (h0 : 0 ≤ i) (hi : i < g.vals.length) (hv : vAtI g.vals i = v) (hk3 : 0 ≤ k ∧ k ≤ 2) (ha : 0 ≤ v.a ∧ v.a < g.vals.length) (hop : v.op = 8 ∧ k = 1) :
    EC Try.prog 40 [gV p q r g, .int .i64 i, .int .i64 k, .int .i64 d] K (QR K lo p q r g (partP g.vals v i k d (lenAt g.vals v.a)) true) := by
  refine EC_fn ctx (fun _ => true) Try.func40 rfl rfl rfl ?_
  obtain ⟨bq, hq⟩ := bufq_some og.s (by omega)
  subst hq
  obtain ⟨c0, c1, c2, _, hva⟩ := valF_at og.s.rd h0 hi
  have hla := (valF_at og.s.rd ha.1 ha.2).2.1
  rw [← lenAt_v2 (vs := g.vals) (o := v.a) rfl ha.1 ha.2] at hla
  rw [hv] at hva
  refine ⟨⟨h0, hi⟩, valV v, hva, ?_⟩
  obtain ⟨hop, hk⟩ := hop
  refine ⟨fun h => by simp [hop] at h <;> omega, fun _ => ?_⟩
  refine ⟨fun h => by simp [hop] at h <;> omega, fun _ => ?_⟩
  refine ⟨fun h => by simp [hop] at h <;> omega, fun _ => ?_⟩
  refine ⟨fun h => by simp [hop] at h <;> omega, fun _ => ?_⟩
  refine ⟨fun h => by simp [hop] at h <;> omega, fun _ => ?_⟩
  refine ⟨fun _ => ?_, fun h => by simp [hop] at h <;> omega⟩
  refine ⟨fun h => by simp [hop] at h <;> omega, fun _ => ?_⟩
  refine ⟨fun h => by simp at h <;> omega, fun _ => ?_⟩
  refine ⟨.leaf [([0, 1, 2], some 3), ([], some 4), ([], none)] [], by kernel_rfl, _, l2zeros_pc _ _, ?_⟩
  refine ⟨_, l2put_ec K lo p (some ⟨bq, 0, none⟩) r g (opV 1 v.len 0 0 0) og hlo (by omega), ?_, fun v K hR => hR.no.elim⟩
  rintro _ K1 ⟨q1, hx, o1, m1⟩
  cases hx
  have ln1 := putG_len g (opV 1 v.len 0 0 0)
  have lo1 : lo ≤ K1.next := Nat.le_trans hlo m1.next
  refine ⟨_, l2last_putB K1 _ _ _ _ _ (by omega), ?_, fun v K hR => by cases hR.1⟩
  rintro _ K1 ⟨hx, rfl⟩
  cases hx
  refine ⟨fun _ => ?_, fun h => by simp [hk] at h <;> omega⟩
  refine ⟨.leaf [([0, 1, 2, 3, 4, 5], some 6), ([], some 7), ([], none)] [], by kernel_rfl, _, l2op_pc _ _ _ _ _ _, ?_⟩
  refine ⟨_, l2put_ec K1 lo p q1 r (putG g (opV 1 v.len 0 0 0)) (opV 8 v.len v.a d (g.vals.length : Int)) o1 lo1 (by omega), ?_, fun v K hR => hR.no.elim⟩
  rintro _ K2 ⟨q2, hx, o2, m2⟩
  cases hx
  have ln2 := putG_len (putG g (opV 1 v.len 0 0 0)) (opV 8 v.len v.a d (g.vals.length : Int))
  have lo2 : lo ≤ K2.next := Nat.le_trans lo1 m2.next
  have hm : partP g.vals v i k d (lenAt g.vals v.a) = ((putG (putG g (opV 1 v.len 0 0 0)) (opV 8 v.len v.a d (g.vals.length : Int))).vals, ((putG g (opV 1 v.len 0 0 0)).vals.length : Int)) := by
    have e1 : ((putG g (opV 1 v.len 0 0 0)).vals.length : Int) = (g.vals.length : Int) + 1 := by omega
    rw [e1]; unfold partP; rw [if_neg (by omega), if_neg (by omega), if_neg (by omega), if_neg (by omega), if_neg (by omega), if_neg (by omega), if_pos (by omega), if_pos hk]; rfl
  refine ⟨.leaf [([0, 1, 2], some 3), ([4, 5], none)] [], by kernel_rfl, _, l2last_putB K2 _ _ _ _ _ (by omega), ?_⟩
  rw [hm]
  exact ⟨q2, rfl, o2, (m1.trans m2)⟩
set_option maxHeartbeats 1000000 in
theorem l2part_sel2 (K : Heap) (lo : Nat) (p q r : Option Addr) (g : Graph) (v : Val) (i k d : Int) (og : OwnG K lo K.next p q r g) (hlo : lo ≤ K.next) (hl : g.vals.length ≤ 100000) (h0 : 0 ≤ i) (hi : i < g.vals.length) (hv : vAtI g.vals i = v) (hk3 : 0 ≤ k ∧ k ≤ 2) (ha : 0 ≤ v.a ∧ v.a < g.vals.length) (hop : v.op = 8 ∧ k ≠ 0 ∧ k ≠ 1) :
    EC Try.prog 40 [gV p q r g, .int .i64 i, .int .i64 k, .int .i64 d] K (QR K lo p q r g (partP g.vals v i k d (lenAt g.vals v.a)) true) := by
  refine EC_fn ctx (fun _ => true) Try.func40 rfl rfl rfl ?_
  obtain ⟨bq, hq⟩ := bufq_some og.s (by omega)
  subst hq
  obtain ⟨c0, c1, c2, _, hva⟩ := valF_at og.s.rd h0 hi
  have hla := (valF_at og.s.rd ha.1 ha.2).2.1
  rw [← lenAt_v2 (vs := g.vals) (o := v.a) rfl ha.1 ha.2] at hla
  rw [hv] at hva
  refine ⟨⟨h0, hi⟩, valV v, hva, ?_⟩
  obtain ⟨hop, hk⟩ := hop
  refine ⟨fun h => by simp [hop] at h <;> omega, fun _ => ?_⟩
  refine ⟨fun h => by simp [hop] at h <;> omega, fun _ => ?_⟩
  refine ⟨fun h => by simp [hop] at h <;> omega, fun _ => ?_⟩
  refine ⟨fun h => by simp [hop] at h <;> omega, fun _ => ?_⟩
  refine ⟨fun h => by simp [hop] at h <;> omega, fun _ => ?_⟩
  refine ⟨fun _ => ?_, fun h => by simp [hop] at h <;> omega⟩
  refine ⟨fun h => by simp [hop] at h <;> omega, fun _ => ?_⟩
  refine ⟨fun h => by simp at h <;> omega, fun _ => ?_⟩
  refine ⟨.leaf [([0, 1, 2], some 3), ([], some 4), ([], none)] [], by kernel_rfl, _, l2zeros_pc _ _, ?_⟩
  refine ⟨_, l2put_ec K lo p (some ⟨bq, 0, none⟩) r g (opV 1 v.len 0 0 0) og hlo (by omega), ?_, fun v K hR => hR.no.elim⟩
  rintro _ K1 ⟨q1, hx, o1, m1⟩
  cases hx
  have ln1 := putG_len g (opV 1 v.len 0 0 0)
  have lo1 : lo ≤ K1.next := Nat.le_trans hlo m1.next
  refine ⟨_, l2last_putB K1 _ _ _ _ _ (by omega), ?_, fun v K hR => by cases hR.1⟩
  rintro _ K1 ⟨hx, rfl⟩
  cases hx
  refine ⟨fun h => by simp at h <;> omega, fun _ => ?_⟩
  refine ⟨.leaf [([0, 1, 2, 3, 4, 5], some 6), ([], some 7), ([], none)] [], by kernel_rfl, _, l2op_pc _ _ _ _ _ _, ?_⟩
  refine ⟨_, l2put_ec K1 lo p q1 r (putG g (opV 1 v.len 0 0 0)) (opV 8 v.len v.a (g.vals.length : Int) d) o1 lo1 (by omega), ?_, fun v K hR => hR.no.elim⟩
  rintro _ K2 ⟨q2, hx, o2, m2⟩
  cases hx
  have ln2 := putG_len (putG g (opV 1 v.len 0 0 0)) (opV 8 v.len v.a (g.vals.length : Int) d)
  have lo2 : lo ≤ K2.next := Nat.le_trans lo1 m2.next
  have hm : partP g.vals v i k d (lenAt g.vals v.a) = ((putG (putG g (opV 1 v.len 0 0 0)) (opV 8 v.len v.a (g.vals.length : Int) d)).vals, ((putG g (opV 1 v.len 0 0 0)).vals.length : Int)) := by
    have e1 : ((putG g (opV 1 v.len 0 0 0)).vals.length : Int) = (g.vals.length : Int) + 1 := by omega
    rw [e1]; unfold partP; rw [if_neg (by omega), if_neg (by omega), if_neg (by omega), if_neg (by omega), if_neg (by omega), if_neg (by omega), if_pos (by omega), if_neg hk.2]; rfl
  refine ⟨.leaf [([0, 1, 2], some 3), ([4, 5], none)] [], by kernel_rfl, _, l2last_putB K2 _ _ _ _ _ (by omega), ?_⟩
  rw [hm]
  exact ⟨q2, rfl, o2, (m1.trans m2)⟩
set_option maxHeartbeats 1000000 in
theorem l2part_none (K : Heap) (lo : Nat) (p q r : Option Addr) (g : Graph) (v : Val) (i k d : Int) (og : OwnG K lo K.next p q r g) (hlo : lo ≤ K.next) (hl : g.vals.length ≤ 100000) (h0 : 0 ≤ i) (hi : i < g.vals.length) (hv : vAtI g.vals i = v) (hk3 : 0 ≤ k ∧ k ≤ 2) (ha : 0 ≤ v.a ∧ v.a < g.vals.length) (hop : v.op = 8 ∧ k = 0) :
    EC Try.prog 40 [gV p q r g, .int .i64 i, .int .i64 k, .int .i64 d] K (QR K lo p q r g (g.vals, 0) false) := by
  refine EC_fn ctx (fun _ => true) Try.func40 rfl rfl rfl ?_
  obtain ⟨bq, hq⟩ := bufq_some og.s (by omega)
  subst hq
  obtain ⟨c0, c1, c2, _, hva⟩ := valF_at og.s.rd h0 hi
  have hla := (valF_at og.s.rd ha.1 ha.2).2.1
  rw [← lenAt_v2 (vs := g.vals) (o := v.a) rfl ha.1 ha.2] at hla
  rw [hv] at hva
  refine ⟨⟨h0, hi⟩, valV v, hva, ?_⟩
  obtain ⟨hop, hk⟩ := hop
  refine ⟨fun h => by simp [hop] at h <;> omega, fun _ => ?_⟩
  refine ⟨fun h => by simp [hop] at h <;> omega, fun _ => ?_⟩
  refine ⟨fun h => by simp [hop] at h <;> omega, fun _ => ?_⟩
  refine ⟨fun h => by simp [hop] at h <;> omega, fun _ => ?_⟩
  refine ⟨fun h => by simp [hop] at h <;> omega, fun _ => ?_⟩
  refine ⟨fun _ => ?_, fun h => by simp [hop] at h <;> omega⟩
  refine ⟨fun h => by simp [hop] at h <;> omega, fun _ => ?_⟩
  refine ⟨fun _ => ?_, fun h => by simp [hk] at h <;> omega⟩
  exact ⟨(some ⟨bq, 0, none⟩), rfl, og, Mv.refl _ _⟩
set_option maxHeartbeats 1000000 in
theorem l2part_sum (K : Heap) (lo : Nat) (p q r : Option Addr) (g : Graph) (v : Val) (i k d : Int) (og : OwnG K lo K.next p q r g) (hlo : lo ≤ K.next) (hl : g.vals.length ≤ 100000) (h0 : 0 ≤ i) (hi : i < g.vals.length) (hv : vAtI g.vals i = v) (hk3 : 0 ≤ k ∧ k ≤ 2) (ha : 0 ≤ v.a ∧ v.a < g.vals.length) (hop : v.op = 9) :
    EC Try.prog 40 [gV p q r g, .int .i64 i, .int .i64 k, .int .i64 d] K (QR K lo p q r g (partP g.vals v i k d (lenAt g.vals v.a)) true) := by
  refine EC_fn ctx (fun _ => true) Try.func40 rfl rfl rfl ?_
  obtain ⟨bq, hq⟩ := bufq_some og.s (by omega)
  subst hq
  obtain ⟨c0, c1, c2, _, hva⟩ := valF_at og.s.rd h0 hi
  have hla := (valF_at og.s.rd ha.1 ha.2).2.1
  rw [← lenAt_v2 (vs := g.vals) (o := v.a) rfl ha.1 ha.2] at hla
  rw [hv] at hva
  refine ⟨⟨h0, hi⟩, valV v, hva, ?_⟩
  refine ⟨fun h => by simp [hop] at h <;> omega, fun _ => ?_⟩
  refine ⟨fun h => by simp [hop] at h <;> omega, fun _ => ?_⟩
  refine ⟨fun h => by simp [hop] at h <;> omega, fun _ => ?_⟩
  refine ⟨fun h => by simp [hop] at h <;> omega, fun _ => ?_⟩
  refine ⟨fun h => by simp [hop] at h <;> omega, fun _ => ?_⟩
  refine ⟨fun h => by simp [hop] at h <;> omega, fun _ => ?_⟩
  refine ⟨fun _ => ?_, fun h => by simp [hop] at h <;> omega⟩
  refine ⟨.leaf [([0, 1, 2, 3, 4, 5, 6, 7, 8, 9], some 10), ([], some 11), ([], none)] [], by kernel_rfl, ⟨ha.1, ha.2⟩, _, hla, _, l2op_pc _ _ _ _ _ _, ?_⟩
  refine ⟨_, l2put_ec K lo p (some ⟨bq, 0, none⟩) r g (opV 10 (lenAt g.vals v.a) d 0 0) og hlo (by omega), ?_, fun v K hR => hR.no.elim⟩
  rintro _ K1 ⟨q1, hx, o1, m1⟩
  cases hx
  have ln1 := putG_len g (opV 10 (lenAt g.vals v.a) d 0 0)
  have lo1 : lo ≤ K1.next := Nat.le_trans hlo m1.next
  refine ⟨.leaf [([0, 1, 2], some 3), ([4, 5], none)] [], by kernel_rfl, _, l2last_putB K1 _ _ _ _ _ (by omega), ?_⟩
  rw [show partP g.vals v i k d (lenAt g.vals v.a) = ((putG g (opV 10 (lenAt g.vals v.a) d 0 0)).vals, (g.vals.length : Int)) by unfold partP; rw [if_neg (by omega), if_neg (by omega), if_neg (by omega), if_neg (by omega), if_neg (by omega), if_neg (by omega), if_neg (by omega), if_pos (by omega)]; rfl]
  exact ⟨q1, rfl, o1, m1⟩
set_option maxHeartbeats 1000000 in
theorem l2part_fill (K : Heap) (lo : Nat) (p q r : Option Addr) (g : Graph) (v : Val) (i k d : Int) (og : OwnG K lo K.next p q r g) (hlo : lo ≤ K.next) (hl : g.vals.length ≤ 100000) (h0 : 0 ≤ i) (hi : i < g.vals.length) (hv : vAtI g.vals i = v) (hk3 : 0 ≤ k ∧ k ≤ 2) (ha : 0 ≤ v.a ∧ v.a < g.vals.length) (hop : v.op = 10) :
    EC Try.prog 40 [gV p q r g, .int .i64 i, .int .i64 k, .int .i64 d] K (QR K lo p q r g (partP g.vals v i k d (lenAt g.vals v.a)) true) := by
  refine EC_fn ctx (fun _ => true) Try.func40 rfl rfl rfl ?_
  obtain ⟨bq, hq⟩ := bufq_some og.s (by omega)
  subst hq
  obtain ⟨c0, c1, c2, _, hva⟩ := valF_at og.s.rd h0 hi
  have hla := (valF_at og.s.rd ha.1 ha.2).2.1
  rw [← lenAt_v2 (vs := g.vals) (o := v.a) rfl ha.1 ha.2] at hla
  rw [hv] at hva
  refine ⟨⟨h0, hi⟩, valV v, hva, ?_⟩
  refine ⟨fun h => by simp [hop] at h <;> omega, fun _ => ?_⟩
  refine ⟨fun h => by simp [hop] at h <;> omega, fun _ => ?_⟩
  refine ⟨fun h => by simp [hop] at h <;> omega, fun _ => ?_⟩
  refine ⟨fun h => by simp [hop] at h <;> omega, fun _ => ?_⟩
  refine ⟨fun h => by simp [hop] at h <;> omega, fun _ => ?_⟩
  refine ⟨fun h => by simp [hop] at h <;> omega, fun _ => ?_⟩
  refine ⟨fun h => by simp [hop] at h <;> omega, fun _ => ?_⟩
  refine ⟨fun _ => ?_, fun h => by simp [hop] at h <;> omega⟩
  refine ⟨.leaf [([0, 1, 2], some 3), ([], some 4), ([], none)] [], by kernel_rfl, _, l2op_pc _ _ _ _ _ _, ?_⟩
  refine ⟨_, l2put_ec K lo p (some ⟨bq, 0, none⟩) r g (opV 9 1 d 0 0) og hlo (by omega), ?_, fun v K hR => hR.no.elim⟩
  rintro _ K1 ⟨q1, hx, o1, m1⟩
  cases hx
  have ln1 := putG_len g (opV 9 1 d 0 0)
  have lo1 : lo ≤ K1.next := Nat.le_trans hlo m1.next
  refine ⟨.leaf [([0, 1, 2], some 3), ([4, 5], none)] [], by kernel_rfl, _, l2last_putB K1 _ _ _ _ _ (by omega), ?_⟩
  rw [show partP g.vals v i k d (lenAt g.vals v.a) = ((putG g (opV 9 1 d 0 0)).vals, (g.vals.length : Int)) by unfold partP; rw [if_neg (by omega), if_neg (by omega), if_neg (by omega), if_neg (by omega), if_neg (by omega), if_neg (by omega), if_neg (by omega), if_neg (by omega), if_pos (by omega)]; rfl]
  exact ⟨q1, rfl, o1, m1⟩
set_option maxHeartbeats 1000000 in
theorem l2part_pick (K : Heap) (lo : Nat) (p q r : Option Addr) (g : Graph) (v : Val) (i k d : Int) (og : OwnG K lo K.next p q r g) (hlo : lo ≤ K.next) (hl : g.vals.length ≤ 100000) (h0 : 0 ≤ i) (hi : i < g.vals.length) (hv : vAtI g.vals i = v) (hk3 : 0 ≤ k ∧ k ≤ 2) (ha : 0 ≤ v.a ∧ v.a < g.vals.length) (hop : v.op = 11) :
    EC Try.prog 40 [gV p q r g, .int .i64 i, .int .i64 k, .int .i64 d] K (QR K lo p q r g (partP g.vals v i k d (lenAt g.vals v.a)) true) := by
  refine EC_fn ctx (fun _ => true) Try.func40 rfl rfl rfl ?_
  obtain ⟨bq, hq⟩ := bufq_some og.s (by omega)
  subst hq
  obtain ⟨c0, c1, c2, _, hva⟩ := valF_at og.s.rd h0 hi
  have hla := (valF_at og.s.rd ha.1 ha.2).2.1
  rw [← lenAt_v2 (vs := g.vals) (o := v.a) rfl ha.1 ha.2] at hla
  rw [hv] at hva
  refine ⟨⟨h0, hi⟩, valV v, hva, ?_⟩
  refine ⟨fun h => by simp [hop] at h <;> omega, fun _ => ?_⟩
  refine ⟨fun h => by simp [hop] at h <;> omega, fun _ => ?_⟩
  refine ⟨fun h => by simp [hop] at h <;> omega, fun _ => ?_⟩
  refine ⟨fun h => by simp [hop] at h <;> omega, fun _ => ?_⟩
  refine ⟨fun h => by simp [hop] at h <;> omega, fun _ => ?_⟩
  refine ⟨fun h => by simp [hop] at h <;> omega, fun _ => ?_⟩
  refine ⟨fun h => by simp [hop] at h <;> omega, fun _ => ?_⟩
  refine ⟨fun h => by simp [hop] at h <;> omega, fun _ => ?_⟩
  refine ⟨fun _ => ?_, fun h => by simp [hop] at h <;> omega⟩
  refine ⟨.leaf [([0, 1, 2, 3, 4, 5, 6, 7, 8, 9, 10, 11], some 12), ([], some 13), ([], none)] [], by kernel_rfl, ⟨ha.1, ha.2⟩, _, hla, _, l2op_pc _ _ _ _ _ _, ?_⟩
  refine ⟨_, l2put_ec K lo p (some ⟨bq, 0, none⟩) r g (opV 12 (lenAt g.vals v.a) d 0 v.c) og hlo (by omega), ?_, fun v K hR => hR.no.elim⟩
  rintro _ K1 ⟨q1, hx, o1, m1⟩
  cases hx
  have ln1 := putG_len g (opV 12 (lenAt g.vals v.a) d 0 v.c)
  have lo1 : lo ≤ K1.next := Nat.le_trans hlo m1.next
  refine ⟨.leaf [([0, 1, 2], some 3), ([4, 5], none)] [], by kernel_rfl, _, l2last_putB K1 _ _ _ _ _ (by omega), ?_⟩
  rw [show partP g.vals v i k d (lenAt g.vals v.a) = ((putG g (opV 12 (lenAt g.vals v.a) d 0 v.c)).vals, (g.vals.length : Int)) by unfold partP; rw [if_neg (by omega), if_neg (by omega), if_neg (by omega), if_neg (by omega), if_neg (by omega), if_neg (by omega), if_neg (by omega), if_neg (by omega), if_neg (by omega), if_pos (by omega)]; rfl]
  exact ⟨q1, rfl, o1, m1⟩
set_option maxHeartbeats 1000000 in
theorem l2part_put (K : Heap) (lo : Nat) (p q r : Option Addr) (g : Graph) (v : Val) (i k d : Int) (og : OwnG K lo K.next p q r g) (hlo : lo ≤ K.next) (hl : g.vals.length ≤ 100000) (h0 : 0 ≤ i) (hi : i < g.vals.length) (hv : vAtI g.vals i = v) (hk3 : 0 ≤ k ∧ k ≤ 2) (ha : 0 ≤ v.a ∧ v.a < g.vals.length) (hop : v.op = 12) :
    EC Try.prog 40 [gV p q r g, .int .i64 i, .int .i64 k, .int .i64 d] K (QR K lo p q r g (partP g.vals v i k d (lenAt g.vals v.a)) true) := by
  refine EC_fn ctx (fun _ => true) Try.func40 rfl rfl rfl ?_
  obtain ⟨bq, hq⟩ := bufq_some og.s (by omega)
  subst hq
  obtain ⟨c0, c1, c2, _, hva⟩ := valF_at og.s.rd h0 hi
  have hla := (valF_at og.s.rd ha.1 ha.2).2.1
  rw [← lenAt_v2 (vs := g.vals) (o := v.a) rfl ha.1 ha.2] at hla
  rw [hv] at hva
  refine ⟨⟨h0, hi⟩, valV v, hva, ?_⟩
  refine ⟨fun h => by simp [hop] at h <;> omega, fun _ => ?_⟩
  refine ⟨fun h => by simp [hop] at h <;> omega, fun _ => ?_⟩
  refine ⟨fun h => by simp [hop] at h <;> omega, fun _ => ?_⟩
  refine ⟨fun h => by simp [hop] at h <;> omega, fun _ => ?_⟩
  refine ⟨fun h => by simp [hop] at h <;> omega, fun _ => ?_⟩
  refine ⟨fun h => by simp [hop] at h <;> omega, fun _ => ?_⟩
  refine ⟨fun h => by simp [hop] at h <;> omega, fun _ => ?_⟩
  refine ⟨fun h => by simp [hop] at h <;> omega, fun _ => ?_⟩
  refine ⟨fun h => by simp [hop] at h <;> omega, fun _ => ?_⟩
  refine ⟨fun _ => ?_, fun h => by simp [hop] at h <;> omega⟩
  refine ⟨.leaf [([0, 1, 2, 3, 4], some 5), ([], some 6), ([], none)] [], by kernel_rfl, _, l2op_pc _ _ _ _ _ _, ?_⟩
  refine ⟨_, l2put_ec K lo p (some ⟨bq, 0, none⟩) r g (opV 11 1 d 0 v.c) og hlo (by omega), ?_, fun v K hR => hR.no.elim⟩
  rintro _ K1 ⟨q1, hx, o1, m1⟩
  cases hx
  have ln1 := putG_len g (opV 11 1 d 0 v.c)
  have lo1 : lo ≤ K1.next := Nat.le_trans hlo m1.next
  refine ⟨.leaf [([0, 1, 2], some 3), ([4, 5], none)] [], by kernel_rfl, _, l2last_putB K1 _ _ _ _ _ (by omega), ?_⟩
  rw [show partP g.vals v i k d (lenAt g.vals v.a) = ((putG g (opV 11 1 d 0 v.c)).vals, (g.vals.length : Int)) by unfold partP; rw [if_neg (by omega), if_neg (by omega), if_neg (by omega), if_neg (by omega), if_neg (by omega), if_neg (by omega), if_neg (by omega), if_neg (by omega), if_neg (by omega), if_neg (by omega), if_pos (by omega)]; rfl]
  exact ⟨q1, rfl, o1, m1⟩
set_option maxHeartbeats 1000000 in
theorem l2part_exp (K : Heap) (lo : Nat) (p q r : Option Addr) (g : Graph) (v : Val) (i k d : Int) (og : OwnG K lo K.next p q r g) (hlo : lo ≤ K.next) (hl : g.vals.length ≤ 100000) (h0 : 0 ≤ i) (hi : i < g.vals.length) (hv : vAtI g.vals i = v) (hk3 : 0 ≤ k ∧ k ≤ 2) (ha : 0 ≤ v.a ∧ v.a < g.vals.length) (hop : v.op = 13) :
    EC Try.prog 40 [gV p q r g, .int .i64 i, .int .i64 k, .int .i64 d] K (QR K lo p q r g (partP g.vals v i k d (lenAt g.vals v.a)) true) := by
  refine EC_fn ctx (fun _ => true) Try.func40 rfl rfl rfl ?_
  obtain ⟨bq, hq⟩ := bufq_some og.s (by omega)
  subst hq
  obtain ⟨c0, c1, c2, _, hva⟩ := valF_at og.s.rd h0 hi
  have hla := (valF_at og.s.rd ha.1 ha.2).2.1
  rw [← lenAt_v2 (vs := g.vals) (o := v.a) rfl ha.1 ha.2] at hla
  rw [hv] at hva
  refine ⟨⟨h0, hi⟩, valV v, hva, ?_⟩
  refine ⟨fun h => by simp [hop] at h <;> omega, fun _ => ?_⟩
  refine ⟨fun h => by simp [hop] at h <;> omega, fun _ => ?_⟩
  refine ⟨fun h => by simp [hop] at h <;> omega, fun _ => ?_⟩
  refine ⟨fun h => by simp [hop] at h <;> omega, fun _ => ?_⟩
  refine ⟨fun h => by simp [hop] at h <;> omega, fun _ => ?_⟩
  refine ⟨fun h => by simp [hop] at h <;> omega, fun _ => ?_⟩
  refine ⟨fun h => by simp [hop] at h <;> omega, fun _ => ?_⟩
  refine ⟨fun h => by simp [hop] at h <;> omega, fun _ => ?_⟩
  refine ⟨fun h => by simp [hop] at h <;> omega, fun _ => ?_⟩
  refine ⟨fun h => by simp [hop] at h <;> omega, fun _ => ?_⟩
  refine ⟨.leaf [([0, 1, 2, 3, 4], some 5), ([], some 6), ([], none)] [], by kernel_rfl, _, l2op_pc _ _ _ _ _ _, ?_⟩
  refine ⟨_, l2put_ec K lo p (some ⟨bq, 0, none⟩) r g (opV 4 v.len d i 0) og hlo (by omega), ?_, fun v K hR => hR.no.elim⟩
  rintro _ K1 ⟨q1, hx, o1, m1⟩
  cases hx
  have ln1 := putG_len g (opV 4 v.len d i 0)
  have lo1 : lo ≤ K1.next := Nat.le_trans hlo m1.next
  refine ⟨.leaf [([0, 1, 2], some 3), ([4, 5], none)] [], by kernel_rfl, _, l2last_putB K1 _ _ _ _ _ (by omega), ?_⟩
  rw [show partP g.vals v i k d (lenAt g.vals v.a) = ((putG g (opV 4 v.len d i 0)).vals, (g.vals.length : Int)) by unfold partP; rw [if_neg (by omega), if_neg (by omega), if_neg (by omega), if_neg (by omega), if_neg (by omega), if_neg (by omega), if_neg (by omega), if_neg (by omega), if_neg (by omega), if_neg (by omega), if_neg (by omega)]; rfl]
  exact ⟨q1, rfl, o1, m1⟩
theorem l2part_ec (K : Heap) (lo : Nat) (p q r : Option Addr) (g : Graph) (v : Val) (i k d : Int) (og : OwnG K lo K.next p q r g) (hlo : lo ≤ K.next) (hl : g.vals.length ≤ 100000) (h0 : 0 ≤ i) (hi : i < g.vals.length) (hv : vAtI g.vals i = v) (hk : 0 ≤ k ∧ k < opnd v.op) (ha : 0 ≤ v.a ∧ v.a < g.vals.length) (hop : 0 ≤ v.op ∧ v.op ≤ 13) (h8 : ¬ (v.op = 8 ∧ k = 0)) :
    EC Try.prog 40 [gV p q r g, .int .i64 i, .int .i64 k, .int .i64 d] K (QR K lo p q r g (partP g.vals v i k d (lenAt g.vals v.a)) true) := by
  have h3 := opnd3 v.op
  have hk3 : 0 ≤ k ∧ k ≤ 2 := by omega
  by_cases e1 : v.op = 2 ∨ (v.op = 3 ∧ k = 0)
  · exact l2part_add K lo p q r g v i k d og hlo hl h0 hi hv hk3 ha e1
  by_cases e2 : (v.op = 3 ∧ k ≠ 0) ∨ v.op = 6
  · exact l2part_neg K lo p q r g v i k d og hlo hl h0 hi hv hk3 ha e2
  by_cases e3 : v.op = 4
  · exact l2part_mul K lo p q r g v i k d og hlo hl h0 hi hv hk3 ha ⟨e3, by
      have : opnd v.op = 2 := by rw [e3]; rfl
      omega⟩
  by_cases e4 : v.op = 5
  · by_cases e : k = 0
    · exact l2part_div0 K lo p q r g v i k d og hlo hl h0 hi hv hk3 ha ⟨e4, e⟩
    · exact l2part_div1 K lo p q r g v i k d og hlo hl h0 hi hv hk3 ha ⟨e4, e⟩
  by_cases e5 : v.op = 7
  · by_cases e : k = 0
    · exact l2part_max0 K lo p q r g v i k d og hlo hl h0 hi hv hk3 ha ⟨e5, e⟩
    · exact l2part_max1 K lo p q r g v i k d og hlo hl h0 hi hv hk3 ha ⟨e5, e⟩
  by_cases e6 : v.op = 8
  · by_cases e : k = 1
    · exact l2part_sel1 K lo p q r g v i k d og hlo hl h0 hi hv hk3 ha ⟨e6, e⟩
    · exact l2part_sel2 K lo p q r g v i k d og hlo hl h0 hi hv hk3 ha ⟨e6, by omega, e⟩
  by_cases e7 : v.op = 9
  · exact l2part_sum K lo p q r g v i k d og hlo hl h0 hi hv hk3 ha e7
  by_cases e8 : v.op = 10
  · exact l2part_fill K lo p q r g v i k d og hlo hl h0 hi hv hk3 ha e8
  by_cases e9 : v.op = 11
  · exact l2part_pick K lo p q r g v i k d og hlo hl h0 hi hv hk3 ha e9
  by_cases e10 : v.op = 12
  · exact l2part_put K lo p q r g v i k d og hlo hl h0 hi hv hk3 ha e10
  · have h01 : opnd v.op = 0 ∨ v.op = 13 := by
      by_cases z : v.op = 0 ∨ v.op = 1
      · left; unfold opnd; rw [if_pos z]
      · right; omega
    exact l2part_exp K lo p q r g v i k d og hlo hl h0 hi hv hk3 ha (by omega)
end Go.Proofs.Ytaaelokodfildaa
