/- Passes keep graphs valid. Condition: the graph is valid. Optimise, both sides. Conditions: those of each. -/
import Derived.Test.YtjmobjiaoklfdaaPsp
set_option linter.unusedVariables false
set_option linter.unusedSimpArgs false
namespace Go.Proofs.Ytjmobjiaoklfdaa
open Go.Am
open FlCore (canon isNan)

theorem vok_ops {g : Graph} {i : Int} {v : Val} (h : vokB g i v = true) : OpsIn v i := by
  by_cases hop : v.op = 0
  · have : opnd v.op = 0 := by rw [hop]; decide
    exact ⟨fun q => by omega, fun q => by omega, fun q => by omega⟩
  · simp only [vokB, if_neg hop, Bool.and_eq_true] at h
    exact argOK_in h.2.1.1.1 h.2.1.1.2 h.2.1.2
theorem argOK_move {i i' : Int} {v w : Val} {k : Int} (h : argOK i v k = true) (hop : w.op = v.op) (hin : k < opnd v.op → 0 ≤ fieldV w k ∧ fieldV w k < i') (he : ¬ k < opnd v.op → fieldV w k = fieldV v k) : argOK i' w k = true := by
  unfold argOK at h ⊢
  rw [hop]
  by_cases hk : k < opnd v.op
  · rw [if_pos hk]; simpa using hin hk
  · rw [if_neg hk] at h ⊢; rw [he hk]; exact h
theorem opnd_place {op : Int} (h : op = 11 ∨ op = 12) : opnd op = 1 := by unfold opnd; rcases h with rfl | rfl <;> decide
theorem fits_move {v w : Val} {a b c : Int} (h : fitsB v a b c = true) (hop : w.op = v.op) (hlen : w.len = v.len) (hc : ¬ 2 < opnd v.op → w.c = v.c) : fitsB w a b c = true := by
  unfold fitsB at h ⊢
  rw [hop, hlen]
  by_cases h1 : eachB v.op = true
  · rw [if_pos h1] at h ⊢; exact h
  · rw [if_neg h1] at h ⊢
    by_cases h9 : v.op = 9
    · rw [if_pos h9] at h ⊢; exact h
    · rw [if_neg h9] at h ⊢
      by_cases h11 : v.op = 11
      · rw [if_pos h11] at h ⊢
        rw [hc (by rw [opnd_place (.inl h11)]; omega)]; exact h
      · rw [if_neg h11] at h ⊢
        by_cases h10 : v.op = 10
        · rw [if_pos h10] at h ⊢; exact h
        · rw [if_neg h10] at h ⊢
          by_cases h12 : v.op = 12
          · rw [if_pos h12] at h ⊢
            rw [hc (by rw [opnd_place (.inr h12)]; omega)]; exact h
          · rw [if_neg h12]
/-- A value is as valid when its operands are renamed to ones of the same lengths. -/
theorem vok_move {g g' : Graph} {i i' : Int} {v w : Val} (h : vokB g i v = true) (hop : w.op = v.op) (hlen : w.len = v.len) (hins : g'.ins = g.ins) (hops : OpsIn w i') (ha : ¬ 0 < opnd v.op → w.a = v.a) (hb : ¬ 1 < opnd v.op → w.b = v.b) (hc : ¬ 2 < opnd v.op → w.c = v.c) (hl : ∀ k : Int, 0 ≤ k → k < opnd v.op → lenAt g'.vals (fieldV w k) = lenAt g.vals (fieldV v k)) : vokB g' i' w = true := by
  have hal : ∀ k : Int, 0 ≤ k → argLen g'.vals w k = argLen g.vals v k := fun k hk => by
    unfold argLen
    rw [hop]
    by_cases q : k < opnd v.op
    · rw [if_pos q, if_pos q, hl k hk q]
    · rw [if_neg q, if_neg q]
  unfold vokB at h ⊢
  rw [hal 0 (by omega), hal 1 (by omega), hal 2 (by omega), hop, hlen, hins]
  by_cases h0 : v.op = 0
  · rw [if_pos h0] at h ⊢
    have e0 : opnd v.op = 0 := by rw [h0]; decide
    have : inputOK g.ins w = inputOK g.ins v := by
      unfold inputOK
      rw [ha (by omega), hb (by omega), hc (by omega), hlen]
    rw [this]; exact h
  · rw [if_neg h0] at h ⊢
    simp only [Bool.and_eq_true] at h ⊢
    obtain ⟨⟨x1, x2⟩, ⟨⟨y0, y1⟩, y2⟩, z⟩ := h
    have hoo := hops
    refine ⟨⟨x1, x2⟩, ⟨⟨argOK_move y0 hop (fun q => ?_) (fun q => ?_), argOK_move y1 hop (fun q => ?_) (fun q => ?_)⟩, argOK_move y2 hop (fun q => ?_) (fun q => ?_)⟩, fits_move z hop hlen hc⟩
    · exact hops.a (by rw [hop]; exact q)
    · exact ha q
    · exact hops.b (by rw [hop]; exact q)
    · exact hb q
    · exact hops.c (by rw [hop]; exact q)
    · exact hc q
theorem field_in {v : Val} {n : Int} (h : OpsIn v n) {k : Int} (h0 : 0 ≤ k) (hk : k < opnd v.op) : 0 ≤ fieldV v k ∧ fieldV v k < n := by
  have h3 := opnd3 v.op
  have hk3 : k = 0 ∨ k = 1 ∨ k = 2 := by omega
  rcases hk3 with rfl | rfl | rfl
  · simpa [fieldV] using h.a (by omega)
  · simpa [fieldV] using h.b (by omega)
  · simpa [fieldV] using h.c (by omega)
theorem field_with {v : Val} {eq : List Int} {k : Int} (h0 : 0 ≤ k) (hk : k < opnd v.op) : fieldV (withV v eq) k = atV eq (fieldV v k) := by
  have h3 := opnd3 v.op
  have hk3 : k = 0 ∨ k = 1 ∨ k = 2 := by omega
  rcases hk3 with rfl | rfl | rfl <;> simp [fieldV, withV, hk]
theorem lenAt_app {vs ws : List Val} {o : Int} (h0 : 0 ≤ o) (h : o < vs.length) : lenAt (vs ++ ws) o = lenAt vs o := by
  unfold lenAt
  rw [List.getElem?_append_left (by omega)]
theorem lenAt_get {vs : List Val} {o : Int} {v : Val} (h : vs[o.toNat]? = some v) : lenAt vs o = v.len := by unfold lenAt; rw [h]; rfl
theorem vok_app {ins : List Int} {vs ws : List Val} {outs : List Int} {i : Int} {v : Val} (h : vokB ⟨ins, vs, []⟩ i v = true) (hi : i ≤ vs.length) : vokB ⟨ins, vs ++ ws, outs⟩ i v = true := by
  refine vok_move h rfl rfl rfl (vok_ops h) (fun _ => rfl) (fun _ => rfl) (fun _ => rfl) (fun k h0 hk => ?_)
  have := field_in (vok_ops h) h0 hk
  exact lenAt_app this.1 (by omega)
theorem vok_with {g g' : Graph} {i i' : Int} {v : Val} {eq : List Int} (h : vokB g i v = true) (hins : g'.ins = g.ins) (hops : OpsIn (withV v eq) i') (hl : ∀ o : Int, 0 ≤ o → o < i → o ∈ argsL v → lenAt g'.vals (atV eq o) = lenAt g.vals o) : vokB g' i' (withV v eq) = true := by
  refine vok_move h rfl rfl hins hops (fun q => by simp [withV, q]) (fun q => by simp [withV, q]) (fun q => by simp [withV, q]) (fun k h0 hk => ?_)
  rw [field_with h0 hk]
  have := field_in (vok_ops h) h0 hk
  refine hl _ this.1 this.2 ?_
  have := field_arg (v := v) (k := k.toNat) (by omega)
  rwa [show ((k.toNat : Nat) : Int) = k by omega] at this
theorem vok_each {g : Graph} {i : Int} {v : Val} (h : vokB g i v = true) (hop : eachB v.op = true) (h1 : 0 < opnd v.op) : lenAt g.vals v.a = v.len ∧ (2 ≤ opnd v.op → lenAt g.vals v.b = v.len) := by
  have h0 : ¬ v.op = 0 := fun e => by rw [e] at h1; exact absurd h1 (by decide)
  simp only [vokB, if_neg h0, Bool.and_eq_true] at h
  have hf := h.2.2
  unfold fitsB at hf
  rw [if_pos hop] at hf
  simp only [decide_eq_true_eq] at hf
  refine ⟨?_, fun h2 => ?_⟩
  · have := hf.1; rw [argLen, if_pos h1] at this; simpa [fieldV] using this
  · have := hf.2.1 h2; rw [argLen, if_pos (by omega)] at this; simpa [fieldV] using this
/-- What is found equal is as long. -/
def LenOK (same : List Val → Val → Int) : Prop := ∀ (ins : List Int) (vs : List Val) (v : Val), (∀ (j : Nat) (w : Val), vs[j]? = some w → vokB ⟨ins, vs, []⟩ j w = true) → vokB ⟨ins, vs, []⟩ vs.length v = true → lenAt (vs ++ [v]) (same vs v) = v.len
theorem lenAt_new (vs : List Val) (v : Val) : lenAt (vs ++ [v]) (vs.length : Int) = v.len := lenAt_get (by simp)
theorem sameCommon_len : LenOK sameCommon := fun ins vs v h hv => by
  unfold sameCommon
  split
  · rename_i j hj
    obtain ⟨h1, h2, _⟩ := List.findIdx?_eq_some_iff_getElem.1 hj
    rw [lenAt_app (by omega) (by omega), lenAt_get (v := vs[j]) (by simp [h1])]
    simp [sameV] at h2
    exact h2.1.2.1
  · exact lenAt_new _ _
theorem each6 {op : Int} (h : op = 6) : opnd op = 1 ∧ eachB op = true := by subst h; decide
theorem sameNeg_len : LenOK sameNeg := fun ins vs v h hv => by
  unfold sameNeg
  split
  · rename_i q
    obtain ⟨o1, o2⟩ := each6 q.1
    obtain ⟨o3, o4⟩ := each6 q.2
    have hin := (vok_ops hv).a (by omega)
    have hg := vAtI_get (vals := vs) hin.1 hin.2
    have hw := h _ _ hg
    have hin2 := (vok_ops hw).a (by omega)
    have e1 := (vok_each hv o2 (by omega)).1
    have e2 := (vok_each hw o4 (by omega)).1
    rw [lenAt_app hin2.1 (by omega)]
    exact e2.trans ((lenAt_get hg).symm.trans e1)
  · exact lenAt_new _ _
theorem each2 {op : Int} (h : op = 2 ∨ op = 3 ∨ op = 4 ∨ op = 5) : eachB op = true := by unfold eachB; simp; omega
theorem sameUnit_len : LenOK sameUnit := fun ins vs v h hv => by
  unfold sameUnit
  split
  · rename_i q
    have key : (v.op = 2 ∨ v.op = 3 ∨ v.op = 4 ∨ v.op = 5) → lenAt (vs ++ [v]) v.a = v.len ∧ lenAt (vs ++ [v]) v.b = v.len := fun hop => by
      have o2 := opnd2 hop
      have ha := (vok_ops hv).a (by omega)
      have hb := (vok_ops hv).b (by omega)
      obtain ⟨e1, e2⟩ := vok_each hv (each2 hop) (by omega)
      rw [lenAt_app ha.1 (by omega), lenAt_app hb.1 (by omega)]
      exact ⟨e1, e2 (by omega)⟩
    unfold unitI at q ⊢
    repeat' split
    all_goals first | exact (key (by omega)).1 | exact (key (by omega)).2 | (exfalso; simp_all)
  · exact lenAt_new _ _
theorem cells_app (l : List Val) (w : Val) : cellsOf (l ++ [w]) = cellsOf l + w.len := by
  unfold cellsOf; rw [List.map_append, List.foldl_append]; rfl
theorem cells_eq {l m : List Val} (h : l.length = m.length) (he : ∀ (j : Nat) (v w : Val), l[j]? = some v → m[j]? = some w → v.len = w.len) : cellsOf l = cellsOf m := by
  have : l.map (·.len) = m.map (·.len) := by
    apply List.ext_getElem
    · simpa using h
    · intro i h1 h2
      simp only [List.length_map] at h1 h2
      simp only [List.getElem_map]
      exact he i _ _ (List.getElem?_eq_getElem h1) (List.getElem?_eq_getElem h2)
  unfold cellsOf; rw [this]
theorem valid_mk {g g' : Graph} (h : validB g = true) (hi : g'.ins = g.ins) (hl : g'.vals.length ≤ g.vals.length) (ho : g'.outs.length = g.outs.length) (hv : ∀ (j : Nat) (w : Val), g'.vals[j]? = some w → vokB ⟨g.ins, g'.vals, []⟩ j w = true) (hq : ∀ o ∈ g'.outs, 0 ≤ o ∧ o < g'.vals.length) (hc : cellsOf g'.vals ≤ cellsOf g.vals) : validB g' = true := by
  simp only [validB, Bool.and_eq_true, decide_eq_true_eq] at h ⊢
  obtain ⟨⟨⟨⟨⟨⟨v1, v2⟩, v3⟩, v4⟩, v5⟩, v6⟩, v7⟩ := h
  refine ⟨⟨⟨⟨⟨⟨by rw [hi]; exact v1, by omega⟩, by omega⟩, by rw [hi]; exact v4⟩, ?_⟩, ?_⟩, by omega⟩
  · rw [List.all_eq_true]
    intro i hi2
    have hlt := List.mem_range.1 hi2
    rw [vAt_get (List.getElem?_eq_getElem hlt)]
    have := hv i _ (List.getElem?_eq_getElem hlt)
    rw [← hi] at this
    exact this
  · rw [List.all_eq_true]
    intro o ho2
    have := hq o ho2
    simpa [inIdx] using this
theorem last_get {α : Type} {l : List α} {x : α} {k j : Nat} {w : α} (hk : l.length = k) (h : (l ++ [x])[j]? = some w) : (j < k ∧ l[j]? = some w) ∨ (j = k ∧ w = x) := by
  by_cases hj : j < k
  · rw [List.getElem?_append_left (by omega)] at h; exact .inl ⟨hj, h⟩
  · rw [List.getElem?_append_right (by omega), hk] at h
    have : j - k = 0 := by
      have := (List.getElem?_eq_some_iff.1 h).1
      simp at this; omega
    rw [this] at h
    simp at h
    exact .inr ⟨by omega, h.symm⟩
structure ShV (ins : List Int) (same : List Val → Val → Int) (vals : List Val) (k : Nat) : Prop where
  ok : ∀ (j : Nat) (w : Val), (sh same vals k).1[j]? = some w → vokB ⟨ins, (sh same vals k).1, []⟩ j w = true
  len : ∀ (j : Nat) (w : Val), (sh same vals k).1[j]? = some w → lenAt vals j = w.len
  eq : ∀ (j : Nat) (x : Int), (sh same vals k).2[j]? = some x → lenAt (sh same vals k).1 x = lenAt vals j
theorem sh_v {same : List Val → Val → Int} {g : Graph} (hs : SameOK same) (hl : LenOK same) (h : validB g = true) : ∀ k, k ≤ g.vals.length → ShV g.ins same g.vals k
  | 0, _ => ⟨fun j w q => by simp [sh] at q, fun j w q => by simp [sh] at q, fun j w q => by simp [sh] at q⟩
  | k + 1, hk => by
    obtain ⟨ok, ln, eq⟩ := sh_v hs hl h k (by omega)
    obtain ⟨l1, l2, he, ho⟩ := sh_ok hs (valid_ops h) k (by omega)
    have hv : (g.vals[k]?).getD v0 = g.vals[k] := by rw [List.getElem?_eq_getElem (by omega)]; rfl
    have hgk : g.vals[k]? = some g.vals[k] := List.getElem?_eq_getElem (by omega)
    have hin : OpsIn g.vals[k] k := valid_ops h k _ hgk
    have hw : OpsIn (withV g.vals[k] (sh same g.vals k).2) k := withV_in (by rw [l2]; exact hin) he (by omega)
    have hvw : vokB ⟨g.ins, (sh same g.vals k).1, []⟩ k (withV g.vals[k] (sh same g.vals k).2) = true := by
      refine vok_with (valid_vok h hgk) rfl hw (fun o h0 h1 _ => ?_)
      have hj : o.toNat < (sh same g.vals k).2.length := by omega
      have := eq _ _ (List.getElem?_eq_getElem hj)
      unfold atV
      rw [List.getElem?_eq_getElem hj, Option.getD_some, this, show ((o.toNat : Nat) : Int) = o by omega]
    have hsl := hl g.ins _ _ ok (by rw [l1]; exact hvw)
    have hlk : lenAt g.vals (k : Int) = g.vals[k].len := lenAt_get hgk
    have hbnd := hs (sh same g.vals k).1 _ ho (by rw [l1]; exact hw)
    refine ⟨fun j w q => ?_, fun j w q => ?_, fun j x q => ?_⟩
    · simp only [sh, hv] at q ⊢
      rcases last_get l1 q with ⟨hj, q⟩ | ⟨rfl, rfl⟩
      · exact vok_app (ok j w q) (by omega)
      · exact vok_app hvw (by omega)
    · simp only [sh, hv] at q
      rcases last_get l1 q with ⟨hj, q⟩ | ⟨rfl, rfl⟩
      · exact ln j w q
      · exact hlk
    · simp only [sh, hv] at q ⊢
      rcases last_get l2 q with ⟨hj, q⟩ | ⟨rfl, rfl⟩
      · have := he j x q
        rw [lenAt_app this.1 (by omega)]
        exact eq j x q
      · rw [hsl, hlk]; rfl
theorem shared_valid {same : List Val → Val → Int} {g : Graph} (hs : SameOK same) (hl : LenOK same) (h : validB g = true) : validB (shared same g) = true := by
  obtain ⟨ok, ln, eq⟩ := sh_v hs hl h g.vals.length (Nat.le_refl _)
  obtain ⟨l1, l2, he, ho⟩ := sh_ok hs (valid_ops h) g.vals.length (Nat.le_refl _)
  refine valid_mk h rfl (Nat.le_of_eq l1) (by simp [shared]) ok (fun o hoo => ?_) (Int.le_of_eq (cells_eq l1 fun j v w h1 h2 => ?_))
  · simp only [shared, List.mem_map] at hoo ⊢
    obtain ⟨x, hx, rfl⟩ := hoo
    have hb := valid_outs h x hx
    have hj : x.toNat < (sh same g.vals g.vals.length).2.length := by omega
    have := he _ _ (List.getElem?_eq_getElem hj)
    unfold atV
    rw [List.getElem?_eq_getElem hj, Option.getD_some, l1]
    omega
  · rw [← ln j v h1]; exact lenAt_get (o := (j : Int)) h2
theorem fl_v {g : Graph} (h : validB g = true) : ∀ k, k ≤ g.vals.length → ∀ (j : Nat) (w : Val), (fl g.vals k)[j]? = some w → vokB ⟨g.ins, fl g.vals k, []⟩ j w = true
  | 0, _, j, w, q => by simp [fl] at q
  | k + 1, hk, j, w, q => by
    have ok := fl_v h k (by omega)
    have hv : (g.vals[k]?).getD v0 = g.vals[k] := by rw [List.getElem?_eq_getElem (by omega)]; rfl
    have hgk : g.vals[k]? = some g.vals[k] := List.getElem?_eq_getElem (by omega)
    simp only [fl, hv] at q ⊢
    rcases last_get (fl_len _ k) q with ⟨hj, q⟩ | ⟨rfl, rfl⟩
    · exact vok_app (ok j w q) (by rw [fl_len]; omega)
    · refine vok_app ?_ (by rw [fl_len]; omega)
      have hvk := valid_vok h hgk
      unfold foldV
      split
      · have hlen := valid_len h hgk
        simp [vokB, hlen, argOK, opnd, fieldV, fitsB, eachB]
      · refine vok_move hvk rfl rfl rfl (vok_ops hvk) (fun _ => rfl) (fun _ => rfl) (fun _ => rfl) (fun i h0 hi => ?_)
        have hb := field_in (vok_ops hvk) h0 hi
        have := (fl_okLen h (Nat.le_of_lt hk) hb.1 hb.2).1
        have e := lenAt_get (vAtI_get (vals := fl g.vals j) hb.1 (by rw [fl_len]; exact hb.2))
        exact e.trans this
theorem foldG_valid {g : Graph} (h : validB g = true) : validB (foldG g) = true := by
  refine valid_mk h rfl (Nat.le_of_eq (fl_len _ _)) rfl (fl_v h _ (Nat.le_refl _)) (fun o ho => ?_) (Int.le_of_eq (cells_eq (fl_len _ _) fun j v w h1 h2 => ?_))
  · have := valid_outs h o ho
    simpa [foldG, fl_len] using this
  · obtain ⟨u, h3, h4⟩ := fl_lens _ (Nat.le_refl _) j v h1
    rw [h2] at h3; cases h3; exact h4
theorem nS_keep {g : Graph} (hops : OpsG g.vals) {d : Nat} : ∀ e, d ≤ e → e ≤ g.vals.length → ∀ j, g.vals.length - d ≤ j → bAt (nS g e) j = bAt (nS g d) j
  | 0, hd, _, j, hj => by
    have h0 : d = 0 := by omega
    subst h0; rfl
  | e + 1, hd, he, j, hj => by
    by_cases q : d = e + 1
    · rw [q]
    · have IH := nS_keep hops e (by omega) (by omega) j hj
      have hi : g.vals.length - (e + 1) < g.vals.length := by omega
      have hv : (g.vals[g.vals.length - (e + 1)]?).getD v0 = g.vals[g.vals.length - (e + 1)] := by rw [List.getElem?_eq_getElem hi]; rfl
      have hin := args_in (hops _ _ (List.getElem?_eq_getElem hi))
      simp only [nS, hv]
      rw [setAll_at _ j _ _ (fun o ho => by have := hin o ho; rw [List.length_set, nS_len]; omega), bAt_set _ (by rw [nS_len]; exact hi), if_neg (by omega), IH]
      have : ((argsL g.vals[g.vals.length - (e + 1)]).any fun o => decide (o.toNat = j)) = false := by
        rw [List.any_eq_false]
        intro o ho
        have := hin o ho
        simp; omega
      rw [this]; simp
theorem nS_mono {g : Graph} (hops : OpsG g.vals) {d : Nat} {j : Nat} (h : bAt (nS g d) j = true) : ∀ e, d ≤ e → e ≤ g.vals.length → bAt (nS g e) j = true
  | 0, hd, _ => by
    have h0 : d = 0 := by omega
    subst h0; exact h
  | e + 1, hd, he => by
    by_cases q : d = e + 1
    · rw [← q]; exact h
    · have IH := nS_mono hops h e (by omega) (by omega)
      have hi : g.vals.length - (e + 1) < g.vals.length := by omega
      have hv : (g.vals[g.vals.length - (e + 1)]?).getD v0 = g.vals[g.vals.length - (e + 1)] := by rw [List.getElem?_eq_getElem hi]; rfl
      have hin := args_in (hops _ _ (List.getElem?_eq_getElem hi))
      simp only [nS, hv]
      rw [setAll_at _ j _ _ (fun o ho => by have := hin o ho; rw [List.length_set, nS_len]; omega), bAt_set _ (by rw [nS_len]; exact hi)]
      by_cases hj : j = g.vals.length - (e + 1)
      · rw [if_pos hj, show bAt (nS g e) (g.vals.length - (e + 1)) = true from hj ▸ IH]; simp
      · rw [if_neg hj, IH]; simp
theorem needed_args {g : Graph} (hops : OpsG g.vals) {i : Nat} {v : Val} (hv : g.vals[i]? = some v) (h : bAt (needed g) i = true) : ∀ o ∈ argsL v, bAt (needed g) o.toNat = true := fun o ho => by
  have hi : i < g.vals.length := (List.getElem?_eq_some_iff.1 hv).1
  have hin := args_in (hops _ _ hv)
  refine nS_mono hops (d := (g.vals.length - 1 - i) + 1) ?_ g.vals.length (by omega) (Nat.le_refl _)
  have hk : bAt (nS g (g.vals.length - 1 - i + 1)) i = true := by
    rw [← nS_keep hops g.vals.length (by omega) (Nat.le_refl _) i (by omega)]; exact h
  have hidx : g.vals.length - (g.vals.length - 1 - i + 1) = i := by omega
  have hvv : (g.vals[i]?).getD v0 = v := by rw [hv]; rfl
  have hoo := hin o ho
  simp only [nS, hidx, hvv] at hk ⊢
  rw [setAll_at _ _ _ _ (fun o ho => by have := hin o ho; rw [List.length_set, nS_len]; omega), bAt_set _ (by rw [nS_len]; exact hi)] at hk ⊢
  rw [if_pos rfl] at hk
  have hb : (bAt (nS g (g.vals.length - 1 - i)) i || g.outs.contains (i : Int)) = true := by
    generalize (bAt (nS g (g.vals.length - 1 - i)) i || g.outs.contains (i : Int)) = b at hk
    cases b
    · simp at hk
    · rfl
  rw [hb]
  have : ((argsL v).any fun o' => decide (o'.toNat = o.toNat)) = true := List.any_eq_true.2 ⟨o, ho, by simp⟩
  rw [this]; simp
theorem atV_set_ne {l : List Int} {k : Nat} {x : Int} {o : Int} (h : o.toNat ≠ k) : atV (l.set k x) o = atV l o := by
  unfold atV; rw [List.getElem?_set_ne (fun e => h e.symm)]
theorem atV_set_eq {l : List Int} {k : Nat} {x : Int} (h : k < l.length) : atV (l.set k x) (k : Int) = x := by
  unfold atV; simp [h]
structure DdV (g : Graph) (k : Nat) : Prop where
  ok : ∀ (j : Nat) (w : Val), (dd g k).2[j]? = some w → vokB ⟨g.ins, (dd g k).2, []⟩ j w = true
  idx : ∀ j : Nat, j < k → bAt (needed g) j = true → 0 ≤ atV (dd g k).1 j ∧ atV (dd g k).1 j < (dd g k).2.length ∧ lenAt (dd g k).2 (atV (dd g k).1 j) = lenAt g.vals j
  cel : cellsOf (dd g k).2 ≤ cellsOf (g.vals.take k)
theorem dd_v {g : Graph} (h : validB g = true) : ∀ k, k ≤ g.vals.length → DdV g k
  | 0, _ => ⟨fun j w q => by simp [dd] at q, fun j q => by omega, Int.le_refl _⟩
  | k + 1, hk => by
    obtain ⟨ok, ix, cl⟩ := dd_v h k (by omega)
    have hl := dd_len g k
    have hkk : k < g.vals.length := hk
    have hgk : g.vals[k]? = some g.vals[k] := List.getElem?_eq_getElem hkk
    have hv : (g.vals[k]?).getD v0 = g.vals[k] := by rw [hgk]; rfl
    have hlen := valid_len h hgk
    simp [okLen] at hlen
    by_cases hn : bAt (needed g) k = true
    · have hvk := valid_vok h hgk
      have hargs := needed_args (valid_ops h) hgk hn
      have hops := vok_ops hvk
      have hat : ∀ o : Int, 0 ≤ o → o < k → o ∈ argsL g.vals[k] → atV ((dd g k).1.set k ((dd g k).2.length : Int)) o = atV (dd g k).1 o ∧ 0 ≤ atV (dd g k).1 o ∧ atV (dd g k).1 o < (dd g k).2.length ∧ lenAt (dd g k).2 (atV (dd g k).1 o) = lenAt g.vals o := fun o h0 h1 ho => by
        have := ix o.toNat (by omega) (hargs o ho)
        rw [show ((o.toNat : Nat) : Int) = o by omega] at this
        exact ⟨atV_set_ne (by omega), this⟩
      have hof : ∀ i : Nat, (i : Int) < opnd g.vals[k].op → 0 ≤ fieldV g.vals[k] i ∧ fieldV g.vals[k] i < k := fun i hi => field_in hops (by omega) hi
      have hgo : ∀ i : Nat, (i : Int) < opnd g.vals[k].op → 0 ≤ atV ((dd g k).1.set k ((dd g k).2.length : Int)) (fieldV g.vals[k] i) ∧ atV ((dd g k).1.set k ((dd g k).2.length : Int)) (fieldV g.vals[k] i) < (dd g k).2.length := fun i hi => by
        obtain ⟨a, b, c, _⟩ := hat _ (hof i hi).1 (hof i hi).2 (field_arg hi)
        rw [a]; exact ⟨b, c⟩
      have hw : OpsIn (withV g.vals[k] ((dd g k).1.set k ((dd g k).2.length : Int))) (dd g k).2.length := by
        refine ⟨fun q => ?_, fun q => ?_, fun q => ?_⟩ <;> rw [withV_op] at q
        · simp only [withV, if_pos q]; exact hgo 0 (by simpa using q)
        · simp only [withV, if_pos q]; exact hgo 1 (by simpa using q)
        · simp only [withV, if_pos q]; exact hgo 2 (by simpa using q)
      have hvw : vokB ⟨g.ins, (dd g k).2, []⟩ (dd g k).2.length (withV g.vals[k] ((dd g k).1.set k ((dd g k).2.length : Int))) = true := by
        refine vok_with hvk rfl hw (fun o h0 h1 ho => ?_)
        obtain ⟨a, _, _, d⟩ := hat o h0 h1 ho
        rw [a]; exact d
      have hd : dd g (k + 1) = ((dd g k).1.set k ((dd g k).2.length : Int), (dd g k).2 ++ [withV g.vals[k] ((dd g k).1.set k ((dd g k).2.length : Int))]) := by
        show (if bAt (needed g) k then _ else _) = _
        rw [if_pos hn, hv]
      refine ⟨fun j w q => ?_, fun j hj hnj => ?_, ?_⟩
      · simp only [hd] at q ⊢
        rcases last_get rfl q with ⟨hj, q⟩ | ⟨rfl, rfl⟩
        · exact vok_app (ok j w q) (by omega)
        · exact vok_app hvw (by omega)
      · simp only [hd]
        by_cases hjk : j = k
        · subst hjk
          rw [atV_set_eq (by omega)]
          refine ⟨by omega, by simp; omega, ?_⟩
          rw [lenAt_new, lenAt_get (o := (j : Int)) hgk]; rfl
        · obtain ⟨a, b, c⟩ := ix j (by omega) hnj
          rw [atV_set_ne (by omega)]
          refine ⟨a, by simp; omega, ?_⟩
          rw [lenAt_app a b]; exact c
      · simp only [hd]
        rw [cells_app, cells_succ hkk]
        show _ + g.vals[k].len ≤ _
        omega
    · have hd : dd g (k + 1) = dd g k := by
        show (if bAt (needed g) k then _ else _) = _
        rw [if_neg hn]
      refine ⟨fun j w q => ?_, fun j hj hnj => ?_, ?_⟩
      · rw [hd] at q ⊢; exact ok j w q
      · rw [hd]
        have : j ≠ k := fun e => hn (e ▸ hnj)
        exact ix j (by omega) hnj
      · rw [hd, cells_succ hkk]; omega
theorem deadG_valid {g : Graph} (h : validB g = true) : validB (deadG g) = true := by
  obtain ⟨ok, ix, cl⟩ := dd_v h g.vals.length (Nat.le_refl _)
  refine valid_mk h rfl (dd_len g _).2 (by simp [deadG]) ok (fun o hoo => ?_) (by rw [List.take_length] at cl; exact cl)
  simp only [deadG, List.mem_map] at hoo ⊢
  obtain ⟨x, hx, rfl⟩ := hoo
  have hb := valid_outs h x hx
  have hn : bAt (needed g) x.toNat = true := nS_out (valid_ops h) _ (Nat.le_refl _) _ (by omega) (by omega) (by rw [List.contains_iff_mem, show ((x.toNat : Nat) : Int) = x by omega]; exact hx)
  have := ix x.toNat (by omega) hn
  rw [show ((x.toNat : Nat) : Int) = x by omega] at this
  exact ⟨this.1, this.2.1⟩
theorem passG_valid {g : Graph} (h : validB g = true) (pass : Int) : validB (passG g pass) = true := by
  unfold passG
  repeat' split
  · exact deadG_valid h
  · exact shared_valid sameCommon_ok sameCommon_len h
  · exact foldG_valid h
  · exact shared_valid sameNeg_ok sameNeg_len h
  · exact shared_valid sameUnit_ok sameUnit_len h
end Go.Proofs.Ytjmobjiaoklfdaa

set_option linter.unusedVariables false
namespace Go.Proofs.Ytjmobjiaoklfdaa
open Go.Am
open FlCore (canon isNan)

def wrongP (p : Int) : Bool := decide (p < 0 ∨ 4 < p)
def badB (ps : List Int) : Bool := decide (50 < ps.length) || ps.any wrongP
def optG (g : Graph) (ps : List Int) : Graph := ps.foldl passG g
/-- What Optimise answers. -/
def ov (g : Graph) (ps : List Int) : Graph × Int := if validB g then (if badB ps then (zG, 6) else (optG g ps, 0)) else (zG, 1)
theorem optG_take {g : Graph} {ps : List Int} {k : Nat} (h : k < ps.length) : optG g (ps.take (k + 1)) = passG (optG g (ps.take k)) ps[k] := by
  unfold optG; rw [List.take_succ_eq_append_getElem h, List.foldl_append]; rfl
theorem optG_valid {g : Graph} (h : validB g = true) : ∀ (ps : List Int), validB (optG g ps) = true := fun ps => by
  unfold optG
  induction ps generalizing g with
  | nil => exact h
  | cons p r ih => exact ih (passG_valid h p)
theorem any_take_succ {ps : List Int} {k : Nat} (hk : k < ps.length) (h : (ps.take k).any wrongP = false) (h' : wrongP ps[k] = false) : (ps.take (k + 1)).any wrongP = false := by
  rw [List.take_succ_eq_append_getElem hk, List.any_append, h]; simp [h']
theorem any_get_true {ps : List Int} {k : Nat} (hk : k < ps.length) (h' : wrongP ps[k] = true) : ps.any wrongP = true := List.any_eq_true.2 ⟨_, List.getElem_mem hk, h'⟩
theorem any_get_false {ps : List Int} {k : Nat} (hk : k < ps.length) (h' : ps.any wrongP = false) : 0 ≤ ps[k] ∧ ps[k] ≤ 4 := by
  have := List.any_eq_false.1 h' _ (List.getElem_mem hk)
  simp [wrongP] at this; exact this
/-- A number that is negative exactly if nothing is wrong. -/
def IR (H : Heap) (b : Bool) (e : AEnd) (K : Heap) : Prop := ∃ n : Int, e = .ret (.int .i64 n) ∧ K = H ∧ decide (0 ≤ n) = b ∧ -1 ≤ n ∧ n ≤ 1048576
theorem IR.no {H K : Heap} {b : Bool} {v : Value} (h : IR H b (.pan v) K) : False := by obtain ⟨_, h, _⟩ := h; cases h
theorem l4wrongPass_ec (H : Heap) (p : Option Addr) (ps : List Int) (h : Rd dInt H p ps) (hl : ps.length ≤ 1048576) :
    EC Try.prog 17 [sv p ps] H (IR H (ps.any wrongP)) := by
  refine EC_fn ctx (fun _ => true) Try.func17 rfl rfl rfl ?_
  refine loop_ind ctx (fun _ => true) (fun m E K => ∃ k, k ≤ ps.length ∧ m = ps.length - k ∧ E = ⟨[(0, sv p ps), (3, .int .i64 k)], []⟩ ∧ K = H ∧ (ps.take k).any wrongP = false)
    ⟨0, Nat.zero_le _, rfl, rfl, rfl, rfl⟩ (by (refine ⟨?_, ?_⟩ <;> repeat' first | exact trivial | exact congrArg (fun x => some (Value.int .i64 x)) (wrap_nat (by omega)) | exact sv_eq (by simp; done) | exact rfl | refine ⟨?_, ?_⟩ | fail)) ?_
  rintro m E K ⟨k, hk, rfl, rfl, rfl, hok⟩
  refine ⟨fun hlt => ?_, fun hge => ?_⟩
  · have hlt : k < ps.length := by simpa using hlt
    obtain ⟨b, o, rfl, hc⟩ := h.cell (List.getElem?_eq_getElem hlt)
    refine ⟨⟨by omega, by omega⟩, _, hc, fun _ => ⟨by omega, by omega⟩, _, fun _ => hc, fun hf => ?_, fun hf => ?_⟩
    · refine ⟨(k : Int), rfl, rfl, ?_, by omega, by omega⟩
      rw [any_get_true hlt (by simp at hf; simp [wrongP]; omega)]; simp
    · exact ⟨ps.length - (k + 1), ⟨[(0, sv (some ⟨b, o, none⟩) ps), (3, .int .i64 ((k + 1 : Nat) : Int))], []⟩, by omega, by (refine ⟨?_, ?_⟩ <;> repeat' first | exact trivial | exact congrArg (fun x => some (Value.int .i64 x)) (wrap_nat (by omega)) | exact sv_eq (by simp; done) | exact rfl | refine ⟨?_, ?_⟩ | fail), k + 1, by omega, rfl, rfl, rfl, any_take_succ hlt hok (by simp at hf; simp [wrongP]; omega)⟩
  · have hk : k = ps.length := by simp at hge; omega
    subst hk
    rw [List.take_of_length_le (Nat.le_refl _)] at hok
    exact ⟨-1, rfl, rfl, by rw [hok]; rfl, by omega, by omega⟩
theorem badPass_ec (H : Heap) (p : Option Addr) (ps : List Int) (h : Rd dInt H p ps) (hl : ps.length ≤ 1048576) :
    EC Try.prog 21 [sv p ps] H (IR H (badB ps)) := by
  refine EC_fn ctx (fun _ => true) Try.func21 rfl rfl rfl ?_
  refine ⟨fun h5 => ?_, fun h5 => ?_⟩
  · refine ⟨50, rfl, rfl, ?_, by omega, by omega⟩
    have : 50 < ps.length := by simp at h5; omega
    simp [badB, this]
  have h50 : ¬ 50 < ps.length := by simp at h5; omega
  have hb : badB ps = ps.any wrongP := by simp [badB, h50]
  rw [hb]
  refine loop_ind ctx (fun _ => true) (fun m E K => ∃ k, k ≤ ps.length ∧ m = ps.length - k ∧ E = ⟨[(8, sv p ps), (9, .int .i64 ps.length), (10, .int .i64 k)], []⟩ ∧ K = H ∧ (ps.take k).any wrongP = false)
    ⟨0, Nat.zero_le _, rfl, rfl, rfl, rfl⟩ (by (refine ⟨?_, ?_⟩ <;> repeat' first | exact trivial | exact congrArg (fun x => some (Value.int .i64 x)) (wrap_nat (by omega)) | exact sv_eq (by simp; done) | exact rfl | refine ⟨?_, ?_⟩ | fail)) ?_
  rintro m E K ⟨k, hk, rfl, rfl, rfl, hok⟩
  refine ⟨fun hlt => ?_, fun hge => ?_⟩
  · have hlt : k < ps.length := by simpa using hlt
    obtain ⟨b, o, rfl, hc⟩ := h.cell (List.getElem?_eq_getElem hlt)
    refine ⟨⟨by omega, by omega⟩, _, hc, _, isPass_pc K ps[k], ?_, fun v K hR => by cases hR.1⟩
    rintro _ K ⟨hx, rfl⟩
    cases hx
    refine ⟨fun hf => ?_, fun hf => ?_⟩
    · refine ⟨(k : Int), rfl, rfl, ?_, by omega, by omega⟩
      rw [any_get_true hlt (by simp at hf; simp [wrongP]; omega)]; simp
    · exact ⟨ps.length - (k + 1), ⟨[(8, sv (some ⟨b, o, none⟩) ps), (9, .int .i64 ps.length), (10, .int .i64 ((k + 1 : Nat) : Int))], []⟩, by omega, by (refine ⟨?_, ?_⟩ <;> repeat' first | exact trivial | exact congrArg (fun x => some (Value.int .i64 x)) (wrap_nat (by omega)) | exact sv_eq (by simp; done) | exact rfl | refine ⟨?_, ?_⟩ | fail), k + 1, by omega, rfl, rfl, rfl, any_take_succ hlt hok (by simp at hf; simp [wrongP]; omega)⟩
  · have hk : k = ps.length := by simp at hge; omega
    subst hk
    rw [List.take_of_length_le (Nat.le_refl _)] at hok
    exact ⟨-1, rfl, rfl, by rw [hok]; rfl, by omega, by omega⟩
theorem OwnG.widen {K : Heap} {lo lo' hi : Nat} {p q r : Option Addr} {g : Graph} (og : OwnG K lo hi p q r g) (h : lo' ≤ lo) : OwnG K lo' hi p q r g := ⟨og.i.wider h, og.s.wider h, og.o.wider h, og.hi_, og.ne⟩
theorem l4all_ec (H : Heap) (p q r l : Option Addr) (g : Graph) (ps : List Int) (hg : RdG H p q r g) (hl : Rd dInt H l ps) (hv : validB g = true) (h50 : ps.length ≤ 50) (hps : ps.any wrongP = false) :
    EC Try.prog 18 [gV p q r g, sv l ps] H (GR H (optG g ps)) := by
  obtain ⟨h1, h2, h3⟩ := valid_lens hv
  refine EC_fn ctx (fun _ => true) Try.func18 rfl rfl rfl ?_
  refine ⟨_, l2copy_ec H p q r g hg (by omega) (by omega) (by omega), ?_, fun v K hR => hR.no.elim⟩
  rintro _ K0 ⟨p1, q1, r1, hx, e0, og⟩
  cases hx
  refine loop_ind ctx (fun _ => true) (fun m E K => ∃ (k : Nat) (p q r : Option Addr), k ≤ ps.length ∧ m = ps.length - k ∧ E = ⟨[(1, sv l ps), (2, .pointer (some ⟨0, 0, some 0⟩)), (4, .pointer (some ⟨1, 0, some 0⟩)), (5, .int .i64 (k : Int))], [[sv p (optG g (ps.take k)).ins, sv q (optG g (ps.take k)).vals, sv r (optG g (ps.take k)).outs], [.slice none 0 0, .slice none 0 0, .slice none 0 0]]⟩ ∧ OwnG K H.next K.next p q r (optG g (ps.take k)) ∧ Ext H K)
    ⟨0, p1, q1, r1, Nat.zero_le _, rfl, rfl, og, e0⟩ (by (refine ⟨?_, ?_⟩ <;> repeat' first | exact trivial | exact congrArg (fun x => some (Value.int .i64 x)) (wrap_nat (by omega)) | exact sv_eq (by simp; done) | exact rfl | refine ⟨?_, ?_⟩ | fail)) ?_
  rintro m E K ⟨k, p, q, r, hk, rfl, rfl, og, e⟩
  have hvk := optG_valid hv (ps.take k)
  refine ⟨fun hlt => ?_, fun hge => ?_⟩
  · have hlt : k < ps.length := by simpa using hlt
    obtain ⟨b, o, rfl, hc⟩ := (hl.mono e).cell (List.getElem?_eq_getElem hlt)
    have hp := any_get_false hlt hps
    have ht := optG_take (g := g) hlt
    refine ⟨.leaf [([0, 1, 2, 3, 4], some 5), ([], some 6), ([], none)] [], by kernel_rfl, ⟨by omega, by omega⟩, _, hc, ?_⟩
    refine ⟨_, l4pass_ec K p q r _ ps[k] og.rd hvk hp.1 hp.2, ?_, fun v K hR => hR.no.elim⟩
    rintro _ K2 ⟨p2, q2, r2, hx, e2, og2⟩
    cases hx
    rw [← ht] at og2
    rw [← ht]
    refine ⟨ps.length - (k + 1), ⟨[(1, sv (some ⟨b, o, none⟩) ps), (2, .pointer (some ⟨0, 0, some 0⟩)), (4, .pointer (some ⟨1, 0, some 0⟩)), (5, .int .i64 ((k + 1 : Nat) : Int))], [[sv p2 (optG g (ps.take (k + 1))).ins, sv q2 (optG g (ps.take (k + 1))).vals, sv r2 (optG g (ps.take (k + 1))).outs], [.slice none 0 0, .slice none 0 0, .slice none 0 0]]⟩, by omega, by (refine ⟨?_, ?_⟩ <;> repeat' first | exact trivial | exact congrArg (fun x => some (Value.int .i64 x)) (wrap_nat (by omega)) | exact sv_eq (by simp; done) | exact rfl | refine ⟨?_, ?_⟩ | fail), k + 1, p2, q2, r2, by omega, rfl, rfl, og2.widen (by have := e.next; omega), e.trans e2⟩
  · have hk : k = ps.length := by simp at hge; omega
    subst hk
    rw [List.take_of_length_le (Nat.le_refl _)] at og ⊢
    exact ⟨p, q, r, rfl, e, og⟩
set_option maxHeartbeats 1000000 in
theorem optimised_ec (H : Heap) (p q r l : Option Addr) (g : Graph) (ps : List Int) (hg : RdG H p q r g) (hl : Rd dInt H l ps) (hv : validB g = true) (h50 : ps.length ≤ 50) (hps : ps.any wrongP = false) :
    EC Try.prog 22 [gV p q r g, sv l ps] H (GR H (optG g ps)) := by
  obtain ⟨h1, h2, h3⟩ := valid_lens hv
  refine EC_fn ctx (fun _ => true) Try.func22 rfl rfl rfl ?_
  refine ⟨_, graphCopy_ec H p q r g hg (by omega) (by omega) (by omega), ?_, fun v K hR => hR.no.elim⟩
  rintro _ K0 ⟨p1, q1, r1, hx, e0, og⟩
  cases hx
  refine loop_ind ctx (fun _ => true) (fun m E K => ∃ (k : Nat) (p q r : Option Addr), k ≤ ps.length ∧ m = ps.length - k ∧ E = ⟨[(2, .pointer (some ⟨0, 0, some 0⟩)), (4, .pointer (some ⟨1, 0, some 0⟩)), (9, sv l ps), (10, .int .i64 ps.length), (11, .int .i64 (k : Int))], [[sv p (optG g (ps.take k)).ins, sv q (optG g (ps.take k)).vals, sv r (optG g (ps.take k)).outs], [.slice none 0 0, .slice none 0 0, .slice none 0 0]]⟩ ∧ OwnG K H.next K.next p q r (optG g (ps.take k)) ∧ Ext H K)
    ⟨0, p1, q1, r1, Nat.zero_le _, rfl, rfl, og, e0⟩ (by (refine ⟨?_, ?_⟩ <;> repeat' first | exact trivial | exact congrArg (fun x => some (Value.int .i64 x)) (wrap_nat (by omega)) | exact sv_eq (by simp; done) | exact rfl | refine ⟨?_, ?_⟩ | fail)) ?_
  rintro m E K ⟨k, p, q, r, hk, rfl, rfl, og, e⟩
  have hvk := optG_valid hv (ps.take k)
  refine ⟨fun hlt => ?_, fun hge => ?_⟩
  · have hlt : k < ps.length := by simpa using hlt
    obtain ⟨b, o, rfl, hc⟩ := (hl.mono e).cell (List.getElem?_eq_getElem hlt)
    have hp := any_get_false hlt hps
    have ht := optG_take (g := g) hlt
    refine ⟨⟨by omega, by omega⟩, _, hc, ?_⟩
    have hpp : ps[k] = 0 ∨ ps[k] = 1 ∨ ps[k] = 2 ∨ ps[k] = 3 ∨ ps[k] = 4 := by omega
    have fin : ∀ {f : Nat} {K2 : Heap} {p2 q2 r2 : Option Addr}, OwnG K2 H.next K2.next p2 q2 r2 (optG g (ps.take (k + 1))) → Out H.next K.next K K2 → OwnG K2 H.next K2.next p2 q2 r2 (optG g (ps.take (k + 1))) ∧ Ext H K2 := fun a b => ⟨a, Out.ext e b⟩
    generalize hpk : ps[k] = pk at *
    rcases hpp with rfl | rfl | rfl | rfl | rfl
    · refine ⟨.leaf [([0, 1, 2, 3], some 4), ([], some 5), ([], none)] [], by kernel_rfl, .agg passFs, passes_pc K, .func (.func 51) #[] #[], ⟨by decide, by decide, rfl⟩, ?_⟩
      refine ⟨_, deadPass_ec K H.next K.next p q r _ hvk og e.next (Nat.le_refl _), ?_, fun v K hR => hR.no.elim⟩
      rintro _ K2 ⟨p2, q2, r2, hx, og2, o2⟩
      cases hx
      have ht2 := ht
      change _ = deadG (optG g (ps.take k)) at ht2
      rw [← ht2] at og2
      rw [← ht2]
      exact ⟨ps.length - (k + 1), ⟨[(2, .pointer (some ⟨0, 0, some 0⟩)), (4, .pointer (some ⟨1, 0, some 0⟩)), (9, sv (some ⟨b, o, none⟩) ps), (10, .int .i64 ps.length), (11, .int .i64 ((k + 1 : Nat) : Int))], [[sv p2 (optG g (ps.take (k + 1))).ins, sv q2 (optG g (ps.take (k + 1))).vals, sv r2 (optG g (ps.take (k + 1))).outs], [.slice none 0 0, .slice none 0 0, .slice none 0 0]]⟩, by omega, by (refine ⟨?_, ?_⟩ <;> repeat' first | exact trivial | exact congrArg (fun x => some (Value.int .i64 x)) (wrap_nat (by omega)) | exact sv_eq (by simp; done) | exact rfl | refine ⟨?_, ?_⟩ | fail), k + 1, p2, q2, r2, by omega, rfl, rfl, og2, Out.ext e o2⟩
    · refine ⟨.leaf [([0, 1, 2, 3], some 4), ([], some 5), ([], none)] [], by kernel_rfl, .agg passFs, passes_pc K, .func (.func 52) #[] #[], ⟨by decide, by decide, rfl⟩, ?_⟩
      refine ⟨_, commonPass_ec K H.next K.next p q r _ hvk og e.next (Nat.le_refl _), ?_, fun v K hR => hR.no.elim⟩
      rintro _ K2 ⟨p2, q2, r2, hx, og2, o2⟩
      cases hx
      have ht2 := ht
      change _ = shared sameCommon (optG g (ps.take k)) at ht2
      rw [← ht2] at og2
      rw [← ht2]
      exact ⟨ps.length - (k + 1), ⟨[(2, .pointer (some ⟨0, 0, some 0⟩)), (4, .pointer (some ⟨1, 0, some 0⟩)), (9, sv (some ⟨b, o, none⟩) ps), (10, .int .i64 ps.length), (11, .int .i64 ((k + 1 : Nat) : Int))], [[sv p2 (optG g (ps.take (k + 1))).ins, sv q2 (optG g (ps.take (k + 1))).vals, sv r2 (optG g (ps.take (k + 1))).outs], [.slice none 0 0, .slice none 0 0, .slice none 0 0]]⟩, by omega, by (refine ⟨?_, ?_⟩ <;> repeat' first | exact trivial | exact congrArg (fun x => some (Value.int .i64 x)) (wrap_nat (by omega)) | exact sv_eq (by simp; done) | exact rfl | refine ⟨?_, ?_⟩ | fail), k + 1, p2, q2, r2, by omega, rfl, rfl, og2, Out.ext e o2⟩
    · refine ⟨.leaf [([0, 1, 2, 3], some 4), ([], some 5), ([], none)] [], by kernel_rfl, .agg passFs, passes_pc K, .func (.func 53) #[] #[], ⟨by decide, by decide, rfl⟩, ?_⟩
      refine ⟨_, foldPass_ec K H.next K.next p q r _ hvk og e.next (Nat.le_refl _), ?_, fun v K hR => hR.no.elim⟩
      rintro _ K2 ⟨p2, q2, r2, hx, og2, o2⟩
      cases hx
      have ht2 := ht
      change _ = foldG (optG g (ps.take k)) at ht2
      rw [← ht2] at og2
      rw [← ht2]
      exact ⟨ps.length - (k + 1), ⟨[(2, .pointer (some ⟨0, 0, some 0⟩)), (4, .pointer (some ⟨1, 0, some 0⟩)), (9, sv (some ⟨b, o, none⟩) ps), (10, .int .i64 ps.length), (11, .int .i64 ((k + 1 : Nat) : Int))], [[sv p2 (optG g (ps.take (k + 1))).ins, sv q2 (optG g (ps.take (k + 1))).vals, sv r2 (optG g (ps.take (k + 1))).outs], [.slice none 0 0, .slice none 0 0, .slice none 0 0]]⟩, by omega, by (refine ⟨?_, ?_⟩ <;> repeat' first | exact trivial | exact congrArg (fun x => some (Value.int .i64 x)) (wrap_nat (by omega)) | exact sv_eq (by simp; done) | exact rfl | refine ⟨?_, ?_⟩ | fail), k + 1, p2, q2, r2, by omega, rfl, rfl, og2, Out.ext e o2⟩
    · refine ⟨.leaf [([0, 1, 2, 3], some 4), ([], some 5), ([], none)] [], by kernel_rfl, .agg passFs, passes_pc K, .func (.func 54) #[] #[], ⟨by decide, by decide, rfl⟩, ?_⟩
      refine ⟨_, negPass_ec K H.next K.next p q r _ hvk og e.next (Nat.le_refl _), ?_, fun v K hR => hR.no.elim⟩
      rintro _ K2 ⟨p2, q2, r2, hx, og2, o2⟩
      cases hx
      have ht2 := ht
      change _ = shared sameNeg (optG g (ps.take k)) at ht2
      rw [← ht2] at og2
      rw [← ht2]
      exact ⟨ps.length - (k + 1), ⟨[(2, .pointer (some ⟨0, 0, some 0⟩)), (4, .pointer (some ⟨1, 0, some 0⟩)), (9, sv (some ⟨b, o, none⟩) ps), (10, .int .i64 ps.length), (11, .int .i64 ((k + 1 : Nat) : Int))], [[sv p2 (optG g (ps.take (k + 1))).ins, sv q2 (optG g (ps.take (k + 1))).vals, sv r2 (optG g (ps.take (k + 1))).outs], [.slice none 0 0, .slice none 0 0, .slice none 0 0]]⟩, by omega, by (refine ⟨?_, ?_⟩ <;> repeat' first | exact trivial | exact congrArg (fun x => some (Value.int .i64 x)) (wrap_nat (by omega)) | exact sv_eq (by simp; done) | exact rfl | refine ⟨?_, ?_⟩ | fail), k + 1, p2, q2, r2, by omega, rfl, rfl, og2, Out.ext e o2⟩
    · refine ⟨.leaf [([0, 1, 2, 3], some 4), ([], some 5), ([], none)] [], by kernel_rfl, .agg passFs, passes_pc K, .func (.func 55) #[] #[], ⟨by decide, by decide, rfl⟩, ?_⟩
      refine ⟨_, unitPass_ec K H.next K.next p q r _ hvk og e.next (Nat.le_refl _), ?_, fun v K hR => hR.no.elim⟩
      rintro _ K2 ⟨p2, q2, r2, hx, og2, o2⟩
      cases hx
      have ht2 := ht
      change _ = shared sameUnit (optG g (ps.take k)) at ht2
      rw [← ht2] at og2
      rw [← ht2]
      exact ⟨ps.length - (k + 1), ⟨[(2, .pointer (some ⟨0, 0, some 0⟩)), (4, .pointer (some ⟨1, 0, some 0⟩)), (9, sv (some ⟨b, o, none⟩) ps), (10, .int .i64 ps.length), (11, .int .i64 ((k + 1 : Nat) : Int))], [[sv p2 (optG g (ps.take (k + 1))).ins, sv q2 (optG g (ps.take (k + 1))).vals, sv r2 (optG g (ps.take (k + 1))).outs], [.slice none 0 0, .slice none 0 0, .slice none 0 0]]⟩, by omega, by (refine ⟨?_, ?_⟩ <;> repeat' first | exact trivial | exact congrArg (fun x => some (Value.int .i64 x)) (wrap_nat (by omega)) | exact sv_eq (by simp; done) | exact rfl | refine ⟨?_, ?_⟩ | fail), k + 1, p2, q2, r2, by omega, rfl, rfl, og2, Out.ext e o2⟩
  · have hk : k = ps.length := by simp at hge; omega
    subst hk
    rw [List.take_of_length_le (Nat.le_refl _)] at og ⊢
    exact ⟨p, q, r, rfl, e, og⟩
theorem specOptimise_ec (H : Heap) (p q r l : Option Addr) (g : Graph) (ps : List Int) (hg : RdG H p q r g) (hl : Rd dInt H l ps) (h1 : g.ins.length ≤ 1048576) (h2 : g.vals.length ≤ 1048576) (h3 : g.outs.length ≤ 1048576) (h4 : ps.length ≤ 1048576) :
    EC Try.prog 5 [gV p q r g, sv l ps] H (RPR H (ov g ps).1 (ov g ps).2) := by
  refine EC_fn ctx (fun t => t != 1000015) Try.func5 rfl rfl rfl ?_
  refine ⟨_, specValid_ec H p q r g hg h2 h1 h3, ?_, fun v K hR => by cases hR.1⟩
  rintro _ K ⟨hx, e1⟩
  cases hx
  refine ⟨fun h => ?_, fun h => ?_⟩
  · have hv : validB g = false := by simpa using h
    exact RPR.zero (c := 1) (by unfold ov; rw [hv]; rfl) e1
  have hv : validB g = true := by simpa using h
  have hl := hl.mono e1
  have hbad : ∀ b : Bool, badB ps = b → ov g ps = if b then (zG, 6) else (optG g ps, 0) := fun b hb => by unfold ov; rw [if_pos hv, hb]
  refine ⟨fun h5 => ?_, fun h5 => ?_⟩
  · have h50 : ¬ 50 < ps.length := by simp at h5; omega
    have hbb : badB ps = ps.any wrongP := by simp [badB, h50]
    refine ⟨_, l4wrongPass_ec K l ps hl h4, ?_, fun v K hR => hR.no.elim⟩
    rintro _ K ⟨n, hx, rfl, hn, _, _⟩
    cases hx
    refine ⟨fun h => ?_, fun h => ?_⟩
    · have hb : badB ps = true := by
        rw [hbb, ← hn]
        simp at h ⊢; omega
      exact RPR.zero (c := 6) (hbad true hb) e1
    · have hb : badB ps = false := by
        rw [hbb, ← hn]
        simp at h ⊢; omega
      refine ⟨_, l4all_ec K p q r l g ps (hg.mono e1) hl hv (by omega) (by rw [← hbb]; exact hb), ?_, fun v K hR => hR.no.elim⟩
      rintro _ K2 ⟨p1, q1, r1, hx, e2, og⟩
      cases hx
      rw [hbad false hb]
      exact ⟨p1, q1, r1, rfl, e1.trans e2, og.widen e1.next⟩
  · have h50 : 50 < ps.length := by simp at h5; omega
    have hb : badB ps = true := by simp [badB, h50]
    refine ⟨by simp; omega, fun h => RPR.zero (c := 6) (hbad true hb) e1, fun h => ?_⟩
    exfalso
    simp at h; omega
theorem implOptimise_ec (H : Heap) (p q r l : Option Addr) (g : Graph) (ps : List Int) (hg : RdG H p q r g) (hl : Rd dInt H l ps) (h1 : g.ins.length ≤ 1048576) (h2 : g.vals.length ≤ 1048576) (h3 : g.outs.length ≤ 1048576) (h4 : ps.length ≤ 1048576) :
    EC Try.prog 8 [gV p q r g, sv l ps] H (RPR H (ov g ps).1 (ov g ps).2) := by
  refine EC_fn ctx (fun _ => true) Try.func8 rfl rfl rfl ?_
  refine ⟨_, implValid_pc H p q r g hg h2 h1 h3, ?_, fun v K hR => by cases hR.1⟩
  rintro _ K ⟨hx, rfl⟩
  cases hx
  refine ⟨fun h => ?_, fun h => ?_⟩
  · have hv : validB g = false := by simpa using h
    exact RPR.zero (c := 1) (by unfold ov; rw [hv]; rfl) (Ext.refl _)
  have hv : validB g = true := by simpa using h
  have hbad : ∀ b : Bool, badB ps = b → ov g ps = if b then (zG, 6) else (optG g ps, 0) := fun b hb => by unfold ov; rw [if_pos hv, hb]
  refine ⟨_, badPass_ec K l ps hl h4, ?_, fun v K hR => hR.no.elim⟩
  rintro _ K ⟨n, hx, rfl, hn, _, _⟩
  cases hx
  refine ⟨fun h => ?_, fun h => ?_⟩
  · have hb : badB ps = true := by rw [← hn]; simpa using h
    exact RPR.zero (c := 6) (hbad true hb) (Ext.refl _)
  · have hb : badB ps = false := by rw [← hn]; simpa using h
    have h50 : ¬ 50 < ps.length := fun h => by simp [badB, h] at hb
    have hbb : badB ps = ps.any wrongP := by simp [badB, h50]
    refine ⟨_, optimised_ec K p q r l g ps hg hl hv (by omega) (by rw [← hbb]; exact hb), ?_, fun v K hR => hR.no.elim⟩
    rintro _ K2 ⟨p1, q1, r1, hx, e2, og⟩
    cases hx
    rw [hbad false hb]
    exact ⟨p1, q1, r1, rfl, e2, og⟩
end Go.Proofs.Ytjmobjiaoklfdaa
