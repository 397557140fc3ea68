/- The abstract machine: one operation of a region, and operations in the order of the text. Conditions: the tables say what the program's own types are (TOK, COK). The abstract machine: regions whose operations stand in the order of the text. Conditions: the tables say what the program's own types are (TOK, COK). -/
import Derived.Test.YtajcbdamgaofcaaDoorAmEff
set_option linter.unusedVariables false
set_option linter.unusedSimpArgs false
namespace Go.Am

def holds (ops : Array Oper) (a : Act) (p : Path) : Prop := ∀ x ∈ p, yielded ops a.tmps x.1 = some x.2

structure RSim (N : Nat) (π : List Nat) (ρ : Rho) (own : Nat → Owner) (ops : Array Oper) (D : Nat → Prop) (rs : RS) (H : Heap) (a : Act) (w : World) : Prop extends Base N π ρ own rs.env.boxes H a w where
  loc : ∀ k e, lk rs.loc k = some e → (holds ops a e.p → TRel π ρ e.v (a.tmps.getD k undef) ∧ e.c = true) ∧ (¬ holds ops a e.p → a.tmps.getD k undef = undef ∧ e.c = false) ∧
    (∀ x ∈ e.p, D x.1 ∧ ∃ d, dstOf ops.toList x.1 = some d ∧ d < N ∧ ∀ i', dstOf ops.toList i' = some d → i' = x.1)
  env : ∀ k v, lk rs.loc k = none → lkT rs.env.tmps k = some v → TRel π ρ v (a.tmps.getD k undef)

theorem onlyOne_spec {d j : Nat} : ∀ (l : List Oper) (i : Nat), onlyOne d j i l = true → ∀ k o, l[k]? = some o → o.dst = some d → i + k = j
  | [], i, _, k, o, h, _ => by simp at h
  | x :: r, i, h, 0, o, ho, hd => by
    simp at ho; subst ho
    simp only [onlyOne, hd] at h
    have hdd : Nat.beq d d = true := by simp
    rw [hdd] at h
    cases hij : Nat.beq i j with
    | true => exact Nat.eq_of_beq_eq_true hij
    | false => rw [hij] at h; cases h
  | x :: r, i, h, k + 1, o, ho, hd => by
    simp at ho
    have h' : onlyOne d j (i + 1) r = true := by
      simp only [onlyOne] at h
      split at h
      · split at h
        · cases h
        · exact h
      · exact h
    have := onlyOne_spec r (i + 1) h' k o ho hd
    omega
theorem gOKl_spec {N : Nat} {ops : List Oper} : ∀ (l : List Oper) (i : Nat), gOKl N ops i l = true → ∀ k o, l[k]? = some o → (∀ d, o.dst = some d → d < N) ∧
    ∀ j w, o.guard = some (j, w) → j < i + k ∧ ∃ d, dstOf ops j = some d ∧ ∀ i', dstOf ops i' = some d → i' = j
  | [], i, _, k, o, h => by simp at h
  | x :: r, i, h, 0, o, ho => by
    simp at ho; subst ho
    simp only [gOKl] at h
    split at h
    · cases h
    · rename_i hd
      refine ⟨fun d e => by rw [e] at hd; exact Nat.blt_eq ▸ hd, fun j w hg => ?_⟩
      rw [hg] at h
      simp only at h
      split at h
      · rename_i d hlt hdj
        split at h
        · rename_i ho
          refine ⟨by have : j < i := Nat.blt_eq ▸ hlt; omega, d, hdj, fun i' hi' => ?_⟩
          unfold dstOf at hi'
          rw [nth_eq] at hi'
          cases hq : ops[i']? with
          | none => rw [hq] at hi'; cases hi'
          | some oi =>
            rw [hq] at hi'
            have := onlyOne_spec ops 0 ho i' oi hq hi'
            omega
        · cases h
      · cases h
  | x :: r, i, h, k + 1, o, ho => by
    simp at ho
    have h' : gOKl N ops (i + 1) r = true := by
      simp only [gOKl] at h
      split at h
      · cases h
      · split at h
        · exact h
        · split at h
          · split at h
            · exact h
            · cases h
          · cases h
    have := gOKl_spec r (i + 1) h' k o ho
    rw [show i + 1 + k = i + (k + 1) by omega] at this
    exact this
theorem gOK_spec {N : Nat} {ops : Array Oper} (h : gOK N ops.toList = true) {i : Nat} {o : Oper} (ho : ops[i]? = some o) : (∀ d, o.dst = some d → d < N) ∧
    ∀ j w, o.guard = some (j, w) → j < i ∧ ∃ d, dstOf ops.toList j = some d ∧ ∀ i', dstOf ops.toList i' = some d → i' = j := by
  have := gOKl_spec ops.toList 0 h i o (by simpa using ho)
  rw [Nat.zero_add] at this
  exact this

theorem dstOf_eq (ops : Array Oper) (j : Nat) : dstOf ops.toList j = (ops[j]?).bind (·.dst) := by
  unfold dstOf
  rw [nth_eq, Array.getElem?_toList]
  cases ops[j]? <;> rfl

theorem sufx_holds {ops : Array Oper} {a : Act} {p : Path} : ∀ {q : Path}, sufx p q = true → holds ops a q → holds ops a p := by
  have heq : ∀ (p q : Path), eqP p q = true → p = q := by
    intro p
    induction p with
    | nil => intro q h; cases q with
      | nil => rfl
      | cons => simp [eqP] at h
    | cons x p ih => intro q h; cases q with
      | nil => simp [eqP] at h
      | cons y q =>
        obtain ⟨i, b⟩ := x
        obtain ⟨j, c⟩ := y
        simp only [eqP] at h
        split at h
        · rename_i hij
          split at h
          · rename_i hbc
            have h1 : i = j := Nat.eq_of_beq_eq_true hij
            have h2 : b = c := by cases b <;> cases c <;> simp [eqB] at hbc <;> rfl
            rw [h1, h2, ih q h]
          · cases h
        · cases h
  intro q
  induction q with
  | nil =>
    intro h _
    simp only [sufx] at h
    split at h
    · exact fun x hx => by cases hx
    · cases h
  | cons y q ih =>
    intro h hq
    simp only [sufx] at h
    split at h
    · rename_i he
      rw [heq _ _ he]; exact hq
    · exact ih h (fun x hx => hq x (by simp [hx]))

section
variable {P : Program} {T : Tab} {C : CTab} {pv : Nat → Bool} {ρ ρ0 : Rho} {own own0 : Nat → Owner} {H : Heap} {w w0 : World} {π : List Nat} {N i : Nat} {a : Act} {ops : Array Oper} {rs : RS} {D : Nat → Prop}

theorem yielded_put {j d dj : Nat} {v : Value} (hj : dstOf ops.toList j = some dj) (h : dj ≠ d) : yielded ops (a.tmps.setIfInBounds d v) j = yielded ops a.tmps j := by
  rw [dstOf_eq] at hj
  simp only [yielded, hj, Option.bind_some]
  rw [Array.getElem?_setIfInBounds_ne (by omega)]

theorem holds_put (S : RSim N π ρ own ops D rs H a w) {o : Oper} (ho : ops[i]? = some o) (hDi : ¬ D i) {k : Nat} {e : Ent} (he : lk rs.loc k = some e) (v : Value) : holds ops (a.put o.dst v) e.p ↔ holds ops a e.p := by
  obtain ⟨_, _, h3⟩ := S.loc k e he
  cases hd : o.dst with
  | none => exact Iff.rfl
  | some d =>
    have key : ∀ x ∈ e.p, yielded ops ((a.put (some d) v).tmps) x.1 = yielded ops a.tmps x.1 := fun x hx => by
      obtain ⟨hlt, dj, hdj, _, hone⟩ := h3 x hx
      refine yielded_put hdj fun e => ?_
      subst e
      have := hone i (by rw [dstOf_eq, ho]; exact hd)
      rw [this] at hDi
      exact hDi hlt
    exact ⟨fun h x hx => by rw [← key x hx]; exact h x hx, fun h x hx => by rw [key x hx]; exact h x hx⟩

/-- What a test's path says. -/
theorem path_spec (hg : gOK N ops.toList = true) (S : RSim N π ρ own ops D rs H a w) {o : Oper} (ho : ops[i]? = some o) (hDg : ∀ j wt, o.guard = some (j, wt) → D j) {p : Path} {c : Bool} (hp : pathOf ops.toList rs o.guard = some (p, c)) :
    (Region.wanted o (yielded ops a.tmps) = true ↔ holds ops a p) ∧ (holds ops a p → c = true) ∧ (¬ holds ops a p → c = false) ∧ (∀ x ∈ p, D x.1 ∧ ∃ d, dstOf ops.toList x.1 = some d ∧ d < N ∧ ∀ i', dstOf ops.toList i' = some d → i' = x.1) := by
  obtain ⟨_, g2⟩ := gOK_spec hg ho
  cases hgd : o.guard with
  | none =>
    rw [hgd] at hp
    cases hp
    refine ⟨?_, fun _ => rfl, fun h => (h (fun x hx => by cases hx)).elim, fun x hx => by cases hx⟩
    simp only [Region.wanted, hgd]
    exact ⟨fun _ x hx => (by cases hx), fun _ => trivial⟩
  | some jw =>
    obtain ⟨j, wt⟩ := jw
    obtain ⟨hji, d', hd', hone⟩ := g2 j wt hgd
    rw [hgd] at hp
    simp only [pathOf] at hp
    split at hp
    · rename_i d hd
      split at hp
      · rename_i t pj cj hl
        cases hp
        rw [hd] at hd'
        have hdd' : d = d' := Option.some.inj hd'
        subst hdd'
        obtain ⟨l1, l2, l3⟩ := S.loc d _ hl
        have hdN : d < N := by
          have hoj : ∃ oj, ops[j]? = some oj ∧ oj.dst = some d := by
            rw [dstOf_eq] at hd
            cases hq : ops[j]? with
            | none => rw [hq] at hd; cases hd
            | some oj => rw [hq] at hd; exact ⟨oj, rfl, hd⟩
          obtain ⟨oj, e1, e2⟩ := hoj
          exact (gOK_spec hg e1).1 d e2
        have hyield : yielded ops a.tmps j = match a.tmps.getD d undef with | .bool b => some b | _ => none := by
          have hdd : (ops[j]?).bind (·.dst) = some d := by rw [← dstOf_eq]; exact hd
          have hsz : d < a.tmps.size := by rw [S.size]; exact hdN
          simp only [yielded, hdd, Option.bind_some, Array.getElem?_eq_getElem hsz]
          have hgd : a.tmps.getD d undef = a.tmps[d] := by simp [Array.getD, hsz]
          rw [hgd]
          cases a.tmps[d] <;> rfl
        have back : yielded ops a.tmps j = some wt → holds ops a pj := fun hy => Classical.byContradiction fun hn => by
          rw [hyield, (l2 hn).1] at hy
          cases hy
        refine ⟨?_, fun hh => ?_, fun hn => ?_, fun x hx => ?_⟩
        · simp only [Region.wanted, hgd, beq_iff_eq]
          exact ⟨fun hy x hx => by
            cases hx with
            | head => exact hy
            | tail _ hx => exact back hy x hx, fun hh => hh (j, wt) (by simp)⟩
        · have hy := hh (j, wt) (by simp)
          obtain ⟨r1, r2⟩ := l1 (back hy)
          simp only at r2
          simp only at hy
          rw [hyield] at hy
          generalize a.tmps.getD d undef = u at r1 hy
          cases r1 with
          | pub r1 =>
            cases r1
            cases hy
            rw [r2]
            cases wt <;> rfl
        · by_cases hpj : holds ops a pj
          · obtain ⟨r1, r2⟩ := l1 hpj
            simp only at r2
            have hne : yielded ops a.tmps j ≠ some wt := fun hy => hn fun x hx => by
              cases hx with
              | head => exact hy
              | tail _ hx => exact hpj x hx
            rw [hyield] at hne
            generalize a.tmps.getD d undef = u at r1 hne
            cases r1 with
            | pub r1 =>
              cases r1
              rw [r2]
              cases wt <;> cases t <;> simp_all
          · have hcf := (l2 hpj).2
            simp only at hcf
            rw [hcf]; rfl
        · cases hx with
          | head => exact ⟨hDg j wt hgd, d, hd, hdN, hone⟩
          | tail _ hx => exact l3 x hx
      · cases hp
    · cases hp

theorem eta_sound (S : RSim N π ρ own ops D rs H a w) {p : Path} (hh : holds ops a p) (x : Operand) (v : Value) (h : eta p rs x = some v) : TRel π ρ v (a.eval x) := by
  cases x with
  | tmp t =>
    simp only [eta] at h
    split at h
    · rename_i e he
      split at h
      · rename_i hs
        cases h
        exact ((S.loc t e he).1 (sufx_holds hs hh)).1
      · cases h
    · rename_i he
      exact S.env t v he h
  | const u => exact .pub (VRel.constV h)
  | global g => cases h
  | func f => cases h; exact .pub (.func f .nil)

theorem etaPick_sound (S : RSim N π ρ own ops D rs H a w) {p : Path} (hh : holds ops a p) {s : Tmp} {t want : Bool} (hsN : s < N) (hs : a.tmps.getD s undef = .bool t) (htw : t = want) (x : Operand) (v : Value) (h : etaPick ops.toList p rs s want x = some v) : TRel π ρ v (a.eval x) := by
  cases x with
  | tmp k =>
    simp only [etaPick] at h
    split at h
    · rename_i e he
      split at h
      · rename_i hsu
        cases h
        exact ((S.loc k e he).1 (sufx_holds hsu hh)).1
      · split at h
        · rename_i j w' p' hep
          split at h
          · rename_i d hw hd hsu
            split at h
            · rename_i hds
              cases h
              have hds : d = s := Nat.eq_of_beq_eq_true hds
              subst hds
              have hww : w' = want := by cases w' <;> cases want <;> simp [eqB] at hw <;> rfl
              refine ((S.loc k e he).1 ?_).1
              rw [hep]
              intro y hy
              cases hy with
              | head =>
                have hdd : (ops[j]?).bind (·.dst) = some d := by rw [← dstOf_eq]; exact hd
                have hsz : d < a.tmps.size := by rw [S.size]; exact hsN
                have hv : a.tmps[d] = .bool t := by simpa [Array.getD, hsz] using hs
                simp only [yielded, hdd, Option.bind_some, Array.getElem?_eq_getElem hsz, hv]
                rw [hww, htw]
              | tail _ hy => exact sufx_holds hsu hh y hy
            · cases h
          · cases h
        · cases h
    · rename_i he
      exact S.env k v he h
  | const u => exact .pub (VRel.constV h)
  | global g => cases h
  | func f => cases h

/-- One more temporary. -/
theorem RSim.put (hg : gOK N ops.toList = true) (S : RSim N π ρ own ops D rs H a w) {o : Oper} (ho : ops[i]? = some o) (hDi : ¬ D i) {D' : Nat → Prop} (hDD : ∀ j, D j → D' j) {π' : List Nat} {ρ' : Rho} {own' : Nat → Owner} {bx' : List (List Value)} {H' : Heap} {w' : World} (B : BW π' ρ' own' bx' H' w')
    (hle : Rho.le ρ ρ') (hπ : ∃ t, π' = π ++ t) (e : Ent) (v' : Value) (h1 : holds ops a e.p → TRel π' ρ' e.v v' ∧ e.c = true) (h2 : ¬ holds ops a e.p → v' = undef ∧ e.c = false) (h3 : ∀ x ∈ e.p, D x.1 ∧ ∃ d, dstOf ops.toList x.1 = some d ∧ d < N ∧ ∀ i', dstOf ops.toList i' = some d → i' = x.1) :
    RSim N π' ρ' own' ops D' (RS.put ⟨rs.loc, ⟨rs.env.tmps, bx'⟩⟩ o.dst e) H' (a.put o.dst v') w' := by
  obtain ⟨t, rfl⟩ := hπ
  have tmono : ∀ {v u : Value}, TRel π ρ v u → TRel (π ++ t) ρ' v u := fun h => by
    cases h with
    | priv hk => exact .priv (by rw [List.getElem?_append_left (List.getElem?_eq_some_iff.1 hk).1]; exact hk)
    | pub h => exact .pub (h.mono hle)
  have hdN := (gOK_spec hg ho).1
  have hold : holds ops (a.put o.dst v') e.p ↔ holds ops a e.p := by
    cases hd : o.dst with
    | none => exact Iff.rfl
    | some d =>
      have key : ∀ x ∈ e.p, yielded ops ((a.put (some d) v').tmps) x.1 = yielded ops a.tmps x.1 := fun x hx => by
        obtain ⟨hlt, dj, hdj, _, hone⟩ := h3 x hx
        refine yielded_put hdj fun e => ?_
        subst e
        have := hone i (by rw [dstOf_eq, ho]; exact hd)
        rw [this] at hDi
        exact hDi hlt
      exact ⟨fun h x hx => by rw [← key x hx]; exact h x hx, fun h x hx => by rw [key x hx]; exact h x hx⟩
  have hbx : (RS.put ⟨rs.loc, ⟨rs.env.tmps, bx'⟩⟩ o.dst e).env = ⟨rs.env.tmps, bx'⟩ := by cases o.dst <;> rfl
  refine { toBW := by rw [hbx]; exact B, defers := ?_, size := ?_, loc := ?_, env := ?_ }
  · cases o.dst <;> exact S.defers
  · cases o.dst <;> simp [Act.put, S.size]
  · intro k e' hk
    cases hd : o.dst with
    | none =>
      rw [hd] at hk
      obtain ⟨l1, l2, l3⟩ := S.loc k e' hk
      exact ⟨fun hh => ⟨tmono (l1 hh).1, (l1 hh).2⟩, l2, fun x hx => by obtain ⟨q1, q2⟩ := l3 x hx; exact ⟨hDD _ q1, q2⟩⟩
    | some d =>
      have hk' : lk ((d, e) :: rs.loc) k = some e' := by rw [hd] at hk; exact hk
      rw [lk_put] at hk'
      rw [← hd]
      split at hk'
      · rename_i hkd
        cases hk'
        subst hkd
        have hlt : k < a.tmps.size := by rw [S.size]; exact hdN k hd
        have hget : (a.put o.dst v').tmps.getD k undef = v' := by rw [hd]; simp [Act.put, Array.getD, hlt]
        rw [hget]
        refine ⟨fun hh => h1 (hold.1 hh), fun hh => h2 (fun q => hh (hold.2 q)), fun x hx => ?_⟩
        obtain ⟨q1, q2⟩ := h3 x hx
        exact ⟨hDD _ q1, q2⟩
      · rename_i hkd
        obtain ⟨l1, l2, l3⟩ := S.loc k e' hk'
        have hp := holds_put S ho hDi hk' v'
        have hget : (a.put o.dst v').tmps.getD k undef = a.tmps.getD k undef := by
          rw [hd]
          simp [Act.put, Array.getElem?_setIfInBounds_ne (Ne.symm hkd)]
        rw [hget]
        exact ⟨fun hh => ⟨tmono (l1 (hp.1 hh)).1, (l1 (hp.1 hh)).2⟩, fun hh => l2 (fun q => hh (hp.2 q)), fun x hx => by obtain ⟨q1, q2⟩ := l3 x hx; exact ⟨hDD _ q1, q2⟩⟩
  · intro k v hk hv
    rw [hbx] at hv
    cases hd : o.dst with
    | none =>
      rw [hd] at hk
      exact tmono (S.env k v hk hv)
    | some d =>
      have hk' : lk ((d, e) :: rs.loc) k = none := by rw [hd] at hk; exact hk
      rw [lk_put] at hk'
      split at hk'
      · cases hk'
      · rename_i hkd
        have hget : (a.put (some d) v').tmps.getD k undef = a.tmps.getD k undef := by
          simp [Act.put, Array.getElem?_setIfInBounds_ne (Ne.symm hkd)]
        rw [hget]
        exact tmono (S.env k v hk' hv)

def eraseP (own : Nat → Owner) : Nat → Owner := fun B => match own B with
  | .priv _ => .none
  | o => o
theorem eraseP_noPriv (own : Nat → Owner) : NoPriv (eraseP own) := fun B k h => by
  unfold eraseP at h
  split at h
  · cases h
  · rename_i o ho; exact ho k h
theorem HRel.erase (h : HRel ρ own H w) : HRel ρ (eraseP own) H w :=
  ⟨h.lt, fun b L cs esz rw_ h1 h2 => by
    obtain ⟨e1, D, T, fz, e2, e3, e4, e5, e6, e7⟩ := h.cells b L cs esz rw_ h1 h2
    exact ⟨e1, D, T, fz, e2, e3, e4, e5, fun hr => ⟨(e6 hr).1, by unfold eraseP; rw [(e6 hr).2]⟩, fun hr => by unfold eraseP; rw [e7 hr]⟩, fun b L kk es h1 h2 => by
    obtain ⟨e1, e2⟩ := h.maps b L kk es h1 h2
    exact ⟨by unfold eraseP; rw [e1], e2⟩⟩
/-- Behind a call the boxes of the walk's own are what they were. -/
def backP (own own' : Nat → Owner) (n : Nat) : Nat → Owner := fun B => if B < n then (match own B with
  | .priv k => .priv k
  | _ => own' B) else own' B
theorem call_back {bx : List (List Value)} {H' : Heap} {ρ' : Rho} {own' : Nat → Owner} {w' : World} (B : BW π ρ own bx H w) (hn0 : NoPriv own0) (g : Guar ρ0 own0 w0 ρ own w) (hr : HRel ρ' own' H' w') (gg : Guar ρ (eraseP own) w ρ' own' w') :
    BW π ρ' (backP own own' w.heap.size) bx H' w' ∧ Guar ρ0 own0 w0 ρ' (backP own own' w.heap.size) w' := by
  have keep : ∀ Bk k, Bk < w.heap.size → own Bk = .priv k → w'.heap[Bk]? = w.heap[Bk]? ∧ own' Bk = .none := fun Bk k h1 h2 => by
    have he : eraseP own Bk = .none := by unfold eraseP; rw [h2]
    obtain ⟨q1, q2⟩ := gg.keep Bk h1 (fun b => by rw [he]; intro h; cases h)
    exact ⟨q1, by rw [q2, he]⟩
  have same : ∀ Bk, (∀ k, own Bk ≠ .priv k) → backP own own' w.heap.size Bk = own' Bk := fun Bk h => by
    unfold backP
    split
    · split
      · rename_i k hk; exact absurd hk (h k)
      · rfl
    · rfl
  refine ⟨⟨⟨hr.lt, fun b L cs esz rw_ h1 h2 => ?_, fun b L kk es h1 h2 => ?_⟩, B.len, fun k cs hk => ?_⟩, Rho.le_trans g.le gg.le, g.ext.trans gg.ext, Nat.le_trans g.size gg.size, fun Bk hB hn => ?_⟩
  · obtain ⟨e1, D, T, fz, e2, e3, e4, e5, e6, e7⟩ := hr.cells b L cs esz rw_ h1 h2
    have hb : backP own own' w.heap.size L.B = own' L.B := by
      unfold backP
      split
      · rename_i hlt
        split
        · rename_i k hk
          have := (keep L.B k hlt hk).2
          cases rw_ with
          | true => have q := (e6 rfl).2; rw [this] at q; cases q
          | false => have q := e7 rfl; rw [this] at q; cases q
        · rfl
      · rfl
    exact ⟨e1, D, T, fz, e2, e3, e4, e5, fun q => by rw [hb]; exact e6 q, fun q => by rw [hb]; exact e7 q⟩
  · have q := hr.maps b L kk es h1 h2
    have hb : backP own own' w.heap.size L.B = own' L.B := by
      unfold backP
      split
      · rename_i hlt
        split
        · rename_i k hk
          have h3 := (keep L.B k hlt hk).2
          have h4 := q.1
          rw [h3] at h4; cases h4
        · rfl
      · rfl
    exact q.mono (Rho.le_refl _) hb rfl
  · obtain ⟨Bk, D, T, e1, e2, e3, e4⟩ := B.box k cs hk
    have hlt := lt_of_some e3
    obtain ⟨q1, q2⟩ := keep Bk k hlt e2
    refine ⟨Bk, D, T, e1, ?_, by rw [q1]; exact e3, e4.mono gg.le⟩
    unfold backP
    rw [if_pos hlt, e2]
  · obtain ⟨q1, q2⟩ := g.keep Bk hB hn
    have hnp : ∀ k, own Bk ≠ .priv k := fun k h => by rw [q2] at h; exact hn0 Bk k h
    have he : eraseP own Bk = own Bk := by
      unfold eraseP
      split
      · rename_i k hk; exact absurd hk (hnp k)
      · rfl
    obtain ⟨q3, q4⟩ := gg.keep Bk (Nat.lt_of_lt_of_le hB g.size) (fun b => by rw [he, q2]; exact hn b)
    exact ⟨by rw [q3, q1], by rw [same Bk hnp, q4, he, q2]⟩

/-- A call. -/
theorem call_sound {bx : List (List Value)} (B : BW π ρ own bx H w) (hn0 : NoPriv own0) (g : Guar ρ0 own0 w0 ρ own w) {o : Oper} {f : FuncId} {args cargs : List Value} (hrun : (execOp a.eval o).run P w = (callFunc f cargs.toArray).run P w) (hargs : VRels ρ args cargs)
    {R : AEnd → Heap → Prop} (he : EC P f args H R) {K' : Act → World → Prop} {Q' : Exit → Act → World → Prop}
    (hret : ∀ v H' ρ' own' v' w', R (.ret v) H' → VRel ρ' v v' → Rho.le ρ ρ' → BW π ρ' own' bx H' w' → Guar ρ0 own0 w0 ρ' own' w' → K' (a.put o.dst v') w')
    (hpan : ∀ v H' ρ' own' v' w', R (.pan v) H' → VRel ρ' v v' → BW π ρ' own' bx H' w' → Guar ρ0 own0 w0 ρ' own' w' → Q' (.panic [⟨v', false, false⟩]) a w') : o.wp P a w K' Q' := by
  have hc := he.run ρ (eraseP own) w cargs B.hrel.erase (eraseP_noPriv own) hargs
  unfold Oper.wp
  rw [hrun]
  unfold CallRun at hc
  generalize (callFunc f cargs.toArray).run P w = r at hc
  cases r with
  | halt x w1 => exact hc.elim
  | ok n w1 =>
    cases n <;> first | exact hc.elim | skip
    case value v1 =>
      obtain ⟨r, H', ρ', own', h1, h2, h3, h4, h5⟩ := hc
      obtain ⟨b1, b2⟩ := call_back B hn0 g h3 h5
      cases r with
      | ret v => exact hret v H' ρ' _ v1 w1 h1 h2 h5.le b1 b2
      | pan v => exact h2.elim
    case enter f' args' =>
      simp only [Oper.upon]
      refine Calls.mono hc fun e w' ⟨r, H', ρ', own', h1, h2, h3, h4, h5⟩ => ?_
      obtain ⟨b1, b2⟩ := call_back B hn0 g h3 h5
      cases e with
      | returned v' =>
        cases r with
        | ret v => exact hret v H' ρ' _ v' w' h1 h2 h5.le b1 b2
        | pan v => exact h2.elim
      | panicked chain =>
        cases r with
        | ret v => exact h2.elim
        | pan v =>
          simp only [ERel] at h2
          split at h2
          · rename_i hq; cases hq
          · rename_i v0 v1 hv hch
            cases hv; cases hch
            exact hpan v H' ρ' _ v1 w' h1 h2 b1 b2
          · exact h2.elim
      | outgrown => cases r <;> exact h2.elim
end
end Go.Am

set_option linter.unusedVariables false
namespace Go.Am

section
variable {P : Program} {T : Tab} {C : CTab} {pv : Nat → Bool} {ρ ρ0 : Rho} {own own0 : Nat → Owner} {H : Heap} {w w0 : World} {π : List Nat} {N i : Nat} {a : Act} {ops : Array Oper} {rs : RS}

theorem BW.noBox {bx : List (List Value)} (b : BW π ρ own bx H w) : BW [] ρ own [] H w := ⟨b.hrel, rfl, fun k cs h => by simp at h⟩

theorem opF_sound {D D' : Nat → Prop} (hDi : ¬ D i) (hDD : ∀ j, D j → D' j) (hT : TOK P T) (hC : COK P C) (hn0 : NoPriv own0) (hg : gOK N ops.toList = true) (S : RSim N π ρ own ops D rs H a w) (g : Guar ρ0 own0 w0 ρ own w) {o : Oper} (ho : ops[i]? = some o) (hDg : ∀ j wt, o.guard = some (j, wt) → D j)
    {K : RS → Heap → Prop} {Qp : Value → Heap → Prop} (h : opF P T C pv ops.toList o rs H K Qp) {K' : Act → World → Prop} {Q' : Exit → Act → World → Prop}
    (hK : ∀ rs' H' π' ρ' own' a' w', K rs' H' → RSim N π' ρ' own' ops D' rs' H' a' w' → Guar ρ0 own0 w0 ρ' own' w' → K' a' w')
    (hp : ∀ v H' ρ' own' v' w', Qp v H' → VRel ρ' v v' → BW [] ρ' own' [] H' w' → Guar ρ0 own0 w0 ρ' own' w' → Q' (.panic [⟨v', false, false⟩]) a w') :
    if Region.wanted o (yielded ops a.tmps) then o.wp P a w K' Q' else K' (a.put o.dst undef) w := by
  unfold opF at h
  split at h
  · exact h.elim
  · rename_i p c hpath
    obtain ⟨hw, hc, hcn, hwf⟩ := path_spec hg S ho hDg hpath
    -- what follows, given a value
    have skip : ∀ v, K (rs.put o.dst ⟨v, p, c⟩) H → ¬ holds ops a p → K' (a.put o.dst undef) w := fun v hk hh =>
      hK _ _ _ _ _ _ _ hk (RSim.put hg S ho hDi hDD S.toBW (Rho.le_refl _) ⟨[], by simp⟩ ⟨v, p, c⟩ undef (fun q => absurd q hh) (fun q => ⟨rfl, hcn q⟩) hwf) g
    have go : ∀ v, K (rs.put o.dst ⟨v, p, c⟩) H → holds ops a p → ∀ v' w', TRel π ρ v v' → Same w w' → K' (a.put o.dst v') w' := fun v hk hh v' w' hr hh' =>
      hK _ _ _ _ _ _ _ hk (RSim.put hg S ho hDi hDD (S.toBW.of_heap hh'.heap) (Rho.le_refl _) ⟨[], by simp⟩ ⟨v, p, c⟩ v' (fun _ => ⟨hr, hc hh⟩) (fun q => absurd hh q) hwf) (g.of_heap hh')
    have fin : ∀ v, K (rs.put o.dst ⟨v, p, c⟩) H → (holds ops a p → ∃ v' w', (execOp a.eval o).run P w = .ok (.value v') w' ∧ TRel π ρ v v' ∧ Same w w') →
        if Region.wanted o (yielded ops a.tmps) then o.wp P a w K' Q' else K' (a.put o.dst undef) w := fun v hk hv => by
      by_cases hh : holds ops a p
      · rw [if_pos (hw.2 hh)]
        obtain ⟨v', w', e1, e2, e3⟩ := hv hh
        unfold Oper.wp
        rw [e1]
        exact go v hk hh v' w' e2 e3
      · rw [if_neg (fun q => hh (hw.1 q))]
        exact skip v hk hh
    split at h
    · -- a choice
      rename_i s x y hop
      split at h
      · rename_i t bx by_ h1 h2 h3
        refine fin _ h fun hh => ?_
        have hs := eta_sound S hh _ _ h1
        have hsN : ∀ u : Bool, a.tmps.getD s undef = .bool u → s < N := fun u e => by
          rcases Nat.lt_or_ge s N with q | q
          · exact q
          · exfalso
            have hsz : a.tmps.size ≤ s := by rw [S.size]; exact q
            rw [show a.tmps.getD s undef = undef by simp [Array.getD, Nat.not_lt.2 hsz]] at e
            cases e
        have hst : a.eval (.tmp s) = .bool t := by
          generalize a.eval (.tmp s) = u at hs
          cases hs with
          | pub hs => cases hs; rfl
        have hst' : a.tmps.getD s undef = .bool t := hst
        have he : (execOp a.eval o).run P w = .ok (.value (if t then a.eval x else a.eval y)) w := by
          simp only [execOp, hop, hst, asBool, pure_bind]; rfl
        refine ⟨_, w, he, ?_, rfl⟩
        cases t with
        | true =>
          have := etaPick_sound S hh (hsN _ hst') hst' rfl x _ h2
          exact this
        | false =>
          have := etaPick_sound S hh (hsN _ hst') hst' rfl y _ h3
          exact this
      · exact h.elim
    · have qs := fun hh : holds ops a p => qval_sound (P := P) (o := o) hT hC S.toBase (fun x _ v hv => eta_sound S hh x v hv)
      generalize hq : qval T C H rs.env.boxes (eta p rs) o.op = r at h qs
      cases r with
      | val v => exact fin v h fun hh => (qs hh).1 v (.inl rfl)
      | ask q v =>
        obtain ⟨h1, h2⟩ := h
        refine fin v h2 fun hh => (qs hh).1 v (.inr (.inl ⟨q, rfl, ?_⟩))
        cases p with
        | nil => exact h1
        | cons y r => exact h1 (hc hh)
      | find q =>
        obtain ⟨v, h1, h2⟩ := h
        refine fin v h2 fun hh => (qs hh).1 v (.inr (.inr ⟨q, rfl, ?_⟩))
        cases p with
        | nil => exact h1
        | cons y r => exact h1 (hc hh)
      | call f args =>
        cases p with
        | nil =>
          have hh : holds ops a [] := fun x hx => by cases hx
          obtain ⟨R, he, h1, h2⟩ := h
          rw [if_pos (hw.2 hh)]
          obtain ⟨cargs, e1, e2⟩ := (qs hh).2 f args rfl
          refine call_sound S.toBW hn0 g e1 e2 he (fun v H' ρ' own' v' w' k1 k2 k3 k4 k5 => ?_) (fun v H' ρ' own' v' w' k1 k2 k4 k5 => ?_)
          · exact hK _ _ _ _ _ _ _ (h1 v H' k1) (RSim.put hg S ho hDi hDD k4 k3 ⟨[], by simp⟩ ⟨v, [], true⟩ v' (fun _ => ⟨.pub k2, rfl⟩) (fun q => absurd hh q) (fun x hx => by cases hx)) k5
          · exact hp v H' ρ' own' v' w' (h2 v H' k1) k2 k4.noBox k5
        | cons y r =>
          dsimp only at h
          cases hsp : spl pv o.dst with
          | false =>
            rw [hsp] at h
            obtain ⟨v, h1, h2⟩ := h
            by_cases hh : holds ops a (y :: r)
            · rw [if_pos (hw.2 hh)]
              obtain ⟨cargs, e1, e2⟩ := (qs hh).2 f args rfl
              refine call_sound S.toBW hn0 g e1 e2 (h1 (hc hh)) (fun v0 H' ρ' own' v' w' k1 k2 k3 k4 k5 => ?_) (fun v0 H' ρ' own' v' w' k1 k2 k4 k5 => ?_)
              · obtain ⟨k1, rfl⟩ := k1
                cases k1
                exact hK _ _ _ _ _ _ _ h2 (RSim.put hg S ho hDi hDD k4 k3 ⟨[], by simp⟩ ⟨v, y :: r, c⟩ v' (fun _ => ⟨.pub k2, hc hh⟩) (fun q => absurd hh q) hwf) k5
              · cases k1.1
            · rw [if_neg (fun q => hh (hw.1 q))]
              exact skip v h2 hh
          | true =>
            rw [hsp] at h
            obtain ⟨h1, h2⟩ := h
            by_cases hh : holds ops a (y :: r)
            · rw [if_pos (hw.2 hh)]
              obtain ⟨R, he, g1, g2⟩ := h1 (hc hh)
              obtain ⟨cargs, e1, e2⟩ := (qs hh).2 f args rfl
              refine call_sound S.toBW hn0 g e1 e2 he (fun v H' ρ' own' v' w' k1 k2 k3 k4 k5 => ?_) (fun v H' ρ' own' v' w' k1 k2 k4 k5 => ?_)
              · exact hK _ _ _ _ _ _ _ (g1 v H' k1) (RSim.put hg S ho hDi hDD k4 k3 ⟨[], by simp⟩ ⟨v, y :: r, c⟩ v' (fun _ => ⟨.pub k2, hc hh⟩) (fun q => absurd hh q) hwf) k5
              · exact hp v H' ρ' own' v' w' (g2 v H' k1) k2 k4.noBox k5
            · rw [if_neg (fun q => hh (hw.1 q))]
              exact skip _ (h2 (hcn hh)) hh
      | eff =>
        cases p with
        | cons y r => exact h.elim
        | nil =>
          have hh : holds ops a [] := fun x hx => by cases hx
          rw [if_pos (hw.2 hh)]
          refine effF_sound hT hC hn0 S.toBW g (fun x _ v hv => eta_sound S hh x v hv) (fun vo bx' H' π' ρ' own' v' w' k1 k2 k3 k4 k5 k6 => ?_) (fun v v' k1 k2 => hp v H ρ own v' w k1 k2 S.toBW.noBox g) h
          cases vo with
          | some v => exact hK _ _ _ _ _ _ _ k1 (RSim.put hg S ho hDi hDD k3 k4 k5 ⟨v, [], true⟩ v' (fun _ => ⟨k2, rfl⟩) (fun q => absurd hh q) (fun x hx => by cases hx)) k6
          | none =>
            have k2' : v' = undef := k2
            subst k2'
            exact hK _ _ _ _ _ _ _ k1 (RSim.put hg S ho hDi hDD k3 k4 k5 ⟨.tuple #[], [], true⟩ undef (fun _ => ⟨.pub (.tuple .nil), rfl⟩) (fun q => absurd hh q) (fun x hx => by cases hx)) k6
      | fail =>
        cases p with
        | nil => exact h.elim
        | cons y r =>
          obtain ⟨h1, h2⟩ := h
          have hh : ¬ holds ops a (y :: r) := fun q => by rw [hc q] at h1; cases h1
          rw [if_neg (fun q => hh (hw.1 q))]
          exact skip _ h2 hh

/-- Operations in the order of the text, from number i on. -/
theorem opsF_sound (hT : TOK P T) (hC : COK P C) (hn0 : NoPriv own0) (hg : gOK N ops.toList = true) {Qp : Value → Heap → Prop} {K : RS → Heap → Prop} {Q' : Exit → Act → World → Prop}
    (hK : ∀ rs' H' π' ρ' own' a' w', K rs' H' → RSim N π' ρ' own' ops (· < ops.size) rs' H' a' w' → Guar ρ0 own0 w0 ρ' own' w' → Q' .normal a' w')
    (hp : ∀ v H' ρ' own' v' a' w', Qp v H' → VRel ρ' v v' → a'.defers = [] → a'.tmps.size = N → BW [] ρ' own' [] H' w' → Guar ρ0 own0 w0 ρ' own' w' → Q' (.panic [⟨v', false, false⟩]) a' w') :
    ∀ (l : List Oper) (i : Nat) (rs : RS) (H : Heap) (π : List Nat) (ρ : Rho) (own : Nat → Owner) (a : Act) (w : World), (∀ j, l[j]? = ops[i + j]?) → i + l.length = ops.size →
      opsF P T C pv ops.toList Qp K l rs H → RSim N π ρ own ops (· < i) rs H a w → Guar ρ0 own0 w0 ρ own w → wpList P ops Q' l a w
  | [], i, rs, H, π, ρ, own, a, w, _, hlen, h, S, g => by
    have : i = ops.size := by simpa using hlen
    subst this
    exact hK rs H π ρ own a w h S g
  | o :: r, i, rs, H, π, ρ, own, a, w, hl, hlen, h, S, g => by
    have ho : ops[i]? = some o := by simpa using (hl 0).symm
    have hstep := opF_sound (D := (· < i)) (D' := (· < i + 1)) (K' := wpList P ops Q' r) (Q' := Q') (Nat.lt_irrefl i) (fun j hj => Nat.lt_succ_of_lt hj) hT hC hn0 hg S g ho (fun j wt e => ((gOK_spec hg ho).2 j wt e).1) h
      (fun rs' H' π' ρ' own' a' w' k1 k2 k3 => opsF_sound hT hC hn0 hg hK hp r (i + 1) rs' H' π' ρ' own' a' w' (fun j => by have := hl (j + 1); simpa [Nat.add_assoc, Nat.add_comm 1 j] using this) (by simp at hlen ⊢; omega) k1 k2 k3)
      (fun v H' ρ' own' v' w' k1 k2 k3 k4 => hp v H' ρ' own' v' a w' k1 k2 S.defers S.size k3 k4)
    unfold wpList
    split
    · rename_i hw; rw [if_pos hw] at hstep; exact .inl hstep
    · rename_i hw; rw [if_neg hw] at hstep; exact hstep

theorem flushL_spec : ∀ (l : List (Nat × Ent)) (ts : List (Nat × Value)) (k : Nat) (v : Value), lkT (RS.flushL l ts) k = some v →
    (lk l k = none ∧ lkT ts k = some v) ∨ (∃ e, lk l k = some e ∧ e.p = [] ∧ e.v = v)
  | [], ts, k, v, h => .inl ⟨rfl, h⟩
  | (d, e) :: r, ts, k, v, h => by
    rw [lk_put]
    simp only [RS.flushL, lkT] at h
    split at h
    · cases h
    · rename_i u hu hl
      cases h
      split at hl
      · rename_i he
        rw [lk_put] at hl
        split at hl
        · rename_i hk
          rw [if_pos hk]
          cases hl
          exact .inr ⟨e, rfl, he, rfl⟩
        · rename_i hk
          rw [if_neg hk]
          refine flushL_spec r ts k v ?_
          unfold lkT; rw [hl]
          cases v <;> first | rfl | exact absurd rfl (hu _)
      · rename_i he
        rw [lk_put] at hl
        split at hl
        · cases hl; exact absurd rfl (hu _)
        · rename_i hk
          rw [if_neg hk]
          refine flushL_spec r ts k v ?_
          unfold lkT; rw [hl]
          cases v <;> first | rfl | exact absurd rfl (hu _)
    · cases h
/-- Behind a region what hangs on no test is kept. -/
theorem flush_sim {D : Nat → Prop} (S : RSim N π ρ own ops D rs H a w) : Sim N π ρ own rs.flush H a w where
  toBase := S.toBase
  tmp := fun k v h => by
    rcases flushL_spec rs.loc rs.env.tmps k v h with ⟨h1, h2⟩ | ⟨e, h1, h2, h3⟩
    · exact S.env k v h1 h2
    · have := ((S.loc k e h1).1 (by rw [h2]; exact fun x hx => by cases hx)).1
      rw [h3] at this; exact this
/-- Ahead of a region. -/
theorem start_sim {D : Nat → Prop} {E : Env} (S : Sim N π ρ own E H a w) : RSim N π ρ own ops D ⟨[], E⟩ H a w where
  toBase := S.toBase
  loc := fun k e h => by cases h
  env := fun k v _ h => S.tmp k v h
end
end Go.Am
