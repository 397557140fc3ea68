/- The abstract machine: regions that draw their order, whose first operations leave the heap alone. Conditions: the tables say what the program's own types are (TOK, COK); the Bool over the region. -/
import Derived.Test.YtjhldpghbnjjmaaAmRegion
set_option linter.unusedVariables false
set_option linter.unusedSimpArgs false
namespace Go.Am

section
variable {P : Program} {T : Tab} {C : CTab} {pv : Nat → Bool} {ρ ρ0 : Rho} {own own0 : Nat → Owner} {H : Heap} {w w0 : World} {π : List Nat} {N i : Nat} {a : Act} {ops : Array Oper} {rs : RS} {D : Nat → Prop}

/-- What the walk of a head says of one operation. -/
def HS (P : Program) (T : Tab) (C : CTab) (ops : List Oper) (H : Heap) (bx : List (List Value)) (loc : List (Nat × Ent)) (ts : List (Nat × Value)) (o : Oper) (e : Ent) : Prop :=
  pathOf ops ⟨loc, ⟨ts, bx⟩⟩ o.guard = some (e.p, e.c) ∧
  ((∃ s x y t b1 b2, o.op = .pick (.tmp s) x y ∧ eta e.p ⟨loc, ⟨ts, bx⟩⟩ (.tmp s) = some (.bool t) ∧ etaPick ops e.p ⟨loc, ⟨ts, bx⟩⟩ s true x = some (.bool b1) ∧ etaPick ops e.p ⟨loc, ⟨ts, bx⟩⟩ s false y = some (.bool b2) ∧ e.v = .bool (cond t b1 b2)) ∨
   (qval T C H bx (eta e.p ⟨loc, ⟨ts, bx⟩⟩) o.op = .val e.v ∨ (∃ q, qval T C H bx (eta e.p ⟨loc, ⟨ts, bx⟩⟩) o.op = .ask q e.v ∧ und e.p e.c q) ∨ (∃ q, qval T C H bx (eta e.p ⟨loc, ⟨ts, bx⟩⟩) o.op = .find q ∧ und e.p e.c (q e.v)) ∨
     (∃ f args, qval T C H bx (eta e.p ⟨loc, ⟨ts, bx⟩⟩) o.op = .call f args ∧ und e.p e.c (PC P f args H e.v))))

/-- How far what is said of an operation reaches: 0: here; 1: to heaps in which all that lives here lives; 2: to every heap. -/
def kOf (lt nx : Bool) : Nat := match lt, nx with
  | false, _ => 0
  | true, true => 1
  | true, false => 2
def HSK (k : Nat) (P : Program) (T : Tab) (C : CTab) (ops : List Oper) (H : Heap) (bx : List (List Value)) (loc : List (Nat × Ent)) (ts : List (Nat × Value)) (o : Oper) (e : Ent) : Prop :=
  pathOf ops ⟨loc, ⟨ts, bx⟩⟩ o.guard = some (e.p, e.c) ∧
  ((∃ s x y t b1 b2, o.op = .pick (.tmp s) x y ∧ eta e.p ⟨loc, ⟨ts, bx⟩⟩ (.tmp s) = some (.bool t) ∧ etaPick ops e.p ⟨loc, ⟨ts, bx⟩⟩ s true x = some (.bool b1) ∧ etaPick ops e.p ⟨loc, ⟨ts, bx⟩⟩ s false y = some (.bool b2) ∧ e.v = .bool (cond t b1 b2)) ∨
   (qval T C H bx (eta e.p ⟨loc, ⟨ts, bx⟩⟩) o.op = .val e.v ∨ (∃ q, qval T C H bx (eta e.p ⟨loc, ⟨ts, bx⟩⟩) o.op = .ask q e.v ∧ und e.p e.c q ∧ (k = 2 → isSlice o.op = false)) ∨ (k ≠ 2 ∧ ∃ q, qval T C H bx (eta e.p ⟨loc, ⟨ts, bx⟩⟩) o.op = .find q ∧ und e.p e.c (q e.v)) ∨
     (∃ f args, qval T C H bx (eta e.p ⟨loc, ⟨ts, bx⟩⟩) o.op = .call f args ∧ und e.p e.c (PC P f args H e.v) ∧ (k ≠ 0 → und e.p e.c (∀ H', PC P f args H' e.v)))))
theorem HSK.hs {k : Nat} {bx : List (List Value)} {loc : List (Nat × Ent)} {ts : List (Nat × Value)} {ol : List Oper} {o : Oper} {e : Ent} (h : HSK k P T C ol H bx loc ts o e) : HS P T C ol H bx loc ts o e := by
  obtain ⟨h1, h2⟩ := h
  refine ⟨h1, ?_⟩
  rcases h2 with h2 | h2 | ⟨q, h2, h3, _⟩ | ⟨_, h2⟩ | ⟨f, args, h2, h3, _⟩
  · exact .inl h2
  · exact .inr (.inl h2)
  · exact .inr (.inr (.inl ⟨q, h2, h3⟩))
  · exact .inr (.inr (.inr (.inl h2)))
  · exact .inr (.inr (.inr (.inr ⟨f, args, h2, h3⟩)))
theorem HSK.weak {bx : List (List Value)} {loc : List (Nat × Ent)} {ts : List (Nat × Value)} {ol : List Oper} {o : Oper} {e : Ent} (h : HSK 2 P T C ol H bx loc ts o e) : HSK 1 P T C ol H bx loc ts o e := by
  obtain ⟨h1, h2⟩ := h
  refine ⟨h1, ?_⟩
  rcases h2 with h2 | h2 | ⟨q, h2, h3, _⟩ | ⟨h2, _⟩ | ⟨f, args, h2, h3, h4⟩
  · exact .inl h2
  · exact .inr (.inl h2)
  · exact .inr (.inr (.inl ⟨q, h2, h3, fun h => by cases h⟩))
  · exact absurd rfl h2
  · exact .inr (.inr (.inr (.inr ⟨f, args, h2, h3, fun _ => h4 (by decide)⟩)))
/-- Boxes are only added. -/
def BxExt (bx bx' : List (List Value)) : Prop := ∀ k cs, nth bx k = some cs → nth bx' k = some cs
theorem BxExt.refl (bx : List (List Value)) : BxExt bx bx := fun _ _ h => h
theorem Ext.cell' {H H' : Heap} (e : Ext H H') {b o : Nat} {v : Value} (h : H.cell? b o = some v) : H'.cell? b o = some v := by
  unfold Heap.cell? at *
  split at h
  · rename_i cs _ _ hb; rw [e.same _ _ hb]; exact h
  · cases h
theorem Ext.run' {H H' : Heap} (e : Ext H H') {b o n : Nat} {l : List Value} (h : H.run? b o n = some l) : H'.run? b o n = some l := by
  unfold Heap.run? at *
  split at h
  · rename_i cs _ _ hb; rw [e.same _ _ hb]; exact h
  · cases h
theorem Ext.aggAt' {H H' : Heap} (e : Ext H H') {b o n : Nat} {v : Value} (h : H.aggAt b o n v) : H'.aggAt b o n v := by
  unfold Heap.aggAt at *
  split at h
  · exact e.run' h
  · exact h.elim
/-- What an operation that leaves the heap alone says of later heaps. -/
def RExt (sl : Bool) (E : Prop) : Res → Res → Prop
  | .val v, r' => r' = .val v
  | .ask q v, r' => ∃ q', r' = .ask q' v ∧ ((sl = false ∨ E) → q → q')
  | .find q, r' => ∃ q', r' = .find q' ∧ (E → ∀ v, q v → q' v)
  | .call f args, r' => r' = .call f args
  | _, _ => True
theorem RExt.refl (sl : Bool) (E : Prop) (r : Res) : RExt sl E r r := by
  cases r with
  | val v => exact rfl
  | ask q v => exact ⟨q, rfl, fun _ h => h⟩
  | find q => exact ⟨q, rfl, fun _ _ h => h⟩
  | call f args => exact rfl
  | eff => trivial
  | fail => trivial
theorem qval_ext {H' : Heap} {bx bx' : List (List Value)} (hb : BxExt bx bx') {η : Operand → Option Value} {op : Op} : RExt (isSlice op) (Ext H H') (qval T C H bx η op) (qval T C H' bx' η op) := by
  cases op
  case load t x =>
    simp only [qval]
    generalize T t = ti
    generalize η x = xv
    cases ti with
    | none => trivial
    | some i =>
      cases xv with
      | none => trivial
      | some u =>
        simp only
        unfold loadA
        split
        · rename_i k o sp
          cases hk : nth bx k with
          | none => trivial
          | some cs => rw [hb _ _ hk]; exact RExt.refl _ _ _
        · rename_i b o
          cases i.agg with
          | true => exact ⟨_, rfl, fun e v h => e.aggAt' h⟩
          | false => exact ⟨_, rfl, fun e v h => e.cell' h⟩
        · trivial
  case slice t x lo hi mx =>
    cases mx with
    | some m => exact RExt.refl _ _ _
    | none =>
      simp only [qval]
      generalize η x = xv
      cases xv with
      | none => trivial
      | some u =>
        simp only
        unfold sliceA
        split
        · exact RExt.refl _ _ _
        · split
          · split
            · refine ⟨_, rfl, fun e h => ?_⟩
              rcases e with e | e
              · cases e
              · obtain ⟨h1, h2, h3, cs, rw_, h4⟩ := h
                exact ⟨h1, h2, h3, cs, rw_, e.same _ _ h4⟩
            · trivial
          · trivial
        · trivial
  all_goals exact RExt.refl _ _ _
theorem und_mono {p : Path} {c : Bool} {q q' : Prop} (hq : q → q') (h : und p c q) : und p c q' := by
  cases p with
  | nil => exact hq h
  | cons => exact fun hc => hq (h hc)
theorem pathOf_bx {ol : List Oper} {loc : List (Nat × Ent)} {ts : List (Nat × Value)} {bx bx' : List (List Value)} (g : Option (Nat × Bool)) : pathOf ol ⟨loc, ⟨ts, bx⟩⟩ g = pathOf ol ⟨loc, ⟨ts, bx'⟩⟩ g := rfl
theorem HSK.ext {k : Nat} (hk : k = 1 ∨ k = 2) {H' : Heap} {bx bx' : List (List Value)} (hb : BxExt bx bx') (he : k = 1 → Ext H H') {loc : List (Nat × Ent)} {ts : List (Nat × Value)} {ol : List Oper} {o : Oper} {e : Ent}
    (h : HSK k P T C ol H bx loc ts o e) : HSK k P T C ol H' bx' loc ts o e := by
  obtain ⟨h1, h2⟩ := h
  refine ⟨h1, ?_⟩
  have key : RExt (isSlice o.op) (Ext H H') (qval T C H bx (eta e.p ⟨loc, ⟨ts, bx⟩⟩) o.op) (qval T C H' bx' (eta e.p ⟨loc, ⟨ts, bx'⟩⟩) o.op) := qval_ext hb
  rcases h2 with h2 | h2 | ⟨q, h2, h3, h4⟩ | ⟨h2, q, h3, h4⟩ | ⟨f, args, h2, h3, h4⟩
  · exact .inl h2
  · rw [h2] at key
    exact .inr (.inl key)
  · rw [h2] at key
    obtain ⟨q', k1, k2⟩ := key
    refine .inr (.inr (.inl ⟨q', k1, und_mono (k2 ?_) h3, h4⟩))
    rcases hk with hk | hk
    · exact .inr (he hk)
    · exact .inl (h4 hk)
  · rw [h3] at key
    obtain ⟨q', k1, k2⟩ := key
    rcases hk with hk | hk
    · exact .inr (.inr (.inr (.inl ⟨h2, q', k1, und_mono (k2 (he hk) _) h4⟩)))
    · exact absurd hk h2
  · rw [h2] at key
    have hk0 : k ≠ 0 := by rcases hk with hk | hk <;> rw [hk] <;> decide
    exact .inr (.inr (.inr (.inr ⟨f, args, key, und_mono (fun h => h H') (h4 hk0), h4⟩)))

theorem headF_spec {o : Oper} {lt nx : Bool} {K : Bool → RS → Prop} (h : headF P T C ops.toList o lt nx rs H K) : ∃ e nx', HSK (kOf lt nx') P T C ops.toList H rs.env.boxes rs.loc rs.env.tmps o e ∧ (nx = true → nx' = true) ∧ K nx' (rs.put o.dst e) := by
  unfold headF at h
  split at h
  · exact h.elim
  · rename_i p c hp
    split at h
    · rename_i s x y hop
      split at h
      · rename_i t b1 b2 h1 h2 h3
        exact ⟨⟨.bool (cond t b1 b2), p, c⟩, nx, ⟨hp, .inl ⟨s, x, y, t, b1, b2, hop, h1, h2, h3, rfl⟩⟩, id, h⟩
      · exact h.elim
    · generalize hq : qval T C H rs.env.boxes (eta p rs) o.op = r at h
      cases r with
      | val v => exact ⟨⟨v, p, c⟩, nx, ⟨hp, .inr (.inl hq)⟩, id, h⟩
      | ask q v =>
        cases lt with
        | false => exact ⟨⟨v, p, c⟩, nx, ⟨hp, .inr (.inr (.inl ⟨q, hq, h.1, fun e => by cases e⟩))⟩, id, h.2⟩
        | true =>
          cases hs : isSlice o.op with
          | true =>
            rw [hs] at h
            exact ⟨⟨v, p, c⟩, true, ⟨hp, .inr (.inr (.inl ⟨q, hq, h.1, fun e => by cases e⟩))⟩, fun _ => rfl, h.2⟩
          | false =>
            rw [hs] at h
            exact ⟨⟨v, p, c⟩, nx, ⟨hp, .inr (.inr (.inl ⟨q, hq, h.1, fun _ => hs⟩))⟩, id, h.2⟩
      | find q =>
        obtain ⟨v, h1, h2⟩ := h
        cases lt with
        | false => exact ⟨⟨v, p, c⟩, nx, ⟨hp, .inr (.inr (.inr (.inl ⟨by simp [kOf], q, hq, h1⟩)))⟩, id, h2⟩
        | true => exact ⟨⟨v, p, c⟩, true, ⟨hp, .inr (.inr (.inr (.inl ⟨by simp [kOf], q, hq, h1⟩)))⟩, fun _ => rfl, h2⟩
      | call f args =>
        cases lt with
        | true =>
          obtain ⟨v, h1, h2⟩ := h
          exact ⟨⟨v, p, c⟩, nx, ⟨hp, .inr (.inr (.inr (.inr ⟨f, args, hq, und_mono (fun h => h H) h1, fun _ => h1⟩)))⟩, id, h2⟩
        | false =>
          obtain ⟨v, h1, h2⟩ := h
          exact ⟨⟨v, p, c⟩, nx, ⟨hp, .inr (.inr (.inr (.inr ⟨f, args, hq, h1, fun h => absurd rfl h⟩)))⟩, id, h2⟩
      | eff => exact h.elim
      | fail => exact h.elim

theorem und_of {p : Path} {c : Bool} {q : Prop} (h : und p c q) (hc : c = true) : q := by
  cases p with
  | nil => exact h
  | cons => exact h hc

/-- Whenever it comes up, an operation of a head does what the walk says. -/
theorem HS_sound (hT : TOK P T) (hC : COK P C) (hn0 : NoPriv own0) (hg : gOK N ops.toList = true) (S : RSim N π ρ own ops D rs H a w) (g : Guar ρ0 own0 w0 ρ own w) {o : Oper} (ho : ops[i]? = some o) (hDi : ¬ D i) (hDg : ∀ j wt, o.guard = some (j, wt) → D j)
    {e : Ent} (h : HS P T C ops.toList H rs.env.boxes rs.loc rs.env.tmps o e) {D' : Nat → Prop} (hDD : ∀ j, D j → D' j) {K' : Act → World → Prop} {Q' : Exit → Act → World → Prop}
    (hK : ∀ ρ' own' a' w', RSim N π ρ' own' ops D' (rs.put o.dst e) H a' w' → Guar ρ0 own0 w0 ρ' own' w' → K' a' w') :
    if Region.wanted o (yielded ops a.tmps) then o.wp P a w K' Q' else K' (a.put o.dst undef) w := by
  obtain ⟨v, p, c⟩ := e
  obtain ⟨hpath, h⟩ := h
  obtain ⟨hw, hc, hwf⟩ := path_spec hg S ho hDg hpath
  by_cases hh : holds ops a p
  · rw [if_pos (hw.2 hh)]
    have go : ∀ v' ρ' own' w', TRel π ρ' v v' → BW π ρ' own' rs.env.boxes H w' → Rho.le ρ ρ' → Guar ρ0 own0 w0 ρ' own' w' → K' (a.put o.dst v') w' := fun v' ρ' own' w' k1 k2 k3 k4 =>
      hK _ _ _ _ (RSim.put hg S ho hDi hDD k2 k3 ⟨[], by simp⟩ ⟨v, p, c⟩ v' (fun _ => ⟨k1, hc hh⟩) (fun q => absurd hh q) hwf) k4
    have qs := qval_sound (P := P) (o := o) hT hC S.toBase (fun x _ v hv => eta_sound S hh x v hv)
    have fin : (∃ v' w', (execOp a.eval o).run P w = .ok (.value v') w' ∧ TRel π ρ v v' ∧ Same w w') → o.wp P a w K' Q' := fun ⟨v', w', e1, e2, e3⟩ => by
      unfold Oper.wp
      rw [e1]
      exact go v' ρ own w' e2 (S.toBW.of_heap e3.heap) (Rho.le_refl _) (g.of_heap e3)
    rcases h with ⟨s, x, y, t, b1, b2, hop, h1, h2, h3, hv⟩ | h | ⟨q, h1, h2⟩ | ⟨q, h1, h2⟩ | ⟨f, args, h1, h2⟩
    · simp only at hv
      subst hv
      have hs := eta_sound S hh _ _ h1
      have hst : a.tmps.getD s undef = .bool t := by
        have : a.eval (.tmp s) = .bool t := by
          generalize a.eval (.tmp s) = u at hs
          cases hs with
          | pub hs => cases hs; rfl
        exact this
      have hsN : s < N := by
        rcases Nat.lt_or_ge s N with q | q
        · exact q
        · exfalso
          have hsz : a.tmps.size ≤ s := by rw [S.size]; exact q
          rw [show a.tmps.getD s undef = undef by simp [Array.getD, Nat.not_lt.2 hsz]] at hst
          cases hst
      have he : (execOp a.eval o).run P w = .ok (.value (if t then a.eval x else a.eval y)) w := by
        have hev : a.eval (.tmp s) = .bool t := hst
        simp only [execOp, hop, hev, asBool, pure_bind]; rfl
      refine fin ⟨_, w, he, ?_, rfl⟩
      cases t with
      | true => exact etaPick_sound S hh hsN hst rfl x _ h2
      | false => exact etaPick_sound S hh hsN hst rfl y _ h3
    · exact fin (qs.1 v (.inl h))
    · exact fin (qs.1 v (.inr (.inl ⟨q, h1, und_of h2 (hc hh)⟩)))
    · exact fin (qs.1 v (.inr (.inr ⟨q, h1, und_of h2 (hc hh)⟩)))
    · obtain ⟨cargs, e1, e2⟩ := qs.2 f args h1
      refine call_sound S.toBW hn0 g e1 e2 (und_of h2 (hc hh)) (fun v0 H' ρ' own' v' w' k1 k2 k3 k4 k5 => ?_) (fun v0 H' ρ' own' v' w' k1 k2 k4 k5 => ?_)
      · obtain ⟨k1, rfl⟩ := k1
        cases k1
        exact go v' ρ' own' w' (.pub k2) k4 k3 k5
      · cases k1.1
  · rw [if_neg (fun q => hh (hw.1 q))]
    exact hK _ _ _ _ (RSim.put hg S ho hDi hDD S.toBW (Rho.le_refl _) ⟨[], by simp⟩ ⟨v, p, c⟩ undef (fun q => absurd q hh) (fun _ => rfl) hwf) g

/-! The same operation over other lists that agree where it looks. -/
theorem evs_congr {η η' : Operand → Option Value} : ∀ (l : List Operand), (∀ x ∈ l, η x = η' x) → evs η l = evs η' l
  | [], _ => rfl
  | x :: r, h => by simp only [evs, h x (by simp), evs_congr r (fun y hy => h y (by simp [hy]))]
theorem fillA_congr {place : Nat → Option (Nat × Nat)} {η η' : Operand → Option Value} : ∀ (l : List (Nat × Operand)) (cs : List Value), (∀ x ∈ l, η x.2 = η' x.2) → fillA place η l cs = fillA place η' l cs
  | [], _, _ => rfl
  | (i, x) :: r, cs, h => by
    simp only [fillA, h (i, x) (by simp)]
    split
    · split
      · split
        · exact fillA_congr r _ (fun y hy => h y (by simp [hy]))
        · rfl
      · rfl
    · rfl
theorem qval_congr {bx : List (List Value)} {η η' : Operand → Option Value} {op : Op} (h : ∀ x ∈ op.operands, η x = η' x) : qval T C H bx η op = qval T C H bx η' op := by
  cases op <;> simp only [Op.operands] at h <;> simp only [qval]
  case move x => rw [h x (by simp)]
  case assign x => rw [h x (by simp)]
  case fieldAddr s x f => rw [h x (by simp)]
  case field s x f => rw [h x (by simp)]
  case load t x => rw [h x (by simp)]
  case indexAddr t x i => rw [h x (by simp), h i (by simp)]
  case index t x i => rw [h x (by simp), h i (by simp)]
  case nilCheck x => rw [h x (by simp)]
  case binOp op t x y u => rw [h x (by simp), h y (by simp)]
  case unOp op t x => rw [h x (by simp)]
  case convert s d x => rw [h x (by simp)]
  case extract x i => rw [h x (by simp)]
  case makeInterface t x => rw [h x (by simp)]
  case build t ps =>
    have hp : ∀ x ∈ ps.toList, η x.2 = η' x.2 := fun x hx => h x.2 (by simp only [List.mem_toArray, List.mem_map]; exact ⟨x, hx, rfl⟩)
    simp only [fillA_congr ps.toList _ hp]
  case makeFunc fn first cap => rw [evs_congr cap.toList (fun x hx => h x (by simp; exact .inr (by simpa using hx)))]
  case slice t x lo hi mx =>
    cases mx with
    | some m => rfl
    | none =>
      have h1 : lo.map η = lo.map η' := by
        cases lo with
        | none => rfl
        | some y => simp [h y (by simp)]
      have h2 : hi.map η = hi.map η' := by
        cases hi with
        | none => rfl
        | some y => simp [h y (by simp)]
      simp only [h x (by simp), h1, h2]
  case call c =>
    obtain ⟨callee, as_, ts⟩ := c
    have ha : ∀ x ∈ as_.toList, η x = η' x := fun x hx => h x (by simp [Call.operands]; exact .inr (by simpa using hx))
    simp only [callA]
    cases callee with
    | builtin b =>
      simp only
      split
      · rename_i x t hx ht
        rw [ha x (by rw [hx]; simp)]
      · rfl
    | value g => simp only [h g (by simp [Call.operands]), evs_congr as_.toList ha]
    | invoke r m => rfl

theorem mem_looks {o : Oper} {t : Tmp} (h : Operand.tmp t ∈ o.op.operands) : t ∈ o.looksAt ops := by
  unfold Oper.looksAt
  refine List.mem_append.2 (.inl ?_)
  exact List.mem_filterMap.2 ⟨.tmp t, by simpa using h, rfl⟩
theorem guard_looks {o : Oper} {j : Nat} {b : Bool} {d : Tmp} (h : o.guard = some (j, b)) (hd : (ops[j]?).bind (·.dst) = some d) : d ∈ o.looksAt ops := by
  unfold Oper.looksAt
  refine List.mem_append.2 (.inr ?_)
  simp [h, hd]

theorem HSK_congr {k : Nat} {bx : List (List Value)} {loc loc' : List (Nat × Ent)} {ts : List (Nat × Value)} {o : Oper} {e : Ent} (hl : ∀ t ∈ o.looksAt ops, lk loc t = lk loc' t) (h : HSK k P T C ops.toList H bx loc ts o e) : HSK k P T C ops.toList H bx loc' ts o e := by
  have hη : ∀ x ∈ o.op.operands, eta e.p ⟨loc, ⟨ts, bx⟩⟩ x = eta e.p ⟨loc', ⟨ts, bx⟩⟩ x := fun x hx => by
    cases x with
    | tmp t => simp only [eta, hl t (mem_looks hx)]
    | _ => rfl
  have hpk : ∀ s want x, x ∈ o.op.operands → etaPick ops.toList e.p ⟨loc, ⟨ts, bx⟩⟩ s want x = etaPick ops.toList e.p ⟨loc', ⟨ts, bx⟩⟩ s want x := fun s want x hx => by
    cases x with
    | tmp t => simp only [etaPick, hl t (mem_looks hx)]
    | _ => rfl
  obtain ⟨h1, h2⟩ := h
  refine ⟨?_, ?_⟩
  · rw [← h1]
    cases hgd : o.guard with
    | none => rfl
    | some jw =>
      obtain ⟨j, b⟩ := jw
      simp only [pathOf]
      cases hd : dstOf ops.toList j with
      | none => rfl
      | some d => simp only [hl d (guard_looks hgd (by rw [← dstOf_eq]; exact hd))]
  · rw [← qval_congr hη]
    rcases h2 with ⟨s, x, y, t, b1, b2, hop, k1, k2, k3, hv⟩ | h2
    · refine .inl ⟨s, x, y, t, b1, b2, hop, ?_, ?_, ?_, hv⟩
      · rw [← hη _ (by rw [hop]; simp [Op.operands])]; exact k1
      · rw [← hpk _ _ _ (by rw [hop]; simp [Op.operands])]; exact k2
      · rw [← hpk _ _ _ (by rw [hop]; simp [Op.operands])]; exact k3
    · exact .inr h2
end
end Go.Am
