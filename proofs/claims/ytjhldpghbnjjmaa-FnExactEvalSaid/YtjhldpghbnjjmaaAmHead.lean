/- The abstract machine: regions that draw their order, whose first operations leave the heap alone. Conditions: the tables say what the program's own types are (TOK, COK); the Bool over the region. The abstract machine: whatever order is drawn, a region comes to what the walk in the plan's order says. Conditions: the tables say what the program's own types are (TOK, COK); the Bool over the region. -/
import Derived.Test.YtjhldpghbnjjmaaAmRegion
set_option linter.unusedVariables false
set_option linter.unusedSimpArgs false
namespace Go.Am

section
variable {P : Program} {T : Tab} {C : CTab} {pv : Nat → Bool} {ρ ρ0 : Rho} {own own0 : Nat → Owner} {H : Heap} {w w0 : World} {π : List Nat} {N i : Nat} {a : Act} {ops : Array Oper} {rs : RS} {D : Nat → Prop}

/-- What the walk of a head says of one operation. -/
def HS (P : Program) (T : Tab) (C : CTab) (ops : List Oper) (H : Heap) (bx : List (List Value)) (loc : List (Nat × Ent)) (ts : List (Nat × Value)) (o : Oper) (e : Ent) : Prop :=
  pathOf ops ⟨loc, ⟨ts, bx⟩⟩ o.guard = some (e.p, e.c) ∧
  ((∃ s x y t b1 b2, o.op = .pick (.tmp s) x y ∧ eta e.p ⟨loc, ⟨ts, bx⟩⟩ (.tmp s) = some (.bool t) ∧ etaPick ops e.p ⟨loc, ⟨ts, bx⟩⟩ s true x = some (.bool b1) ∧ etaPick ops e.p ⟨loc, ⟨ts, bx⟩⟩ s false y = some (.bool b2) ∧ e.v = .bool (cond t b1 b2)) ∨
   (qval T C H bx (eta e.p ⟨loc, ⟨ts, bx⟩⟩) o.op = .val e.v ∨ (∃ q, qval T C H bx (eta e.p ⟨loc, ⟨ts, bx⟩⟩) o.op = .ask q e.v ∧ und e.p e.c q) ∨ (∃ q, qval T C H bx (eta e.p ⟨loc, ⟨ts, bx⟩⟩) o.op = .find q ∧ und e.p e.c (q e.v)) ∨
     (∃ f args, qval T C H bx (eta e.p ⟨loc, ⟨ts, bx⟩⟩) o.op = .call f args ∧ und e.p e.c (PC P f args H e.v))))

/-- How far what is said of an operation reaches: 0: here; 1: to heaps in which all that lives here lives; 2: to every heap. -/
def kOf (lt nx : Bool) : Nat := match lt, nx with
  | false, _ => 0
  | true, true => 1
  | true, false => 2
def HSK (k : Nat) (P : Program) (T : Tab) (C : CTab) (ops : List Oper) (H : Heap) (bx : List (List Value)) (loc : List (Nat × Ent)) (ts : List (Nat × Value)) (o : Oper) (e : Ent) : Prop :=
  pathOf ops ⟨loc, ⟨ts, bx⟩⟩ o.guard = some (e.p, e.c) ∧
  ((∃ s x y t b1 b2, o.op = .pick (.tmp s) x y ∧ eta e.p ⟨loc, ⟨ts, bx⟩⟩ (.tmp s) = some (.bool t) ∧ etaPick ops e.p ⟨loc, ⟨ts, bx⟩⟩ s true x = some (.bool b1) ∧ etaPick ops e.p ⟨loc, ⟨ts, bx⟩⟩ s false y = some (.bool b2) ∧ e.v = .bool (cond t b1 b2)) ∨
   (qval T C H bx (eta e.p ⟨loc, ⟨ts, bx⟩⟩) o.op = .val e.v ∨ (∃ q, qval T C H bx (eta e.p ⟨loc, ⟨ts, bx⟩⟩) o.op = .ask q e.v ∧ und e.p e.c q ∧ (k = 2 → isSlice o.op = false)) ∨ (k ≠ 2 ∧ ∃ q, qval T C H bx (eta e.p ⟨loc, ⟨ts, bx⟩⟩) o.op = .find q ∧ und e.p e.c (q e.v)) ∨
     (∃ f args, qval T C H bx (eta e.p ⟨loc, ⟨ts, bx⟩⟩) o.op = .call f args ∧ und e.p e.c (PC P f args H e.v) ∧ (k ≠ 0 → und e.p e.c (∀ H', PC P f args H' e.v)))))
theorem HSK.hs {k : Nat} {bx : List (List Value)} {loc : List (Nat × Ent)} {ts : List (Nat × Value)} {ol : List Oper} {o : Oper} {e : Ent} (h : HSK k P T C ol H bx loc ts o e) : HS P T C ol H bx loc ts o e := by
  obtain ⟨h1, h2⟩ := h
  refine ⟨h1, ?_⟩
  rcases h2 with h2 | h2 | ⟨q, h2, h3, _⟩ | ⟨_, h2⟩ | ⟨f, args, h2, h3, _⟩
  · exact .inl h2
  · exact .inr (.inl h2)
  · exact .inr (.inr (.inl ⟨q, h2, h3⟩))
  · exact .inr (.inr (.inr (.inl h2)))
  · exact .inr (.inr (.inr (.inr ⟨f, args, h2, h3⟩)))
theorem HSK.weak {bx : List (List Value)} {loc : List (Nat × Ent)} {ts : List (Nat × Value)} {ol : List Oper} {o : Oper} {e : Ent} (h : HSK 2 P T C ol H bx loc ts o e) : HSK 1 P T C ol H bx loc ts o e := by
  obtain ⟨h1, h2⟩ := h
  refine ⟨h1, ?_⟩
  rcases h2 with h2 | h2 | ⟨q, h2, h3, _⟩ | ⟨h2, _⟩ | ⟨f, args, h2, h3, h4⟩
  · exact .inl h2
  · exact .inr (.inl h2)
  · exact .inr (.inr (.inl ⟨q, h2, h3, fun h => by cases h⟩))
  · exact absurd rfl h2
  · exact .inr (.inr (.inr (.inr ⟨f, args, h2, h3, fun _ => h4 (by decide)⟩)))
/-- Boxes are only added. -/
def BxExt (bx bx' : List (List Value)) : Prop := ∀ k cs, nth bx k = some cs → nth bx' k = some cs
theorem BxExt.refl (bx : List (List Value)) : BxExt bx bx := fun _ _ h => h
theorem Ext.cell' {H H' : Heap} (e : Ext H H') {b o : Nat} {v : Value} (h : H.cell? b o = some v) : H'.cell? b o = some v := by
  unfold Heap.cell? at *
  split at h
  · rename_i cs _ _ hb; rw [e.same _ _ hb]; exact h
  · cases h
theorem Ext.run' {H H' : Heap} (e : Ext H H') {b o n : Nat} {l : List Value} (h : H.run? b o n = some l) : H'.run? b o n = some l := by
  unfold Heap.run? at *
  split at h
  · rename_i cs _ _ hb; rw [e.same _ _ hb]; exact h
  · cases h
theorem Ext.aggAt' {H H' : Heap} (e : Ext H H') {b o n : Nat} {v : Value} (h : H.aggAt b o n v) : H'.aggAt b o n v := by
  unfold Heap.aggAt at *
  split at h
  · exact e.run' h
  · exact h.elim
/-- What an operation that leaves the heap alone says of later heaps. -/
def RExt (sl : Bool) (E : Prop) : Res → Res → Prop
  | .val v, r' => r' = .val v
  | .ask q v, r' => ∃ q', r' = .ask q' v ∧ ((sl = false ∨ E) → q → q')
  | .find q, r' => ∃ q', r' = .find q' ∧ (E → ∀ v, q v → q' v)
  | .call f args, r' => r' = .call f args
  | _, _ => True
theorem RExt.refl (sl : Bool) (E : Prop) (r : Res) : RExt sl E r r := by
  cases r with
  | val v => exact rfl
  | ask q v => exact ⟨q, rfl, fun _ h => h⟩
  | find q => exact ⟨q, rfl, fun _ _ h => h⟩
  | call f args => exact rfl
  | eff => trivial
  | fail => trivial
theorem qval_ext {H' : Heap} {bx bx' : List (List Value)} (hb : BxExt bx bx') {η : Operand → Option Value} {op : Op} : RExt (isSlice op) (Ext H H') (qval T C H bx η op) (qval T C H' bx' η op) := by
  cases op
  case load t x =>
    simp only [qval]
    generalize T t = ti
    generalize η x = xv
    cases ti with
    | none => trivial
    | some i =>
      cases xv with
      | none => trivial
      | some u =>
        simp only
        unfold loadA
        split
        · rename_i k o sp
          cases hk : nth bx k with
          | none => trivial
          | some cs => rw [hb _ _ hk]; exact RExt.refl _ _ _
        · rename_i b o
          cases i.agg with
          | true => exact ⟨_, rfl, fun e v h => e.aggAt' h⟩
          | false => exact ⟨_, rfl, fun e v h => e.cell' h⟩
        · trivial
  case slice t x lo hi mx =>
    cases mx with
    | some m => exact RExt.refl _ _ _
    | none =>
      simp only [qval]
      generalize η x = xv
      cases xv with
      | none => trivial
      | some u =>
        simp only
        unfold sliceA
        split
        · exact RExt.refl _ _ _
        · split
          · split
            · refine ⟨_, rfl, fun e h => ?_⟩
              rcases e with e | e
              · cases e
              · obtain ⟨h1, h2, h3, cs, rw_, h4⟩ := h
                exact ⟨h1, h2, h3, cs, rw_, e.same _ _ h4⟩
            · trivial
          · trivial
        · trivial
  all_goals exact RExt.refl _ _ _
theorem und_mono {p : Path} {c : Bool} {q q' : Prop} (hq : q → q') (h : und p c q) : und p c q' := by
  cases p with
  | nil => exact hq h
  | cons => exact fun hc => hq (h hc)
theorem pathOf_bx {ol : List Oper} {loc : List (Nat × Ent)} {ts : List (Nat × Value)} {bx bx' : List (List Value)} (g : Option (Nat × Bool)) : pathOf ol ⟨loc, ⟨ts, bx⟩⟩ g = pathOf ol ⟨loc, ⟨ts, bx'⟩⟩ g := rfl
theorem HSK.ext {k : Nat} (hk : k = 1 ∨ k = 2) {H' : Heap} {bx bx' : List (List Value)} (hb : BxExt bx bx') (he : k = 1 → Ext H H') {loc : List (Nat × Ent)} {ts : List (Nat × Value)} {ol : List Oper} {o : Oper} {e : Ent}
    (h : HSK k P T C ol H bx loc ts o e) : HSK k P T C ol H' bx' loc ts o e := by
  obtain ⟨h1, h2⟩ := h
  refine ⟨h1, ?_⟩
  have key : RExt (isSlice o.op) (Ext H H') (qval T C H bx (eta e.p ⟨loc, ⟨ts, bx⟩⟩) o.op) (qval T C H' bx' (eta e.p ⟨loc, ⟨ts, bx'⟩⟩) o.op) := qval_ext hb
  rcases h2 with h2 | h2 | ⟨q, h2, h3, h4⟩ | ⟨h2, q, h3, h4⟩ | ⟨f, args, h2, h3, h4⟩
  · exact .inl h2
  · rw [h2] at key
    exact .inr (.inl key)
  · rw [h2] at key
    obtain ⟨q', k1, k2⟩ := key
    refine .inr (.inr (.inl ⟨q', k1, und_mono (k2 ?_) h3, h4⟩))
    rcases hk with hk | hk
    · exact .inr (he hk)
    · exact .inl (h4 hk)
  · rw [h3] at key
    obtain ⟨q', k1, k2⟩ := key
    rcases hk with hk | hk
    · exact .inr (.inr (.inr (.inl ⟨h2, q', k1, und_mono (k2 (he hk) _) h4⟩)))
    · exact absurd hk h2
  · rw [h2] at key
    have hk0 : k ≠ 0 := by rcases hk with hk | hk <;> rw [hk] <;> decide
    exact .inr (.inr (.inr (.inr ⟨f, args, key, und_mono (fun h => h H') (h4 hk0), h4⟩)))

theorem headF_spec {o : Oper} {lt nx : Bool} {K : Bool → RS → Prop} (h : headF P T C ops.toList o lt nx rs H K) : ∃ e nx', HSK (kOf lt nx') P T C ops.toList H rs.env.boxes rs.loc rs.env.tmps o e ∧ (nx = true → nx' = true) ∧ K nx' (rs.put o.dst e) := by
  unfold headF at h
  split at h
  · exact h.elim
  · rename_i p c hp
    split at h
    · rename_i s x y hop
      split at h
      · rename_i t b1 b2 h1 h2 h3
        exact ⟨⟨.bool (cond t b1 b2), p, c⟩, nx, ⟨hp, .inl ⟨s, x, y, t, b1, b2, hop, h1, h2, h3, rfl⟩⟩, id, h⟩
      · exact h.elim
    · generalize hq : qval T C H rs.env.boxes (eta p rs) o.op = r at h
      cases r with
      | val v => exact ⟨⟨v, p, c⟩, nx, ⟨hp, .inr (.inl hq)⟩, id, h⟩
      | ask q v =>
        cases lt with
        | false => exact ⟨⟨v, p, c⟩, nx, ⟨hp, .inr (.inr (.inl ⟨q, hq, h.1, fun e => by cases e⟩))⟩, id, h.2⟩
        | true =>
          cases hs : isSlice o.op with
          | true =>
            rw [hs] at h
            exact ⟨⟨v, p, c⟩, true, ⟨hp, .inr (.inr (.inl ⟨q, hq, h.1, fun e => by cases e⟩))⟩, fun _ => rfl, h.2⟩
          | false =>
            rw [hs] at h
            exact ⟨⟨v, p, c⟩, nx, ⟨hp, .inr (.inr (.inl ⟨q, hq, h.1, fun _ => hs⟩))⟩, id, h.2⟩
      | find q =>
        obtain ⟨v, h1, h2⟩ := h
        cases lt with
        | false => exact ⟨⟨v, p, c⟩, nx, ⟨hp, .inr (.inr (.inr (.inl ⟨by simp [kOf], q, hq, h1⟩)))⟩, id, h2⟩
        | true => exact ⟨⟨v, p, c⟩, true, ⟨hp, .inr (.inr (.inr (.inl ⟨by simp [kOf], q, hq, h1⟩)))⟩, fun _ => rfl, h2⟩
      | call f args =>
        cases lt with
        | true =>
          obtain ⟨v, h1, h2⟩ := h
          exact ⟨⟨v, p, c⟩, nx, ⟨hp, .inr (.inr (.inr (.inr ⟨f, args, hq, und_mono (fun h => h H) h1, fun _ => h1⟩)))⟩, id, h2⟩
        | false =>
          obtain ⟨v, h1, h2⟩ := h
          exact ⟨⟨v, p, c⟩, nx, ⟨hp, .inr (.inr (.inr (.inr ⟨f, args, hq, h1, fun h => absurd rfl h⟩)))⟩, id, h2⟩
      | eff => exact h.elim
      | fail => exact h.elim

theorem und_of {p : Path} {c : Bool} {q : Prop} (h : und p c q) (hc : c = true) : q := by
  cases p with
  | nil => exact h
  | cons => exact h hc

/-- Whenever it comes up, an operation of a head does what the walk says. -/
theorem HS_sound (hT : TOK P T) (hC : COK P C) (hn0 : NoPriv own0) (hg : gOK N ops.toList = true) (S : RSim N π ρ own ops D rs H a w) (g : Guar ρ0 own0 w0 ρ own w) {o : Oper} (ho : ops[i]? = some o) (hDi : ¬ D i) (hDg : ∀ j wt, o.guard = some (j, wt) → D j)
    {e : Ent} (h : HS P T C ops.toList H rs.env.boxes rs.loc rs.env.tmps o e) {D' : Nat → Prop} (hDD : ∀ j, D j → D' j) {K' : Act → World → Prop} {Q' : Exit → Act → World → Prop}
    (hK : ∀ ρ' own' a' w', RSim N π ρ' own' ops D' (rs.put o.dst e) H a' w' → Guar ρ0 own0 w0 ρ' own' w' → K' a' w') :
    if Region.wanted o (yielded ops a.tmps) then o.wp P a w K' Q' else K' (a.put o.dst undef) w := by
  obtain ⟨v, p, c⟩ := e
  obtain ⟨hpath, h⟩ := h
  obtain ⟨hw, hc, hwf⟩ := path_spec hg S ho hDg hpath
  by_cases hh : holds ops a p
  · rw [if_pos (hw.2 hh)]
    have go : ∀ v' ρ' own' w', TRel π ρ' v v' → BW π ρ' own' rs.env.boxes H w' → Rho.le ρ ρ' → Guar ρ0 own0 w0 ρ' own' w' → K' (a.put o.dst v') w' := fun v' ρ' own' w' k1 k2 k3 k4 =>
      hK _ _ _ _ (RSim.put hg S ho hDi hDD k2 k3 ⟨[], by simp⟩ ⟨v, p, c⟩ v' (fun _ => ⟨k1, hc hh⟩) (fun q => absurd hh q) hwf) k4
    have qs := qval_sound (P := P) (o := o) hT hC S.toBase (fun x _ v hv => eta_sound S hh x v hv)
    have fin : (∃ v' w', (execOp a.eval o).run P w = .ok (.value v') w' ∧ TRel π ρ v v' ∧ Same w w') → o.wp P a w K' Q' := fun ⟨v', w', e1, e2, e3⟩ => by
      unfold Oper.wp
      rw [e1]
      exact go v' ρ own w' e2 (S.toBW.of_heap e3.heap) (Rho.le_refl _) (g.of_heap e3)
    rcases h with ⟨s, x, y, t, b1, b2, hop, h1, h2, h3, hv⟩ | h | ⟨q, h1, h2⟩ | ⟨q, h1, h2⟩ | ⟨f, args, h1, h2⟩
    · simp only at hv
      subst hv
      have hs := eta_sound S hh _ _ h1
      have hst : a.tmps.getD s undef = .bool t := by
        have : a.eval (.tmp s) = .bool t := by
          generalize a.eval (.tmp s) = u at hs
          cases hs with
          | pub hs => cases hs; rfl
        exact this
      have hsN : s < N := by
        rcases Nat.lt_or_ge s N with q | q
        · exact q
        · exfalso
          have hsz : a.tmps.size ≤ s := by rw [S.size]; exact q
          rw [show a.tmps.getD s undef = undef by simp [Array.getD, Nat.not_lt.2 hsz]] at hst
          cases hst
      have he : (execOp a.eval o).run P w = .ok (.value (if t then a.eval x else a.eval y)) w := by
        have hev : a.eval (.tmp s) = .bool t := hst
        simp only [execOp, hop, hev, asBool, pure_bind]; rfl
      refine fin ⟨_, w, he, ?_, rfl⟩
      cases t with
      | true => exact etaPick_sound S hh hsN hst rfl x _ h2
      | false => exact etaPick_sound S hh hsN hst rfl y _ h3
    · exact fin (qs.1 v (.inl h))
    · exact fin (qs.1 v (.inr (.inl ⟨q, h1, und_of h2 (hc hh)⟩)))
    · exact fin (qs.1 v (.inr (.inr ⟨q, h1, und_of h2 (hc hh)⟩)))
    · obtain ⟨cargs, e1, e2⟩ := qs.2 f args h1
      refine call_sound S.toBW hn0 g e1 e2 (und_of h2 (hc hh)) (fun v0 H' ρ' own' v' w' k1 k2 k3 k4 k5 => ?_) (fun v0 H' ρ' own' v' w' k1 k2 k4 k5 => ?_)
      · obtain ⟨k1, rfl⟩ := k1
        cases k1
        exact go v' ρ' own' w' (.pub k2) k4 k3 k5
      · cases k1.1
  · rw [if_neg (fun q => hh (hw.1 q))]
    exact hK _ _ _ _ (RSim.put hg S ho hDi hDD S.toBW (Rho.le_refl _) ⟨[], by simp⟩ ⟨v, p, c⟩ undef (fun q => absurd q hh) (fun _ => rfl) hwf) g

/-! The same operation over other lists that agree where it looks. -/
theorem evs_congr {η η' : Operand → Option Value} : ∀ (l : List Operand), (∀ x ∈ l, η x = η' x) → evs η l = evs η' l
  | [], _ => rfl
  | x :: r, h => by simp only [evs, h x (by simp), evs_congr r (fun y hy => h y (by simp [hy]))]
theorem fillA_congr {place : Nat → Option (Nat × Nat)} {η η' : Operand → Option Value} : ∀ (l : List (Nat × Operand)) (cs : List Value), (∀ x ∈ l, η x.2 = η' x.2) → fillA place η l cs = fillA place η' l cs
  | [], _, _ => rfl
  | (i, x) :: r, cs, h => by
    simp only [fillA, h (i, x) (by simp)]
    split
    · split
      · split
        · exact fillA_congr r _ (fun y hy => h y (by simp [hy]))
        · rfl
      · rfl
    · rfl
theorem qval_congr {bx : List (List Value)} {η η' : Operand → Option Value} {op : Op} (h : ∀ x ∈ op.operands, η x = η' x) : qval T C H bx η op = qval T C H bx η' op := by
  cases op <;> simp only [Op.operands] at h <;> simp only [qval]
  case move x => rw [h x (by simp)]
  case assign x => rw [h x (by simp)]
  case fieldAddr s x f => rw [h x (by simp)]
  case field s x f => rw [h x (by simp)]
  case load t x => rw [h x (by simp)]
  case indexAddr t x i => rw [h x (by simp), h i (by simp)]
  case index t x i => rw [h x (by simp), h i (by simp)]
  case nilCheck x => rw [h x (by simp)]
  case binOp op t x y u => rw [h x (by simp), h y (by simp)]
  case unOp op t x => rw [h x (by simp)]
  case convert s d x => rw [h x (by simp)]
  case extract x i => rw [h x (by simp)]
  case makeInterface t x => rw [h x (by simp)]
  case build t ps =>
    have hp : ∀ x ∈ ps.toList, η x.2 = η' x.2 := fun x hx => h x.2 (by simp only [List.mem_toArray, List.mem_map]; exact ⟨x, hx, rfl⟩)
    simp only [fillA_congr ps.toList _ hp]
  case makeFunc fn first cap => rw [evs_congr cap.toList (fun x hx => h x (by simp; exact .inr (by simpa using hx)))]
  case slice t x lo hi mx =>
    cases mx with
    | some m => rfl
    | none =>
      have h1 : lo.map η = lo.map η' := by
        cases lo with
        | none => rfl
        | some y => simp [h y (by simp)]
      have h2 : hi.map η = hi.map η' := by
        cases hi with
        | none => rfl
        | some y => simp [h y (by simp)]
      simp only [h x (by simp), h1, h2]
  case call c =>
    obtain ⟨callee, as_, ts⟩ := c
    have ha : ∀ x ∈ as_.toList, η x = η' x := fun x hx => h x (by simp [Call.operands]; exact .inr (by simpa using hx))
    simp only [callA]
    cases callee with
    | builtin b =>
      simp only
      split
      · rename_i x t hx ht
        rw [ha x (by rw [hx]; simp)]
      · rfl
    | value g => simp only [h g (by simp [Call.operands]), evs_congr as_.toList ha]
    | invoke r m => rfl

theorem mem_looks {o : Oper} {t : Tmp} (h : Operand.tmp t ∈ o.op.operands) : t ∈ o.looksAt ops := by
  unfold Oper.looksAt
  refine List.mem_append.2 (.inl ?_)
  exact List.mem_filterMap.2 ⟨.tmp t, by simpa using h, rfl⟩
theorem guard_looks {o : Oper} {j : Nat} {b : Bool} {d : Tmp} (h : o.guard = some (j, b)) (hd : (ops[j]?).bind (·.dst) = some d) : d ∈ o.looksAt ops := by
  unfold Oper.looksAt
  refine List.mem_append.2 (.inr ?_)
  simp [h, hd]

theorem HSK_congr {k : Nat} {bx : List (List Value)} {loc loc' : List (Nat × Ent)} {ts : List (Nat × Value)} {o : Oper} {e : Ent} (hl : ∀ t ∈ o.looksAt ops, lk loc t = lk loc' t) (h : HSK k P T C ops.toList H bx loc ts o e) : HSK k P T C ops.toList H bx loc' ts o e := by
  have hη : ∀ x ∈ o.op.operands, eta e.p ⟨loc, ⟨ts, bx⟩⟩ x = eta e.p ⟨loc', ⟨ts, bx⟩⟩ x := fun x hx => by
    cases x with
    | tmp t => simp only [eta, hl t (mem_looks hx)]
    | _ => rfl
  have hpk : ∀ s want x, x ∈ o.op.operands → etaPick ops.toList e.p ⟨loc, ⟨ts, bx⟩⟩ s want x = etaPick ops.toList e.p ⟨loc', ⟨ts, bx⟩⟩ s want x := fun s want x hx => by
    cases x with
    | tmp t => simp only [etaPick, hl t (mem_looks hx)]
    | _ => rfl
  obtain ⟨h1, h2⟩ := h
  refine ⟨?_, ?_⟩
  · rw [← h1]
    cases hgd : o.guard with
    | none => rfl
    | some jw =>
      obtain ⟨j, b⟩ := jw
      simp only [pathOf]
      cases hd : dstOf ops.toList j with
      | none => rfl
      | some d => simp only [hl d (guard_looks hgd (by rw [← dstOf_eq]; exact hd))]
  · rw [← qval_congr hη]
    rcases h2 with ⟨s, x, y, t, b1, b2, hop, k1, k2, k3, hv⟩ | h2
    · refine .inl ⟨s, x, y, t, b1, b2, hop, ?_, ?_, ?_, hv⟩
      · rw [← hη _ (by rw [hop]; simp [Op.operands])]; exact k1
      · rw [← hpk _ _ _ (by rw [hop]; simp [Op.operands])]; exact k2
      · rw [← hpk _ _ _ (by rw [hop]; simp [Op.operands])]; exact k3
    · exact .inr h2
end
end Go.Am

set_option linter.unusedVariables false
namespace Go.Am

section
variable {P : Program} {T : Tab} {C : CTab} {pv : Nat → Bool} {ρ ρ0 : Rho} {own own0 : Nat → Owner} {H : Heap} {w w0 : World} {π : List Nat} {N i : Nat} {a : Act} {ops : Array Oper}

/-- An operation waits for another, through others too. -/
inductive Reach (ops : Array Oper) : Nat → Nat → Prop
  | one {j i : Nat} (h : Region.waitsFor .any ops j i = true) : Reach ops j i
  | more {j m i : Nat} (h : Reach ops j m) (h' : Region.waitsFor .any ops m i = true) : Reach ops j i
theorem needL_spec {ops : Array Oper} {j : Nat} : ∀ (m : Nat) (acc : List Nat), (∀ x ∈ acc, x = j ∨ Reach ops j x) → ∀ x ∈ needL ops m acc, x = j ∨ Reach ops j x
  | 0, acc, h, x, hx => h x hx
  | m + 1, acc, h, x, hx => by
    refine needL_spec m _ ?_ x hx
    intro y hy
    split at hy
    · rename_i ha
      rcases List.mem_cons.1 hy with rfl | hy
      · obtain ⟨k, hk, hw⟩ := List.any_eq_true.1 ha
        rcases h k hk with rfl | hr
        · exact .inr (.one hw)
        · exact .inr (.more hr hw)
      · exact h y hy
    · exact h y hy
/-- What the Bool over a region says. -/
structure PF (ops : Array Oper) (pl : Plan) (late : List Nat) : Prop where
  pos : 0 < pl.length
  tot : ∀ (i : Nat) (o : Oper), ops[i]? = some o → ∃ p fx, findPl 0 pl i = some (p, fx)
  dep : ∀ (i : Nat) (o : Oper) (p : Nat) (fx : Bool), ops[i]? = some o → findPl 0 pl i = some (p, fx) → ∀ e ∈ o.after, Region.binds .any e = true → (fx = false → e.on < i) ∧ ∃ p' fx', findPl 0 pl e.on = some (p', fx') ∧ p' + fx'.toNat ≤ p
  tight : ∀ (i : Nat) (o : Oper) (p : Nat), ops[i]? = some o → findPl 0 pl i = some (p, false) → p = 0 ∨ ∃ e ∈ o.after, Region.binds .any e = true ∧ ∃ p' fx', findPl 0 pl e.on = some (p', fx') ∧ p' + fx'.toNat = p
  hit : ∀ (i j : Nat) (oi oj : Oper) (d : Tmp), ops[i]? = some oi → ops[j]? = some oj → oj.dst = some d → d ∈ oi.looksAt ops → (j < i ∧ Region.waitsFor .any ops i j = true) ∨ (i < j ∧ Region.waitsFor .any ops j i = true)
  dst : ∀ (i j : Nat) (oi oj : Oper) (d : Tmp), ops[i]? = some oi → ops[j]? = some oj → oi.dst = some d → oj.dst = some d → i = j
  ord : ∀ i j p k, i < ops.size → j < ops.size → findPl 0 pl i = some (p, false) → memN i late = false → findPl 0 pl j = some (k, true) → p ≤ k → Reach ops j i
  store : ∀ (i : Nat) (o : Oper) (p : Nat), ops[i]? = some o → findPl 0 pl i = some (p, true) → late = [] ∨ isStore o.op = false
  phase : ∀ p, p < pl.length → phaseB ops pl p = true

theorem planOK_spec {ops : Array Oper} {pl : Plan} {late : List Nat} (h : planOK ops pl late = true) : PF ops pl late := by
  unfold planOK at h
  simp only [Bool.and_eq_true, decide_eq_true_eq, List.all_eq_true, List.mem_range] at h
  obtain ⟨⟨h0, h1⟩, h2⟩ := h
  have key : ∀ (i : Nat) (o : Oper), ops[i]? = some o → ∃ p fx, findPl 0 pl i = some (p, fx) ∧ depsB pl o i p fx = true ∧ tightB pl o p fx = true ∧ ((List.range ops.size).all fun j => pairB ops pl late i p fx j) = true ∧ (!fx || late.isEmpty || !isStore o.op) = true := fun i o ho => by
    have := h2 i (Array.getElem?_eq_some_iff.1 ho).1
    unfold planOp at this
    rw [ho] at this
    split at this
    · rename_i p fx o' h1 h2
      cases h2
      simp only [Bool.and_eq_true] at this
      exact ⟨p, fx, h1, this.1.1.1, this.1.1.2, this.1.2, this.2⟩
    · cases this
  have get : ∀ (i : Nat) (o : Oper) (p : Nat) (fx : Bool), ops[i]? = some o → findPl 0 pl i = some (p, fx) → depsB pl o i p fx = true ∧ tightB pl o p fx = true ∧ ((List.range ops.size).all fun j => pairB ops pl late i p fx j) = true ∧ (!fx || late.isEmpty || !isStore o.op) = true := fun i o p fx ho hp => by
    obtain ⟨p', fx', k0, k1⟩ := key i o ho
    rw [hp] at k0
    cases k0
    exact k1
  refine ⟨h0, fun i o ho => by obtain ⟨p, fx, k, _⟩ := key i o ho; exact ⟨p, fx, k⟩, fun i o p fx ho hp e he hb => ?_, fun i o p ho hp => ?_, fun i j oi oj d hoi hoj hd hm => ?_, fun i j oi oj d hoi hoj hd hd' => ?_, fun i j p k hi hj hp hl hk hpk => ?_, fun i o p ho hp => ?_, h1⟩
  · have := (get i o p fx ho hp).1
    unfold depsB at this
    have := List.all_eq_true.1 this e (by simpa using he)
    rw [hb] at this
    simp only [Bool.not_true, Bool.false_or, Bool.and_eq_true, Bool.or_eq_true, decide_eq_true_eq] at this
    refine ⟨fun hfx => by rcases this.1 with h | h; (rw [hfx] at h; cases h); exact h, ?_⟩
    have h2 := this.2
    split at h2
    · rename_i p' fx' hq; exact ⟨p', fx', hq, by simpa using h2⟩
    · cases h2
  · have := (get i o p false ho hp).2.1
    unfold tightB at this
    simp only [Bool.false_or, Bool.or_eq_true, decide_eq_true_eq] at this
    rcases this with this | this
    · exact .inl this
    · obtain ⟨e, he, hb⟩ := List.any_eq_true.1 this
      simp only [Bool.and_eq_true] at hb
      obtain ⟨hb, h2⟩ := hb
      split at h2
      · rename_i p' fx' hq; exact .inr ⟨e, by simpa using he, hb, p', fx', hq, by simpa using h2⟩
      · cases h2
  · obtain ⟨p, fx, hp, _⟩ := key i oi hoi
    have := List.all_eq_true.1 (get i oi p fx hoi hp).2.2.1 j (List.mem_range.2 (Array.getElem?_eq_some_iff.1 hoj).1)
    simp only [pairB, Bool.and_eq_true] at this
    have := this.1.1
    have hhit : hitB ops i j = true := by unfold hitB; simp [hoi, hoj, hd, hm]
    rw [hhit] at this
    simp only [Bool.not_true, Bool.false_or] at this
    split at this
    · rename_i hlt; exact .inl ⟨hlt, this⟩
    · simp at this; exact .inr this
  · obtain ⟨p, fx, hp, _⟩ := key i oi hoi
    have := List.all_eq_true.1 (get i oi p fx hoi hp).2.2.1 j (List.mem_range.2 (Array.getElem?_eq_some_iff.1 hoj).1)
    simp only [pairB, Bool.and_eq_true] at this
    have := this.1.2
    have hs : sameDst ops i j = true := by unfold sameDst; simp [hoi, hoj, hd, hd']
    rw [hs] at this
    simpa using this
  · have := List.all_eq_true.1 (get i ops[i] p false (by simp [hi]) hp).2.2.1 j (List.mem_range.2 hj)
    simp only [pairB, Bool.and_eq_true] at this
    have := this.2
    rw [hl, hk] at this
    simp [hpk] at this
    rcases needL_spec j [j] (fun x hx => .inl (by simpa using hx)) i (by simpa using this.2) with h | h
    · exact absurd h this.1
    · exact h
  · have := (get i o p true ho hp).2.2.2
    simp only [Bool.not_true, Bool.false_or, Bool.or_eq_true, List.isEmpty_iff] at this
    rcases this with h | h
    · exact .inl h
    · exact .inr (by simpa using h)

def cntU (listed : Array Bool) : Nat → Nat
  | 0 => 0
  | k + 1 => cntU listed k + (if listed.getD k true then 0 else 1)
theorem cntU_set_ge {listed : Array Bool} {i : Nat} : ∀ k, k ≤ i → cntU (listed.setIfInBounds i true) k = cntU listed k
  | 0, _ => rfl
  | k + 1, h => by simp only [cntU]; rw [cntU_set_ge k (by omega), getD_set_ne true (by omega)]
theorem cntU_set {listed : Array Bool} {i : Nat} (hu : listed.getD i true = false) : ∀ k, i < k → cntU (listed.setIfInBounds i true) k + 1 = cntU listed k
  | 0, h => by omega
  | k + 1, h => by
    simp only [cntU]
    by_cases hik : i = k
    · subst hik
      rw [cntU_set_ge i (Nat.le_refl _), hu]
      have : (listed.setIfInBounds i true).getD i true = true := by
        rcases Nat.lt_or_ge i listed.size with q | q
        · simp [q]
        · simp [Nat.not_lt.2 q]
      rw [this]; simp
    · rw [getD_set_ne true hik, ← cntU_set hu k (by omega)]; omega
theorem min_unl {listed : Array Bool} (rank : Nat → Nat) : ∀ k, 0 < cntU listed k → ∃ i, i < k ∧ listed.getD i true = false ∧ ∀ j, j < k → listed.getD j true = false → rank i ≤ rank j
  | 0, h => by simp [cntU] at h
  | k + 1, h => by
    by_cases h0 : 0 < cntU listed k
    · obtain ⟨i, h1, h2, h3⟩ := min_unl rank k h0
      by_cases hk : listed.getD k true = false ∧ rank k < rank i
      · refine ⟨k, by omega, hk.1, fun j hj hu => ?_⟩
        by_cases hjk : j = k
        · subst hjk; exact Nat.le_refl _
        · have := h3 j (by omega) hu; omega
      · refine ⟨i, by omega, h2, fun j hj hu => ?_⟩
        by_cases hjk : j = k
        · subst hjk
          exact Nat.le_of_not_lt fun hlt => hk ⟨hu, hlt⟩
        · exact h3 j (by omega) hu
    · have hz : ∀ m, cntU listed m = 0 → ∀ j, j < m → listed.getD j true = true := by
        intro m
        induction m with
        | zero => intro _ j hj; omega
        | succ m ih =>
          intro hm j hj
          simp only [cntU] at hm
          by_cases hjm : j = m
          · subst hjm
            cases hq : listed.getD j true with
            | true => rfl
            | false => rw [hq] at hm; simp at hm
          · exact ih (by omega) j (by omega)
      have hu : listed.getD k true = false := by
        cases hq : listed.getD k true with
        | false => rfl
        | true => simp only [cntU, hq] at h; simp at h; omega
      refine ⟨k, by omega, hu, fun j hj hj' => ?_⟩
      by_cases hjk : j = k
      · subst hjk; exact Nat.le_refl _
      · have := hz k (by omega) j (by omega)
        rw [this] at hj'; cases hj'
theorem cntU_pos {listed : Array Bool} : ∀ k, 0 < cntU listed k → ∃ i, i < k ∧ listed.getD i true = false ∧ ∀ j, j < i → listed.getD j true = true
  | 0, h => by simp [cntU] at h
  | k + 1, h => by
    by_cases h0 : 0 < cntU listed k
    · obtain ⟨i, h1, h2⟩ := cntU_pos k h0
      exact ⟨i, by omega, h2⟩
    · simp only [cntU] at h
      have hz : ∀ m, cntU listed m = 0 → ∀ j, j < m → listed.getD j true = true := by
        intro m
        induction m with
        | zero => intro _ j hj; omega
        | succ m ih =>
          intro hm j hj
          simp only [cntU] at hm
          by_cases hjm : j = m
          · subst hjm
            cases hq : listed.getD j true with
            | true => rfl
            | false => rw [hq] at hm; simp at hm
          · exact ih (by omega) j (by omega)
      refine ⟨k, by omega, ?_, hz k (by omega)⟩
      cases hq : listed.getD k true with
      | false => rfl
      | true => rw [hq] at h; simp at h; omega
theorem cntU_zero {listed : Array Bool} : ∀ k, cntU listed k = 0 → ∀ j, j < k → listed.getD j true = true
  | 0, _, j, hj => by omega
  | k + 1, h, j, hj => by
    simp only [cntU] at h
    by_cases hjk : j = k
    · subst hjk
      cases hq : listed.getD j true with
      | true => rfl
      | false => rw [hq] at h; simp at h
    · exact cntU_zero k (by omega) j (by omega)

theorem wpAny_more {Q' : Exit → Act → World → Prop} : ∀ (f : Nat) (listed : Array Bool) (a : Act) (w : World), wpAny P .any ops Q' f listed a w → wpAny P .any ops Q' (f + 1) listed a w
  | 0, listed, a, w, h => ⟨fun _ => h.2, fun i hi => by rw [h.1] at hi; cases hi⟩
  | f + 1, listed, a, w, h => ⟨h.1, fun i hi => wpOp_mono (fun a' w' h' => wpAny_more f _ a' w' h') (h.2 i hi)⟩
theorem wpAny_more' {Q' : Exit → Act → World → Prop} {f : Nat} {listed : Array Bool} {a : Act} {w : World} (h : wpAny P .any ops Q' f listed a w) : ∀ k, wpAny P .any ops Q' (f + k) listed a w
  | 0 => h
  | k + 1 => wpAny_more _ _ _ _ (wpAny_more' h k)

end
end Go.Am
