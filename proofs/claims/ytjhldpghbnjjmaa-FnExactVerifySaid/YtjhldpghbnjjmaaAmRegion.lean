/- The abstract machine: regions whose operations stand in the order of the text. Conditions: the tables say what the program's own types are (TOK, COK). -/
import Derived.Test.YtjhldpghbnjjmaaAmSeq
set_option linter.unusedVariables false
set_option linter.unusedSimpArgs false
namespace Go.Am

section
variable {P : Program} {T : Tab} {C : CTab} {pv : Nat → Bool} {ρ ρ0 : Rho} {own own0 : Nat → Owner} {H : Heap} {w w0 : World} {π : List Nat} {N i : Nat} {a : Act} {ops : Array Oper} {rs : RS}

theorem BW.noBox {bx : List (List Value)} (b : BW π ρ own bx H w) : BW [] ρ own [] H w := ⟨b.hrel, rfl, fun k cs h => by simp at h⟩

theorem opF_sound {D D' : Nat → Prop} (hDi : ¬ D i) (hDD : ∀ j, D j → D' j) (hT : TOK P T) (hC : COK P C) (hn0 : NoPriv own0) (hg : gOK N ops.toList = true) (S : RSim N π ρ own ops D rs H a w) (g : Guar ρ0 own0 w0 ρ own w) {o : Oper} (ho : ops[i]? = some o) (hDg : ∀ j wt, o.guard = some (j, wt) → D j)
    {K : RS → Heap → Prop} {Qp : Value → Heap → Prop} (h : opF P T C pv ops.toList o rs H K Qp) {K' : Act → World → Prop} {Q' : Exit → Act → World → Prop}
    (hK : ∀ rs' H' π' ρ' own' a' w', K rs' H' → RSim N π' ρ' own' ops D' rs' H' a' w' → Guar ρ0 own0 w0 ρ' own' w' → K' a' w')
    (hp : ∀ v H' ρ' own' v' w', Qp v H' → VRel ρ' v v' → BW [] ρ' own' [] H' w' → Guar ρ0 own0 w0 ρ' own' w' → Q' (.panic [⟨v', false, false⟩]) a w') :
    if Region.wanted o (yielded ops a.tmps) then o.wp P a w K' Q' else K' (a.put o.dst undef) w := by
  unfold opF at h
  split at h
  · exact h.elim
  · rename_i p c hpath
    obtain ⟨hw, hc, hwf⟩ := path_spec hg S ho hDg hpath
    -- what follows, given a value
    have skip : ∀ v, K (rs.put o.dst ⟨v, p, c⟩) H → ¬ holds ops a p → K' (a.put o.dst undef) w := fun v hk hh =>
      hK _ _ _ _ _ _ _ hk (RSim.put hg S ho hDi hDD S.toBW (Rho.le_refl _) ⟨[], by simp⟩ ⟨v, p, c⟩ undef (fun q => absurd q hh) (fun _ => rfl) hwf) g
    have go : ∀ v, K (rs.put o.dst ⟨v, p, c⟩) H → holds ops a p → ∀ v' w', TRel π ρ v v' → Same w w' → K' (a.put o.dst v') w' := fun v hk hh v' w' hr hh' =>
      hK _ _ _ _ _ _ _ hk (RSim.put hg S ho hDi hDD (S.toBW.of_heap hh'.heap) (Rho.le_refl _) ⟨[], by simp⟩ ⟨v, p, c⟩ v' (fun _ => ⟨hr, hc hh⟩) (fun q => absurd hh q) hwf) (g.of_heap hh')
    have fin : ∀ v, K (rs.put o.dst ⟨v, p, c⟩) H → (holds ops a p → ∃ v' w', (execOp a.eval o).run P w = .ok (.value v') w' ∧ TRel π ρ v v' ∧ Same w w') →
        if Region.wanted o (yielded ops a.tmps) then o.wp P a w K' Q' else K' (a.put o.dst undef) w := fun v hk hv => by
      by_cases hh : holds ops a p
      · rw [if_pos (hw.2 hh)]
        obtain ⟨v', w', e1, e2, e3⟩ := hv hh
        unfold Oper.wp
        rw [e1]
        exact go v hk hh v' w' e2 e3
      · rw [if_neg (fun q => hh (hw.1 q))]
        exact skip v hk hh
    split at h
    · -- a choice
      rename_i s x y hop
      split at h
      · rename_i t bx by_ h1 h2 h3
        refine fin _ h fun hh => ?_
        have hs := eta_sound S hh _ _ h1
        have hsN : ∀ u : Bool, a.tmps.getD s undef = .bool u → s < N := fun u e => by
          rcases Nat.lt_or_ge s N with q | q
          · exact q
          · exfalso
            have hsz : a.tmps.size ≤ s := by rw [S.size]; exact q
            rw [show a.tmps.getD s undef = undef by simp [Array.getD, Nat.not_lt.2 hsz]] at e
            cases e
        have hst : a.eval (.tmp s) = .bool t := by
          generalize a.eval (.tmp s) = u at hs
          cases hs with
          | pub hs => cases hs; rfl
        have hst' : a.tmps.getD s undef = .bool t := hst
        have he : (execOp a.eval o).run P w = .ok (.value (if t then a.eval x else a.eval y)) w := by
          simp only [execOp, hop, hst, asBool, pure_bind]; rfl
        refine ⟨_, w, he, ?_, rfl⟩
        cases t with
        | true =>
          have := etaPick_sound S hh (hsN _ hst') hst' rfl x _ h2
          exact this
        | false =>
          have := etaPick_sound S hh (hsN _ hst') hst' rfl y _ h3
          exact this
      · exact h.elim
    · have qs := fun hh : holds ops a p => qval_sound (P := P) (o := o) hT hC S.toBase (fun x _ v hv => eta_sound S hh x v hv)
      generalize hq : qval T C H rs.env.boxes (eta p rs) o.op = r at h qs
      cases r with
      | val v => exact fin v h fun hh => (qs hh).1 v (.inl rfl)
      | ask q v =>
        obtain ⟨h1, h2⟩ := h
        refine fin v h2 fun hh => (qs hh).1 v (.inr (.inl ⟨q, rfl, ?_⟩))
        cases p with
        | nil => exact h1
        | cons y r => exact h1 (hc hh)
      | find q =>
        obtain ⟨v, h1, h2⟩ := h
        refine fin v h2 fun hh => (qs hh).1 v (.inr (.inr ⟨q, rfl, ?_⟩))
        cases p with
        | nil => exact h1
        | cons y r => exact h1 (hc hh)
      | call f args =>
        cases p with
        | nil =>
          have hh : holds ops a [] := fun x hx => by cases hx
          obtain ⟨R, he, h1, h2⟩ := h
          rw [if_pos (hw.2 hh)]
          obtain ⟨cargs, e1, e2⟩ := (qs hh).2 f args rfl
          refine call_sound S.toBW hn0 g e1 e2 he (fun v H' ρ' own' v' w' k1 k2 k3 k4 k5 => ?_) (fun v H' ρ' own' v' w' k1 k2 k4 k5 => ?_)
          · exact hK _ _ _ _ _ _ _ (h1 v H' k1) (RSim.put hg S ho hDi hDD k4 k3 ⟨[], by simp⟩ ⟨v, [], true⟩ v' (fun _ => ⟨.pub k2, rfl⟩) (fun q => absurd hh q) (fun x hx => by cases hx)) k5
          · exact hp v H' ρ' own' v' w' (h2 v H' k1) k2 k4.noBox k5
        | cons y r =>
          obtain ⟨v, h1, h2⟩ := h
          by_cases hh : holds ops a (y :: r)
          · rw [if_pos (hw.2 hh)]
            obtain ⟨cargs, e1, e2⟩ := (qs hh).2 f args rfl
            refine call_sound S.toBW hn0 g e1 e2 (h1 (hc hh)) (fun v0 H' ρ' own' v' w' k1 k2 k3 k4 k5 => ?_) (fun v0 H' ρ' own' v' w' k1 k2 k4 k5 => ?_)
            · obtain ⟨k1, rfl⟩ := k1
              cases k1
              exact hK _ _ _ _ _ _ _ h2 (RSim.put hg S ho hDi hDD k4 k3 ⟨[], by simp⟩ ⟨v, y :: r, c⟩ v' (fun _ => ⟨.pub k2, hc hh⟩) (fun q => absurd hh q) hwf) k5
            · cases k1.1
          · rw [if_neg (fun q => hh (hw.1 q))]
            exact skip v h2 hh
      | eff =>
        cases p with
        | cons y r => exact h.elim
        | nil =>
          have hh : holds ops a [] := fun x hx => by cases hx
          rw [if_pos (hw.2 hh)]
          refine effF_sound hT hn0 S.toBW g (fun x _ v hv => eta_sound S hh x v hv) (fun vo bx' H' π' ρ' own' v' w' k1 k2 k3 k4 k5 k6 => ?_) (fun v v' k1 k2 => hp v H ρ own v' w k1 k2 S.toBW.noBox g) h
          cases vo with
          | some v => exact hK _ _ _ _ _ _ _ k1 (RSim.put hg S ho hDi hDD k3 k4 k5 ⟨v, [], true⟩ v' (fun _ => ⟨k2, rfl⟩) (fun q => absurd hh q) (fun x hx => by cases hx)) k6
          | none =>
            have k2' : v' = undef := k2
            subst k2'
            exact hK _ _ _ _ _ _ _ k1 (RSim.put hg S ho hDi hDD k3 k4 k5 ⟨.tuple #[], [], true⟩ undef (fun _ => ⟨.pub (.tuple .nil), rfl⟩) (fun q => absurd hh q) (fun x hx => by cases hx)) k6
      | fail => exact h.elim

/-- Operations in the order of the text, from number i on. -/
theorem opsF_sound (hT : TOK P T) (hC : COK P C) (hn0 : NoPriv own0) (hg : gOK N ops.toList = true) {Qp : Value → Heap → Prop} {K : RS → Heap → Prop} {Q' : Exit → Act → World → Prop}
    (hK : ∀ rs' H' π' ρ' own' a' w', K rs' H' → RSim N π' ρ' own' ops (· < ops.size) rs' H' a' w' → Guar ρ0 own0 w0 ρ' own' w' → Q' .normal a' w')
    (hp : ∀ v H' ρ' own' v' a' w', Qp v H' → VRel ρ' v v' → a'.defers = [] → a'.tmps.size = N → BW [] ρ' own' [] H' w' → Guar ρ0 own0 w0 ρ' own' w' → Q' (.panic [⟨v', false, false⟩]) a' w') :
    ∀ (l : List Oper) (i : Nat) (rs : RS) (H : Heap) (π : List Nat) (ρ : Rho) (own : Nat → Owner) (a : Act) (w : World), (∀ j, l[j]? = ops[i + j]?) → i + l.length = ops.size →
      opsF P T C pv ops.toList Qp K l rs H → RSim N π ρ own ops (· < i) rs H a w → Guar ρ0 own0 w0 ρ own w → wpList P ops Q' l a w
  | [], i, rs, H, π, ρ, own, a, w, _, hlen, h, S, g => by
    have : i = ops.size := by simpa using hlen
    subst this
    exact hK rs H π ρ own a w h S g
  | o :: r, i, rs, H, π, ρ, own, a, w, hl, hlen, h, S, g => by
    have ho : ops[i]? = some o := by simpa using (hl 0).symm
    have hstep := opF_sound (D := (· < i)) (D' := (· < i + 1)) (K' := wpList P ops Q' r) (Q' := Q') (Nat.lt_irrefl i) (fun j hj => Nat.lt_succ_of_lt hj) hT hC hn0 hg S g ho (fun j wt e => ((gOK_spec hg ho).2 j wt e).1) h
      (fun rs' H' π' ρ' own' a' w' k1 k2 k3 => opsF_sound hT hC hn0 hg hK hp r (i + 1) rs' H' π' ρ' own' a' w' (fun j => by have := hl (j + 1); simpa [Nat.add_assoc, Nat.add_comm 1 j] using this) (by simp at hlen ⊢; omega) k1 k2 k3)
      (fun v H' ρ' own' v' w' k1 k2 k3 k4 => hp v H' ρ' own' v' a w' k1 k2 S.defers S.size k3 k4)
    unfold wpList
    split
    · rename_i hw; rw [if_pos hw] at hstep; exact .inl hstep
    · rename_i hw; rw [if_neg hw] at hstep; exact hstep

theorem flushL_spec : ∀ (l : List (Nat × Ent)) (ts : List (Nat × Value)) (k : Nat) (v : Value), lkT (RS.flushL l ts) k = some v →
    (lk l k = none ∧ lkT ts k = some v) ∨ (∃ e, lk l k = some e ∧ e.p = [] ∧ e.v = v)
  | [], ts, k, v, h => .inl ⟨rfl, h⟩
  | (d, e) :: r, ts, k, v, h => by
    rw [lk_put]
    simp only [RS.flushL, lkT] at h
    split at h
    · cases h
    · rename_i u hu hl
      cases h
      split at hl
      · rename_i he
        rw [lk_put] at hl
        split at hl
        · rename_i hk
          rw [if_pos hk]
          cases hl
          exact .inr ⟨e, rfl, he, rfl⟩
        · rename_i hk
          rw [if_neg hk]
          refine flushL_spec r ts k v ?_
          unfold lkT; rw [hl]
          cases v <;> first | rfl | exact absurd rfl (hu _)
      · rename_i he
        rw [lk_put] at hl
        split at hl
        · cases hl; exact absurd rfl (hu _)
        · rename_i hk
          rw [if_neg hk]
          refine flushL_spec r ts k v ?_
          unfold lkT; rw [hl]
          cases v <;> first | rfl | exact absurd rfl (hu _)
    · cases h
/-- Behind a region what hangs on no test is kept. -/
theorem flush_sim {D : Nat → Prop} (S : RSim N π ρ own ops D rs H a w) : Sim N π ρ own rs.flush H a w where
  toBase := S.toBase
  tmp := fun k v h => by
    rcases flushL_spec rs.loc rs.env.tmps k v h with ⟨h1, h2⟩ | ⟨e, h1, h2, h3⟩
    · exact S.env k v h1 h2
    · have := ((S.loc k e h1).1 (by rw [h2]; exact fun x hx => by cases hx)).1
      rw [h3] at this; exact this
/-- Ahead of a region. -/
theorem start_sim {D : Nat → Prop} {E : Env} (S : Sim N π ρ own E H a w) : RSim N π ρ own ops D ⟨[], E⟩ H a w where
  toBase := S.toBase
  loc := fun k e h => by cases h
  env := fun k v _ h => S.tmp k v h
end
end Go.Am
