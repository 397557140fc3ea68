/- The abstract machine: an operation over lists that agree where it looks. No condition. -/
import Derived.Test.YtjhldpghbnjjmaaAmHead
set_option linter.unusedVariables false
set_option linter.unusedSimpArgs false
namespace Go.Am

theorem BxExt.snoc (x : List Value) : ∀ (bx : List (List Value)), BxExt bx (snocL bx x)
  | [], k, cs, h => by cases h
  | y :: r, 0, cs, h => h
  | y :: r, k + 1, cs, h => BxExt.snoc x r k cs h

section
variable {P : Program} {T : Tab} {C : CTab} {pv : Nat → Bool} {H : Heap} {ops : Array Oper} {bx : List (List Value)}

theorem appF_congr {η η' : Operand → Option Value} {t u : TypeId} {s x : Operand} (hs : η s = η' s) (hx : η x = η' x) {K K' : Option Value → List (List Value) → Heap → Prop} (hK : ∀ v H', K v bx H' → K' v bx H')
    (h : appF T H bx η t u s x K) : appF T H bx η' t u s x K' := by
  unfold appF at *
  rw [hs, hx] at h
  generalize T t = x1 at *
  generalize Nat.beq t u = x2 at *
  generalize η' s = x3 at *
  generalize η' x = x4 at *
  split at h
  · rename_i e _ a n _ a2 m _
    try dsimp only
    generalize T e = te at *
    cases te with
    | none => exact h
    | some i =>
      dsimp only at h ⊢
      generalize Nat.blt 0 i.size = q at *
      cases q with
      | false => exact h
      | true =>
        dsimp only at h ⊢
        cases m with
        | zero => exact hK _ _ h
        | succ m' =>
          dsimp only at h ⊢
          split at h
          · obtain ⟨news, h1, h2, h3, cs, h4, h5⟩ := h
            exact ⟨news, h1, h2, h3, cs, h4, hK _ _ h5⟩
          · exact h.elim
  · exact h.elim
theorem copyF_congr {η η' : Operand → Option Value} {t u : TypeId} {s x : Operand} (hs : η s = η' s) (hx : η x = η' x) {K K' : Option Value → List (List Value) → Heap → Prop} (hK : ∀ v H', K v bx H' → K' v bx H')
    (h : copyF T H bx η t u s x K) : copyF T H bx η' t u s x K' := by
  unfold copyF at *
  rw [hs, hx] at h
  generalize T t = x1 at *
  generalize T u = x2 at *
  generalize η' s = x3 at *
  generalize η' x = x4 at *
  split at h
  · rename_i e _ _ _ _ _ _ _ _ _ _
    try dsimp only
    split at h
    · obtain ⟨news, h1, h2, h3⟩ := h
      exact ⟨news, h1, h2, hK _ _ h3⟩
    · exact h.elim
  · exact h.elim

theorem effF_congr {η η' : Operand → Option Value} {op : Op} {dst : Option Tmp} (hη : ∀ x ∈ op.operands, η x = η' x) {K K' : Option Value → List (List Value) → Heap → Prop} {Qp : Value → Prop}
    (hK : ∀ v bx' H', (isStore op = false → BxExt bx bx') → K v bx' H' → K' v bx' H') (h : effF T pv H bx η dst op K Qp) : effF T pv H bx η' dst op K' Qp := by
  cases op <;> simp only [Op.operands] at hη <;> simp only [effF] at h ⊢ <;> (try exact h)
  case alloc t =>
    generalize T t = x1 at *
    cases x1 with
    | none => exact h
    | some i => cases dst with
      | none => exact h
      | some d =>
        dsimp only at h ⊢
        generalize pv d = q at *
        cases q with
        | true => exact hK _ _ _ (fun _ => BxExt.snoc _ _) h
        | false => exact hK _ _ _ (fun _ => BxExt.refl _) h
  case box t x =>
    rw [hη x (by simp)] at h
    generalize T t = x1 at *
    generalize η' x = x2 at *
    cases x1 with
    | none => exact h
    | some i => cases dst with
      | none => exact h
      | some d => cases x2 with
        | none => exact h
        | some v =>
          dsimp only at h ⊢
          generalize isPub v = q1 at *
          generalize allFlat (cellsV v) = q2 at *
          generalize pv d = q3 at *
          cases q1 <;> cases q2 <;> first | exact h | skip
          cases q3 with
          | true => exact hK _ _ _ (fun _ => BxExt.snoc _ _) h
          | false => exact hK _ _ _ (fun _ => BxExt.refl _) h
  case store t a x =>
    rw [hη a (by simp), hη x (by simp)] at h
    generalize T t = x1 at *
    generalize η' a = x2 at *
    generalize η' x = x3 at *
    split at h
    · try dsimp only
      split at h
      · split at h
        · split at h
          · split at h
            · exact hK _ _ _ (fun e => by cases e) h
            · exact h.elim
          · exact h.elim
        · exact ⟨h.1, hK _ _ _ (fun _ => BxExt.refl _) h.2⟩
      · exact h.elim
    · exact h.elim
  case buildSlice t n parts =>
    have hp : ∀ x ∈ parts.toList, η x.2 = η' x.2 := fun x hx => hη x.2 (by simp only [List.mem_toArray, List.mem_map]; exact ⟨x, hx, rfl⟩)
    generalize T t = x1 at *
    split at h
    · try dsimp only
      split at h
      · rw [fillA_congr parts.toList _ hp] at h
        split at h
        · split at h
          · exact hK _ _ _ (fun _ => BxExt.refl _) h
          · exact h.elim
        · exact h.elim
      · exact h.elim
    · exact h.elim
  case makeSlice t l c =>
    rw [hη l (by simp), hη c (by simp)] at h
    generalize T t = x1 at *
    generalize η' l = x2 at *
    generalize η' c = x3 at *
    split at h
    · try dsimp only
      split at h
      · split at h
        · exact ⟨h.1, hK _ _ _ (fun _ => BxExt.refl _) h.2⟩
        · exact h.elim
      · exact h.elim
    · exact h.elim
  case call c =>
    obtain ⟨callee, as_, ts⟩ := c
    have ha : ∀ x ∈ as_.toList, η x = η' x := fun x hx => hη x (by simp [Call.operands]; exact .inr (by simpa using hx))
    dsimp only at h ⊢
    cases callee with
    | builtin b =>
      dsimp only at h ⊢
      split at h
      · rename_i s x t u h1 h2
        exact appF_congr (ha s (by rw [h1]; simp)) (ha x (by rw [h1]; simp)) (fun v H' k => hK v bx H' (fun _ => BxExt.refl _) k) h
      · rename_i d x t u h1 h2
        exact copyF_congr (ha d (by rw [h1]; simp)) (ha x (by rw [h1]; simp)) (fun v H' k => hK v bx H' (fun _ => BxExt.refl _) k) h
      · exact h.elim
    | value g => exact h
    | invoke r m => exact h
  case panic x =>
    rw [← hη x (by simp)]; exact h

theorem opF_congr {rsC rsA : RS} {o : Oper} {K : RS → Heap → Prop} {Qp : Value → Heap → Prop} (he : rsC.env = rsA.env) (hl : ∀ t ∈ o.looksAt ops, lk rsC.loc t = lk rsA.loc t) (h : opF P T C pv ops.toList o rsC H K Qp) :
    opF P T C pv ops.toList o rsA H (fun rs' H' => ∃ e bx', rs' = RS.put ⟨rsA.loc, ⟨rsA.env.tmps, bx'⟩⟩ o.dst e ∧ (isStore o.op = false → BxExt rsA.env.boxes bx') ∧ K (RS.put ⟨rsC.loc, ⟨rsA.env.tmps, bx'⟩⟩ o.dst e) H') Qp := by
  obtain ⟨locC, envC⟩ := rsC
  obtain ⟨locA, ts, bx⟩ := rsA
  simp only at he hl
  subst he
  have hη : ∀ p x, x ∈ o.op.operands → eta p ⟨locC, ⟨ts, bx⟩⟩ x = eta p ⟨locA, ⟨ts, bx⟩⟩ x := fun p x hx => by
    cases x with
    | tmp t => simp only [eta, hl t (mem_looks hx)]
    | _ => rfl
  have hpk : ∀ p s want x, x ∈ o.op.operands → etaPick ops.toList p ⟨locC, ⟨ts, bx⟩⟩ s want x = etaPick ops.toList p ⟨locA, ⟨ts, bx⟩⟩ s want x := fun p s want x hx => by
    cases x with
    | tmp t => simp only [etaPick, hl t (mem_looks hx)]
    | _ => rfl
  have hpath : pathOf ops.toList ⟨locC, ⟨ts, bx⟩⟩ o.guard = pathOf ops.toList ⟨locA, ⟨ts, bx⟩⟩ o.guard := by
    cases hgd : o.guard with
    | none => rfl
    | some jw =>
      obtain ⟨j, b⟩ := jw
      simp only [pathOf]
      cases hd : dstOf ops.toList j with
      | none => rfl
      | some d => simp only [hl d (guard_looks hgd (by rw [← dstOf_eq]; exact hd))]
  unfold opF at *
  rw [hpath] at h
  generalize pathOf ops.toList ⟨locA, ⟨ts, bx⟩⟩ o.guard = x1 at *
  have fin : ∀ (e : Ent) (H' : Heap), K (RS.put ⟨locC, ⟨ts, bx⟩⟩ o.dst e) H' → ∃ e' bx', RS.put ⟨locA, ⟨ts, bx⟩⟩ o.dst e = RS.put ⟨locA, ⟨ts, bx'⟩⟩ o.dst e' ∧ (isStore o.op = false → BxExt bx bx') ∧ K (RS.put ⟨locC, ⟨ts, bx'⟩⟩ o.dst e') H' := fun e H' k => ⟨e, bx, rfl, fun _ => BxExt.refl _, k⟩
  cases x1 with
  | none => exact h
  | some pc =>
    obtain ⟨p, c⟩ := pc
    dsimp only at h ⊢
    split at h
    · rename_i s x y hop
      have m : ∀ z, z ∈ (#[.tmp s, x, y] : Array Operand) → z ∈ o.op.operands := fun z hz => by rw [hop]; simpa [Op.operands] using hz
      rw [hη p _ (m _ (by simp)), hpk p s true x (m _ (by simp)), hpk p s false y (m _ (by simp))] at h
      split at h
      · exact fin _ _ h
      · exact h.elim
    · rw [qval_congr (hη p)] at h
      generalize hq : qval T C H bx (eta p ⟨locA, ⟨ts, bx⟩⟩) o.op = r at h ⊢
      cases r with
      | val v => exact fin _ _ h
      | ask q v => exact ⟨h.1, fin _ _ h.2⟩
      | find q => obtain ⟨v, h1, h2⟩ := h; exact ⟨v, h1, fin _ _ h2⟩
      | call f args =>
        cases p with
        | nil => obtain ⟨R, k1, k2, k3⟩ := h; exact ⟨R, k1, fun v H' k => fin _ _ (k2 v H' k), k3⟩
        | cons y r => obtain ⟨v, h1, h2⟩ := h; exact ⟨v, h1, fin _ _ h2⟩
      | eff =>
        cases p with
        | nil => exact effF_congr (hη []) (fun v bx' H' k1 k2 => ⟨_, bx', rfl, k1, k2⟩) h
        | cons => exact h
      | fail => exact h
end
end Go.Am
