/- The abstract machine: whatever order is drawn, a region comes to what the walk in the plan's order says. Conditions: the tables say what the program's own types are (TOK, COK); the Bool over the region. -/
import Derived.Test.YtjhldpghbnjjmaaAmDraw
set_option linter.unusedVariables false
set_option linter.unusedSimpArgs false
namespace Go.Am

section
variable {P : Program} {T : Tab} {C : CTab} {pv : Nat → Bool} {ρ ρ0 : Rho} {own own0 : Nat → Owner} {H : Heap} {w w0 : World} {π : List Nat} {N i : Nat} {a : Act} {ops : Array Oper}

/-- An operation waits for another, through others too. -/
inductive Reach (ops : Array Oper) : Nat → Nat → Prop
  | one {j i : Nat} (h : Region.waitsFor .any ops j i = true) : Reach ops j i
  | more {j m i : Nat} (h : Reach ops j m) (h' : Region.waitsFor .any ops m i = true) : Reach ops j i
theorem needL_spec {ops : Array Oper} {j : Nat} : ∀ (m : Nat) (acc : List Nat), (∀ x ∈ acc, x = j ∨ Reach ops j x) → ∀ x ∈ needL ops m acc, x = j ∨ Reach ops j x
  | 0, acc, h, x, hx => h x hx
  | m + 1, acc, h, x, hx => by
    refine needL_spec m _ ?_ x hx
    intro y hy
    split at hy
    · rename_i ha
      rcases List.mem_cons.1 hy with rfl | hy
      · obtain ⟨k, hk, hw⟩ := List.any_eq_true.1 ha
        rcases h k hk with rfl | hr
        · exact .inr (.one hw)
        · exact .inr (.more hr hw)
      · exact h y hy
    · exact h y hy
/-- What the Bool over a region says. -/
structure PF (ops : Array Oper) (pl : Plan) (late : List Nat) : Prop where
  pos : 0 < pl.length
  tot : ∀ (i : Nat) (o : Oper), ops[i]? = some o → ∃ p fx, findPl 0 pl i = some (p, fx)
  dep : ∀ (i : Nat) (o : Oper) (p : Nat) (fx : Bool), ops[i]? = some o → findPl 0 pl i = some (p, fx) → ∀ e ∈ o.after, Region.binds .any e = true → e.on < i ∧ ∃ p' fx', findPl 0 pl e.on = some (p', fx') ∧ p' + fx'.toNat ≤ p
  tight : ∀ (i : Nat) (o : Oper) (p : Nat), ops[i]? = some o → findPl 0 pl i = some (p, false) → p = 0 ∨ ∃ e ∈ o.after, Region.binds .any e = true ∧ ∃ p' fx', findPl 0 pl e.on = some (p', fx') ∧ p' + fx'.toNat = p
  hit : ∀ (i j : Nat) (oi oj : Oper) (d : Tmp), ops[i]? = some oi → ops[j]? = some oj → oj.dst = some d → d ∈ oi.looksAt ops → (j < i ∧ Region.waitsFor .any ops i j = true) ∨ (i < j ∧ Region.waitsFor .any ops j i = true)
  dst : ∀ (i j : Nat) (oi oj : Oper) (d : Tmp), ops[i]? = some oi → ops[j]? = some oj → oi.dst = some d → oj.dst = some d → i = j
  ord : ∀ i j p k, i < ops.size → j < ops.size → findPl 0 pl i = some (p, false) → memN i late = false → findPl 0 pl j = some (k, true) → p ≤ k → Reach ops j i
  store : ∀ (i : Nat) (o : Oper) (p : Nat), ops[i]? = some o → findPl 0 pl i = some (p, true) → late = [] ∨ isStore o.op = false
  phase : ∀ p, p < pl.length → phaseB ops pl p = true

theorem planOK_spec {ops : Array Oper} {pl : Plan} {late : List Nat} (h : planOK ops pl late = true) : PF ops pl late := by
  unfold planOK at h
  simp only [Bool.and_eq_true, decide_eq_true_eq, List.all_eq_true, List.mem_range] at h
  obtain ⟨⟨h0, h1⟩, h2⟩ := h
  have key : ∀ (i : Nat) (o : Oper), ops[i]? = some o → ∃ p fx, findPl 0 pl i = some (p, fx) ∧ depsB pl o i p = true ∧ tightB pl o p fx = true ∧ ((List.range ops.size).all fun j => pairB ops pl late i p fx j) = true ∧ (!fx || late.isEmpty || !isStore o.op) = true := fun i o ho => by
    have := h2 i (Array.getElem?_eq_some_iff.1 ho).1
    unfold planOp at this
    rw [ho] at this
    split at this
    · rename_i p fx o' h1 h2
      cases h2
      simp only [Bool.and_eq_true] at this
      exact ⟨p, fx, h1, this.1.1.1, this.1.1.2, this.1.2, this.2⟩
    · cases this
  have get : ∀ (i : Nat) (o : Oper) (p : Nat) (fx : Bool), ops[i]? = some o → findPl 0 pl i = some (p, fx) → depsB pl o i p = true ∧ tightB pl o p fx = true ∧ ((List.range ops.size).all fun j => pairB ops pl late i p fx j) = true ∧ (!fx || late.isEmpty || !isStore o.op) = true := fun i o p fx ho hp => by
    obtain ⟨p', fx', k0, k1⟩ := key i o ho
    rw [hp] at k0
    cases k0
    exact k1
  refine ⟨h0, fun i o ho => by obtain ⟨p, fx, k, _⟩ := key i o ho; exact ⟨p, fx, k⟩, fun i o p fx ho hp e he hb => ?_, fun i o p ho hp => ?_, fun i j oi oj d hoi hoj hd hm => ?_, fun i j oi oj d hoi hoj hd hd' => ?_, fun i j p k hi hj hp hl hk hpk => ?_, fun i o p ho hp => ?_, h1⟩
  · have := (get i o p fx ho hp).1
    unfold depsB at this
    have := List.all_eq_true.1 this e (by simpa using he)
    rw [hb] at this
    simp only [Bool.not_true, Bool.false_or, Bool.and_eq_true, decide_eq_true_eq] at this
    refine ⟨this.1, ?_⟩
    have h2 := this.2
    split at h2
    · rename_i p' fx' hq; exact ⟨p', fx', hq, by simpa using h2⟩
    · cases h2
  · have := (get i o p false ho hp).2.1
    unfold tightB at this
    simp only [Bool.false_or, Bool.or_eq_true, decide_eq_true_eq] at this
    rcases this with this | this
    · exact .inl this
    · obtain ⟨e, he, hb⟩ := List.any_eq_true.1 this
      simp only [Bool.and_eq_true] at hb
      obtain ⟨hb, h2⟩ := hb
      split at h2
      · rename_i p' fx' hq; exact .inr ⟨e, by simpa using he, hb, p', fx', hq, by simpa using h2⟩
      · cases h2
  · obtain ⟨p, fx, hp, _⟩ := key i oi hoi
    have := List.all_eq_true.1 (get i oi p fx hoi hp).2.2.1 j (List.mem_range.2 (Array.getElem?_eq_some_iff.1 hoj).1)
    simp only [pairB, Bool.and_eq_true] at this
    have := this.1.1
    have hhit : hitB ops i j = true := by unfold hitB; simp [hoi, hoj, hd, hm]
    rw [hhit] at this
    simp only [Bool.not_true, Bool.false_or] at this
    split at this
    · rename_i hlt; exact .inl ⟨hlt, this⟩
    · simp at this; exact .inr this
  · obtain ⟨p, fx, hp, _⟩ := key i oi hoi
    have := List.all_eq_true.1 (get i oi p fx hoi hp).2.2.1 j (List.mem_range.2 (Array.getElem?_eq_some_iff.1 hoj).1)
    simp only [pairB, Bool.and_eq_true] at this
    have := this.1.2
    have hs : sameDst ops i j = true := by unfold sameDst; simp [hoi, hoj, hd, hd']
    rw [hs] at this
    simpa using this
  · have := List.all_eq_true.1 (get i ops[i] p false (by simp [hi]) hp).2.2.1 j (List.mem_range.2 hj)
    simp only [pairB, Bool.and_eq_true] at this
    have := this.2
    rw [hl, hk] at this
    simp [hpk] at this
    rcases needL_spec j [j] (fun x hx => .inl (by simpa using hx)) i (by simpa using this.2) with h | h
    · exact absurd h this.1
    · exact h
  · have := (get i o p true ho hp).2.2.2
    simp only [Bool.not_true, Bool.false_or, Bool.or_eq_true, List.isEmpty_iff] at this
    rcases this with h | h
    · exact .inl h
    · exact .inr (by simpa using h)

def cntU (listed : Array Bool) : Nat → Nat
  | 0 => 0
  | k + 1 => cntU listed k + (if listed.getD k true then 0 else 1)
theorem cntU_set_ge {listed : Array Bool} {i : Nat} : ∀ k, k ≤ i → cntU (listed.setIfInBounds i true) k = cntU listed k
  | 0, _ => rfl
  | k + 1, h => by simp only [cntU]; rw [cntU_set_ge k (by omega), getD_set_ne true (by omega)]
theorem cntU_set {listed : Array Bool} {i : Nat} (hu : listed.getD i true = false) : ∀ k, i < k → cntU (listed.setIfInBounds i true) k + 1 = cntU listed k
  | 0, h => by omega
  | k + 1, h => by
    simp only [cntU]
    by_cases hik : i = k
    · subst hik
      rw [cntU_set_ge i (Nat.le_refl _), hu]
      have : (listed.setIfInBounds i true).getD i true = true := by
        rcases Nat.lt_or_ge i listed.size with q | q
        · simp [q]
        · simp [Nat.not_lt.2 q]
      rw [this]; simp
    · rw [getD_set_ne true hik, ← cntU_set hu k (by omega)]; omega
theorem cntU_pos {listed : Array Bool} : ∀ k, 0 < cntU listed k → ∃ i, i < k ∧ listed.getD i true = false ∧ ∀ j, j < i → listed.getD j true = true
  | 0, h => by simp [cntU] at h
  | k + 1, h => by
    by_cases h0 : 0 < cntU listed k
    · obtain ⟨i, h1, h2⟩ := cntU_pos k h0
      exact ⟨i, by omega, h2⟩
    · simp only [cntU] at h
      have hz : ∀ m, cntU listed m = 0 → ∀ j, j < m → listed.getD j true = true := by
        intro m
        induction m with
        | zero => intro _ j hj; omega
        | succ m ih =>
          intro hm j hj
          simp only [cntU] at hm
          by_cases hjm : j = m
          · subst hjm
            cases hq : listed.getD j true with
            | true => rfl
            | false => rw [hq] at hm; simp at hm
          · exact ih (by omega) j (by omega)
      refine ⟨k, by omega, ?_, hz k (by omega)⟩
      cases hq : listed.getD k true with
      | false => rfl
      | true => rw [hq] at h; simp at h; omega
theorem cntU_zero {listed : Array Bool} : ∀ k, cntU listed k = 0 → ∀ j, j < k → listed.getD j true = true
  | 0, _, j, hj => by omega
  | k + 1, h, j, hj => by
    simp only [cntU] at h
    by_cases hjk : j = k
    · subst hjk
      cases hq : listed.getD j true with
      | true => rfl
      | false => rw [hq] at h; simp at h
    · exact cntU_zero k (by omega) j (by omega)

theorem wpAny_more {Q' : Exit → Act → World → Prop} : ∀ (f : Nat) (listed : Array Bool) (a : Act) (w : World), wpAny P .any ops Q' f listed a w → wpAny P .any ops Q' (f + 1) listed a w
  | 0, listed, a, w, h => ⟨fun _ => h.2, fun i hi => by rw [h.1] at hi; cases hi⟩
  | f + 1, listed, a, w, h => ⟨h.1, fun i hi => wpOp_mono (fun a' w' h' => wpAny_more f _ a' w' h') (h.2 i hi)⟩
theorem wpAny_more' {Q' : Exit → Act → World → Prop} {f : Nat} {listed : Array Bool} {a : Act} {w : World} (h : wpAny P .any ops Q' f listed a w) : ∀ k, wpAny P .any ops Q' (f + k) listed a w
  | 0 => h
  | k + 1 => wpAny_more _ _ _ _ (wpAny_more' h k)

end
end Go.Am
