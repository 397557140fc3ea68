/- The abstract machine: operators and the rest of the operations that leave the heap alone. Conditions: the tables say what the program's own types are (TOK, COK). -/
import Derived.Test.YtjhldpghbnjjmaaAmQuiet
set_option linter.unusedVariables false
set_option linter.unusedSimpArgs false
namespace Go.Am
open FlCore
open Go.Proofs.Ytjhldpghbnjjmaa (Is fop fw fk run_fw fw_is)

/-- In this world the operation's value stands for v, and the heap is left alone. -/
def Yields (P : Program) (π : List Nat) (ρ : Rho) (w : World) (s : Sem Value) (v : Value) : Prop :=
  ∃ v' w', s.run P w = .ok v' w' ∧ TRel π ρ v v' ∧ Same w w'

section
variable {P : Program} {T : Tab} {C : CTab} {ρ : Rho} {own : Nat → Owner} {H : Heap} {w : World} {π : List Nat}

theorem eqGuard_plain (op : BinOp) (t : TypeId) (x y : Operand) (a b : Value) (h : ¬ (∃ c d, a = .agg c ∧ b = .agg d)) (h2 : a ≠ .nilIface) (w : World) : (eqGuard op t x y a b).run P w = .ok () w := by
  cases op <;> first
    | rfl
    | (cases a <;> first
      | rfl
      | exact absurd rfl h2
      | (cases b <;> first
        | rfl
        | exact absurd ⟨_, _, rfl, rfl⟩ h))

theorem equal_bool {t : TypeId} (hb : P.underlying t = some .bool) (a b : Bool) (w : World) : (Op.equal t (.bool a) (.bool b)).run P w = .ok (a == b) w := by
  have e : Op.equal t (.bool a) (.bool b) = Op.equalIn (9999 + 1) t (.bool a) (.bool b) := rfl
  rw [e, Op.equalIn]
  simp only [Sem.run_bind, run_underlying' hb, Result.andThen_ok, Sem.run_pure]
theorem equal_nil {t e : TypeId} (hb : P.underlying t = some (.slice e)) (a : Option Addr) (n c : Nat) (w : World) : (Op.equal t (.slice a n c) (.slice none 0 0)).run P w = .ok a.isNone w := by
  have e : Op.equal t (.slice a n c) (.slice none 0 0) = Op.equalIn (9999 + 1) t (.slice a n c) (.slice none 0 0) := rfl
  rw [e, Op.equalIn]
  cases a <;> simp only [Sem.run_bind, run_underlying' hb, Result.andThen_ok, Sem.run_pure] <;> rfl
def binRun (op : BinOp) (t : TypeId) (x y : Operand) (a b : Value) : Sem Value := do eqGuard op t x y a b; binOp op t a b
theorem binRun_plain (op : BinOp) (t : TypeId) (x y : Operand) (a b : Value) (h : ¬ (∃ c d, a = .agg c ∧ b = .agg d)) (h2 : a ≠ .nilIface) (w : World) : (binRun op t x y a b).run P w = (binOp op t a b).run P w := by
  simp [binRun, eqGuard_plain op t x y a b h h2]

theorem binOp_int (op : BinOp) (t : TypeId) (k : IntKind) (a b : Int) (w : World) (v : Value) (h : binI op k a b = .val v ∨ ∃ q, binI op k a b = .ask q v ∧ q) : (binOp op t (.int k a) (.int k b)).run P w = .ok v w := by
  cases op <;> simp only [binI] at h <;> (try (rcases h with h | ⟨q, h, hq⟩ <;> cases h)) <;> (try (simp [binOp, Op.intArith, Op.intCmp])) <;> (try (simp [Op.intDiv]; simp_all))

theorem binFl_sound (op : BinOp) (t : TypeId) {a b x y : Nat} (ha : Is a x) (hb : Is b y) (w : World) (v : Value) (h : binFl op x y = .val v) : Yields P π ρ w (binOp op t (.float .f64 a) (.float .f64 b)) v := by
  have arith : ∀ op, (op = .add ∨ op = .sub ∨ op = .mul ∨ op = .quo) → Yields P π ρ w (binOp op t (.float .f64 a) (.float .f64 b)) (.float .f64 (fop op x y)) := fun op hop =>
    ⟨_, _, run_fw w op t a b hop, .pub (.float (fw_is op ha hb w)), rfl⟩
  have o := ha.ord hb
  cases op <;> simp only [binFl] at h <;> first | (cases h; done) | skip
  case add => cases h; exact arith _ (by simp)
  case sub => cases h; exact arith _ (by simp)
  case mul => cases h; exact arith _ (by simp)
  case quo => cases h; exact arith _ (by simp)
  all_goals
    cases h
    refine ⟨_, w, by simp only [binOp, Op.floatCmp, FloatKind.format, o]; rfl, .pub (.bool _), rfl⟩

theorem binS_sound (op : BinOp) (t : TypeId) (x y : ByteArray) (w : World) (v : Value) (h : binS op x y = .val v ∨ ∃ q, binS op x y = .ask q v ∧ q) : (binOp op t (.string x) (.string y)).run P w = .ok v w := by
  cases op <;> simp only [binS] at h <;> (try (rcases h with h | ⟨q, h, hq⟩ <;> cases h)) <;> (try (simp [binOp, Op.stringOp]; done))
  simp only [binOp, Op.stringOp]
  have : ¬ ((x.size + y.size : Nat) : Int) > IntKind.i64.max := by
    have : IntKind.i64.max = 9223372036854775807 := by decide
    omega
  simp only [if_neg this]; rfl

theorem binA_sound {op : BinOp} {t : TypeId} (hT : TOK P T) (ox oy : Operand) {x y x' y' : Value} (hx : TRel π ρ x x') (hy : TRel π ρ y y') (v : Value)
    (h : binA T op t x y = .val v ∨ (∃ q, binA T op t x y = .ask q v ∧ q) ∨ ∃ p, binA T op t x y = .find p ∧ p v) : Yields P π ρ w (binRun op t ox oy x' y') v := by
  unfold binA at h
  split at h
  · rename_i k a k' b
    cases hx with
    | pub hx => cases hx; cases hy with
      | pub hy =>
        cases hy
        have pl := binRun_plain (P := P) op t ox oy (.int k a) (.int k' b) (by simp) (by simp) w
        split at h
        · rename_i hk
          have hk : k = k' := by simpa using hk
          subst hk
          split at h
          · rename_i he
            rcases h with h | ⟨q, h, hq⟩ | ⟨p, h, hp⟩ <;> cases h
            exact ⟨v, w, by rw [pl]; exact hp.2 P w, .pub (VRel.const hp.1), rfl⟩
          · rename_i r he hr
            have hv : binI op k a b = .val v ∨ ∃ q, binI op k a b = .ask q v ∧ q := by
              rcases h with h | ⟨q, h, hq⟩ | ⟨p, h, hp⟩
              · exact .inl h
              · exact .inr ⟨q, h, hq⟩
              · cases op <;> simp [binI] at h
            refine ⟨v, w, by rw [pl]; exact binOp_int op t k a b w v hv, .pub ?_, rfl⟩
            cases op <;> simp only [binI] at hv <;> (rcases hv with hv | ⟨q, hv, hq⟩ <;> cases hv) <;> first | exact .int _ _ | exact .bool _
        · rcases h with h | ⟨q, h, hq⟩ | ⟨p, h, hp⟩ <;> cases h
          exact ⟨v, w, by rw [pl]; exact hp.2 P w, .pub (VRel.const hp.1), rfl⟩
  · rename_i x y
    cases hx with
    | pub hx => cases hx with
      | float hx => cases hy with
        | pub hy => cases hy with
          | float hy =>
            have hv : binFl op x y = .val v := by
              rcases h with h | ⟨q, h, hq⟩ | ⟨p, h, hp⟩
              · exact h
              · cases op <;> simp [binFl] at h
              · cases op <;> simp [binFl] at h
            obtain ⟨v', w', e1, e2, e3⟩ := binFl_sound (P := P) (π := π) (ρ := ρ) op t hx hy w v hv
            exact ⟨v', w', by rw [binRun_plain op t ox oy _ _ (by simp) (by simp)]; exact e1, e2, e3⟩
  · cases hx with
    | pub hx => cases hx; cases hy with
      | pub hy =>
        cases hy
        rename_i a b
        have hv : binS op a b = .val v ∨ ∃ q, binS op a b = .ask q v ∧ q := by
          rcases h with h | ⟨q, h, hq⟩ | ⟨p, h, hp⟩
          · exact .inl h
          · exact .inr ⟨q, h, hq⟩
          · cases op <;> simp [binS] at h
        refine ⟨v, w, by rw [binRun_plain op t ox oy _ _ (by simp) (by simp)]; exact binS_sound op t a b w v hv, .pub ?_, rfl⟩
        cases op <;> simp only [binS] at hv <;> (rcases hv with hv | ⟨q, hv, hq⟩ <;> cases hv) <;> first | exact .string _ | exact .bool _
  · cases hx with
    | pub hx => cases hx; cases hy with
      | pub hy =>
        cases hy
        rename_i a b
        split at h
        · rename_i hTt
          obtain ⟨d, g1, _, g3⟩ := (hT _ _ hTt).und
          subst g3
          rcases h with h | ⟨q, h, hq⟩ | ⟨p, h, hp⟩ <;> cases h
          refine ⟨_, w, by rw [binRun_plain _ t ox oy _ _ (by simp) (by simp)]; simp only [binOp, Sem.run_bind, equal_bool g1, Result.andThen_ok, Sem.run_pure], .pub (.bool _), rfl⟩
        · rename_i hTt
          obtain ⟨d, g1, _, g3⟩ := (hT _ _ hTt).und
          subst g3
          rcases h with h | ⟨q, h, hq⟩ | ⟨p, h, hp⟩ <;> cases h
          refine ⟨_, w, by rw [binRun_plain _ t ox oy _ _ (by simp) (by simp)]; simp only [binOp, Sem.run_bind, equal_bool g1, Result.andThen_ok, Sem.run_pure], .pub (.bool _), rfl⟩
        · rcases h with h | ⟨q, h, hq⟩ | ⟨p, h, hp⟩ <;> cases h
  · rcases h with h | ⟨q, h, hq⟩ | ⟨p, h, hp⟩ <;> cases h

theorem unA_sound {op : UnOp} {x x' : Value} (hx : TRel π ρ x x') (v : Value) (h : unA op x = .val v) : Yields P π ρ w (Op.unary op x') v := by
  unfold unA at h
  split at h
  · cases h
    cases hx with
    | pub hx => cases hx; exact ⟨_, w, rfl, .pub (.bool _), rfl⟩
  · cases h
    cases hx with
    | pub hx => cases hx; exact ⟨_, w, rfl, .pub (.int _ _), rfl⟩
  · cases h
    cases hx with
    | pub hx => cases hx with
      | float hx => exact ⟨_, w, rfl, .pub (.float hx.negw), rfl⟩
  · cases h
end
end Go.Am
