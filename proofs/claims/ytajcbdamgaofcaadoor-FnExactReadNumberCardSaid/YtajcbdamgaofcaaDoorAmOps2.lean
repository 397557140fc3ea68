/- The abstract machine: operators and the rest of the operations that leave the heap alone. Conditions: the tables say what the program's own types are (TOK, COK). The abstract machine: addresses, parts, pieces, conversions and calls. Conditions: the tables say what the program's own types are (TOK, COK). -/
import Derived.Test.YtajcbdamgaofcaaDoorAmQuiet
set_option linter.unusedVariables false
set_option linter.unusedSimpArgs false
namespace Go.Am
open FlCore
open Go.Proofs.YtajcbdamgaofcaaDoor (Is fop fw fk run_fw fw_is)

/-- In this world the operation's value stands for v, and the heap is left alone. -/
def Yields (P : Program) (π : List Nat) (ρ : Rho) (w : World) (s : Sem Value) (v : Value) : Prop :=
  ∃ v' w', s.run P w = .ok v' w' ∧ TRel π ρ v v' ∧ Same w w'

section
variable {P : Program} {T : Tab} {C : CTab} {ρ : Rho} {own : Nat → Owner} {H : Heap} {w : World} {π : List Nat}

theorem eqGuard_plain (op : BinOp) (t : TypeId) (x y : Operand) (a b : Value) (h : ¬ (∃ c d, a = .agg c ∧ b = .agg d)) (h2 : a ≠ .nilIface) (w : World) : (eqGuard op t x y a b).run P w = .ok () w := by
  cases op <;> first
    | rfl
    | (cases a <;> first
      | rfl
      | exact absurd rfl h2
      | (cases b <;> first
        | rfl
        | exact absurd ⟨_, _, rfl, rfl⟩ h))

theorem equal_bool {t : TypeId} (hb : P.underlying t = some .bool) (a b : Bool) (w : World) : (Op.equal t (.bool a) (.bool b)).run P w = .ok (a == b) w := by
  have e : Op.equal t (.bool a) (.bool b) = Op.equalIn (9999 + 1) t (.bool a) (.bool b) := rfl
  rw [e, Op.equalIn]
  simp only [Sem.run_bind, run_underlying' hb, Result.andThen_ok, Sem.run_pure]
theorem equal_nil {t e : TypeId} (hb : P.underlying t = some (.slice e)) (a : Option Addr) (n c : Nat) (w : World) : (Op.equal t (.slice a n c) (.slice none 0 0)).run P w = .ok a.isNone w := by
  have e : Op.equal t (.slice a n c) (.slice none 0 0) = Op.equalIn (9999 + 1) t (.slice a n c) (.slice none 0 0) := rfl
  rw [e, Op.equalIn]
  cases a <;> simp only [Sem.run_bind, run_underlying' hb, Result.andThen_ok, Sem.run_pure] <;> rfl
theorem equal_func {t : TypeId} (hb : ∃ a b c, P.underlying t = some (.func a b c)) (w : World) : (Op.equal t .nilFunc .nilFunc).run P w = .ok true w := by
  obtain ⟨a, b, c, hb⟩ := hb
  have e : Op.equal t .nilFunc .nilFunc = Op.equalIn (9999 + 1) t .nilFunc .nilFunc := rfl
  rw [e, Op.equalIn]
  simp only [Sem.run_bind, run_underlying' hb, Result.andThen_ok, Sem.run_pure]
theorem equal_func2 {t : TypeId} (hb : ∃ a b c, P.underlying t = some (.func a b c)) (f : Fn) (fs cs : Array Value) (w : World) : (Op.equal t (.func f fs cs) .nilFunc).run P w = .ok false w := by
  obtain ⟨a, b, c, hb⟩ := hb
  have e : Op.equal t (.func f fs cs) .nilFunc = Op.equalIn (9999 + 1) t (.func f fs cs) .nilFunc := rfl
  rw [e, Op.equalIn]
  simp only [Sem.run_bind, run_underlying' hb, Result.andThen_ok, Sem.run_pure]
def binRun (op : BinOp) (t : TypeId) (x y : Operand) (a b : Value) : Sem Value := do eqGuard op t x y a b; binOp op t a b
theorem binRun_plain (op : BinOp) (t : TypeId) (x y : Operand) (a b : Value) (h : ¬ (∃ c d, a = .agg c ∧ b = .agg d)) (h2 : a ≠ .nilIface) (w : World) : (binRun op t x y a b).run P w = (binOp op t a b).run P w := by
  simp [binRun, eqGuard_plain op t x y a b h h2]

theorem binOp_int (op : BinOp) (t : TypeId) (k : IntKind) (a b : Int) (w : World) (v : Value) (h : binI op k a b = .val v ∨ ∃ q, binI op k a b = .ask q v ∧ q) : (binOp op t (.int k a) (.int k b)).run P w = .ok v w := by
  cases op <;> simp only [binI] at h <;> (try (rcases h with h | ⟨q, h, hq⟩ <;> cases h)) <;> (try (simp [binOp, Op.intArith, Op.intCmp])) <;> (try (simp [Op.intDiv]; simp_all))

theorem binFl_sound (op : BinOp) (t : TypeId) {a b x y : Nat} (ha : Is a x) (hb : Is b y) (w : World) (v : Value) (h : binFl op x y = .val v) : Yields P π ρ w (binOp op t (.float .f64 a) (.float .f64 b)) v := by
  have arith : ∀ op, (op = .add ∨ op = .sub ∨ op = .mul ∨ op = .quo) → Yields P π ρ w (binOp op t (.float .f64 a) (.float .f64 b)) (.float .f64 (fop op x y)) := fun op hop =>
    ⟨_, _, run_fw w op t a b hop, .pub (.float (fw_is op ha hb w)), rfl⟩
  have o := ha.ord hb
  cases op <;> simp only [binFl] at h <;> first | (cases h; done) | skip
  case add => cases h; exact arith _ (by simp)
  case sub => cases h; exact arith _ (by simp)
  case mul => cases h; exact arith _ (by simp)
  case quo => cases h; exact arith _ (by simp)
  all_goals
    cases h
    refine ⟨_, w, by simp only [binOp, Op.floatCmp, FloatKind.format, o]; rfl, .pub (.bool _), rfl⟩

theorem binS_sound (op : BinOp) (t : TypeId) (x y : ByteArray) (w : World) (v : Value) (h : binS op x y = .val v ∨ ∃ q, binS op x y = .ask q v ∧ q) : (binOp op t (.string x) (.string y)).run P w = .ok v w := by
  cases op <;> simp only [binS] at h <;> (try (rcases h with h | ⟨q, h, hq⟩ <;> cases h)) <;> (try (simp [binOp, Op.stringOp]; done))
  simp only [binOp, Op.stringOp]
  have : ¬ ((x.size + y.size : Nat) : Int) > IntKind.i64.max := by
    have : IntKind.i64.max = 9223372036854775807 := by decide
    omega
  simp only [if_neg this]; rfl

theorem binA_sound {op : BinOp} {t : TypeId} (hT : TOK P T) (ox oy : Operand) {x y x' y' : Value} (hx : TRel π ρ x x') (hy : TRel π ρ y y') (v : Value)
    (h : binA T op t x y = .val v ∨ (∃ q, binA T op t x y = .ask q v ∧ q) ∨ ∃ p, binA T op t x y = .find p ∧ p v) : Yields P π ρ w (binRun op t ox oy x' y') v := by
  unfold binA at h
  split at h
  · rename_i k a k' b
    cases hx with
    | pub hx => cases hx; cases hy with
      | pub hy =>
        cases hy
        have pl := binRun_plain (P := P) op t ox oy (.int k a) (.int k' b) (by simp) (by simp) w
        split at h
        · rename_i hk
          have hk : k = k' := by simpa using hk
          subst hk
          split at h
          · rename_i he
            rcases h with h | ⟨q, h, hq⟩ | ⟨p, h, hp⟩ <;> cases h
            exact ⟨v, w, by rw [pl]; exact hp.2 P w, .pub (VRel.const hp.1), rfl⟩
          · rename_i r he hr
            have hv : binI op k a b = .val v ∨ ∃ q, binI op k a b = .ask q v ∧ q := by
              rcases h with h | ⟨q, h, hq⟩ | ⟨p, h, hp⟩
              · exact .inl h
              · exact .inr ⟨q, h, hq⟩
              · cases op <;> simp [binI] at h
            refine ⟨v, w, by rw [pl]; exact binOp_int op t k a b w v hv, .pub ?_, rfl⟩
            cases op <;> simp only [binI] at hv <;> (rcases hv with hv | ⟨q, hv, hq⟩ <;> cases hv) <;> first | exact .int _ _ | exact .bool _
        · rcases h with h | ⟨q, h, hq⟩ | ⟨p, h, hp⟩ <;> cases h
          exact ⟨v, w, by rw [pl]; exact hp.2 P w, .pub (VRel.const hp.1), rfl⟩
  · rename_i x y
    cases hx with
    | pub hx => cases hx with
      | float hx => cases hy with
        | pub hy => cases hy with
          | float hy =>
            have hv : binFl op x y = .val v := by
              rcases h with h | ⟨q, h, hq⟩ | ⟨p, h, hp⟩
              · exact h
              · cases op <;> simp [binFl] at h
              · cases op <;> simp [binFl] at h
            obtain ⟨v', w', e1, e2, e3⟩ := binFl_sound (P := P) (π := π) (ρ := ρ) op t hx hy w v hv
            exact ⟨v', w', by rw [binRun_plain op t ox oy _ _ (by simp) (by simp)]; exact e1, e2, e3⟩
  · cases hx with
    | pub hx => cases hx; cases hy with
      | pub hy =>
        cases hy
        rename_i a b
        have hv : binS op a b = .val v ∨ ∃ q, binS op a b = .ask q v ∧ q := by
          rcases h with h | ⟨q, h, hq⟩ | ⟨p, h, hp⟩
          · exact .inl h
          · exact .inr ⟨q, h, hq⟩
          · cases op <;> simp [binS] at h
        refine ⟨v, w, by rw [binRun_plain op t ox oy _ _ (by simp) (by simp)]; exact binS_sound op t a b w v hv, .pub ?_, rfl⟩
        cases op <;> simp only [binS] at hv <;> (rcases hv with hv | ⟨q, hv, hq⟩ <;> cases hv) <;> first | exact .string _ | exact .bool _
  · cases hx with
    | pub hx => cases hx; cases hy with
      | pub hy =>
        cases hy
        rename_i a b
        split at h
        · rename_i hTt
          obtain ⟨d, g1, _, g3⟩ := (hT _ _ hTt).und
          subst g3
          rcases h with h | ⟨q, h, hq⟩ | ⟨p, h, hp⟩ <;> cases h
          refine ⟨_, w, by rw [binRun_plain _ t ox oy _ _ (by simp) (by simp)]; simp only [binOp, Sem.run_bind, equal_bool g1, Result.andThen_ok, Sem.run_pure], .pub (.bool _), rfl⟩
        · rename_i hTt
          obtain ⟨d, g1, _, g3⟩ := (hT _ _ hTt).und
          subst g3
          rcases h with h | ⟨q, h, hq⟩ | ⟨p, h, hp⟩ <;> cases h
          refine ⟨_, w, by rw [binRun_plain _ t ox oy _ _ (by simp) (by simp)]; simp only [binOp, Sem.run_bind, equal_bool g1, Result.andThen_ok, Sem.run_pure], .pub (.bool _), rfl⟩
        · rcases h with h | ⟨q, h, hq⟩ | ⟨p, h, hp⟩ <;> cases h
  · cases hx with
    | pub hx => cases hx; cases hy with
      | pub hy =>
        cases hy
        split at h
        · rename_i hTt
          obtain ⟨d, g1, _, g3⟩ := (hT _ _ hTt).und
          obtain ⟨a1, a2, a3, rfl⟩ := g3
          rcases h with h | ⟨q, h, hq⟩ | ⟨p, h, hp⟩ <;> cases h
          refine ⟨_, w, by rw [binRun_plain _ t ox oy _ _ (by simp) (by simp)]; simp only [binOp, Sem.run_bind, equal_func2 ⟨_, _, _, g1⟩, Result.andThen_ok, Sem.run_pure] <;> rfl, .pub (.bool _), rfl⟩
        · rename_i hTt
          obtain ⟨d, g1, _, g3⟩ := (hT _ _ hTt).und
          obtain ⟨a1, a2, a3, rfl⟩ := g3
          rcases h with h | ⟨q, h, hq⟩ | ⟨p, h, hp⟩ <;> cases h
          refine ⟨_, w, by rw [binRun_plain _ t ox oy _ _ (by simp) (by simp)]; simp only [binOp, Sem.run_bind, equal_func2 ⟨_, _, _, g1⟩, Result.andThen_ok, Sem.run_pure] <;> rfl, .pub (.bool _), rfl⟩
        · rcases h with h | ⟨q, h, hq⟩ | ⟨p, h, hp⟩ <;> cases h
  · cases hx with
    | pub hx => cases hx; cases hy with
      | pub hy =>
        cases hy
        split at h
        · rename_i hTt
          obtain ⟨d, g1, _, g3⟩ := (hT _ _ hTt).und
          obtain ⟨a1, a2, a3, rfl⟩ := g3
          rcases h with h | ⟨q, h, hq⟩ | ⟨p, h, hp⟩ <;> cases h
          refine ⟨_, w, by rw [binRun_plain _ t ox oy _ _ (by simp) (by simp)]; simp only [binOp, Sem.run_bind, equal_func ⟨_, _, _, g1⟩, Result.andThen_ok, Sem.run_pure] <;> rfl, .pub (.bool _), rfl⟩
        · rename_i hTt
          obtain ⟨d, g1, _, g3⟩ := (hT _ _ hTt).und
          obtain ⟨a1, a2, a3, rfl⟩ := g3
          rcases h with h | ⟨q, h, hq⟩ | ⟨p, h, hp⟩ <;> cases h
          refine ⟨_, w, by rw [binRun_plain _ t ox oy _ _ (by simp) (by simp)]; simp only [binOp, Sem.run_bind, equal_func ⟨_, _, _, g1⟩, Result.andThen_ok, Sem.run_pure] <;> rfl, .pub (.bool _), rfl⟩
        · rcases h with h | ⟨q, h, hq⟩ | ⟨p, h, hp⟩ <;> cases h
  · rcases h with h | ⟨q, h, hq⟩ | ⟨p, h, hp⟩ <;> cases h

theorem unA_sound {op : UnOp} {x x' : Value} (hx : TRel π ρ x x') (v : Value) (h : unA op x = .val v) : Yields P π ρ w (Op.unary op x') v := by
  unfold unA at h
  split at h
  · cases h
    cases hx with
    | pub hx => cases hx; exact ⟨_, w, rfl, .pub (.bool _), rfl⟩
  · cases h
    cases hx with
    | pub hx => cases hx; exact ⟨_, w, rfl, .pub (.int _ _), rfl⟩
  · cases h
    cases hx with
    | pub hx => cases hx with
      | float hx => exact ⟨_, w, rfl, .pub (.float hx.negw), rfl⟩
  · cases h
end
end Go.Am

set_option linter.unusedVariables false
namespace Go.Am
open FlCore
open Go.Proofs.YtajcbdamgaofcaaDoor (Is fop fw fk run_fw fw_is write_notNan canon_num)

section
variable {P : Program} {T : Tab} {C : CTab} {ρ : Rho} {own : Nat → Owner} {H : Heap} {w : World} {π : List Nat}

theorem yields_of {s : Sem Value} {v v' : Value} (h : s.run P w = .ok v' w) (r : TRel π ρ v v') : Yields P π ρ w s v := ⟨v', w, h, r, rfl⟩

theorem Row.field {s : TypeId} {z : List Value} {sz by_ : Nat} {ag : Bool} {fs : List (Nat × Nat × Bool)} (h : Row P s ⟨sz, by_, ag, .struct fs, z⟩) {f off n : Nat} {g : Bool} (hf : nth fs f = some (off, n, g)) :
    ∃ fields fld, P.underlying s = some (.struct fields) ∧ fields[f]? = some fld ∧ fld.offset = off ∧ P.cellsOf fld.type = n ∧
      (∀ w, (Go.sizeOf fld.type).run P w = .ok n w) ∧ (∀ w, (Go.isAgg fld.type).run P w = .ok g w) := by
  obtain ⟨d, h1, _, fields, rfl, h3, h4⟩ := h.und
  rw [nth_eq, ← h3, List.getElem?_map] at hf
  cases hq : fields.toList[f]? with
  | none => rw [hq] at hf; cases hf
  | some fld =>
    rw [hq] at hf
    simp only [Option.map_some, Option.some.injEq, Prod.mk.injEq] at hf
    obtain ⟨e1, e2, e3⟩ := hf
    have hm : fld ∈ fields := by
      have := List.mem_of_getElem? hq
      simpa using this
    obtain ⟨i1, i2⟩ := h4 fld hm
    obtain ⟨ti, hti⟩ := Option.isSome_iff_exists.1 i1
    obtain ⟨d, hd⟩ := Option.isSome_iff_exists.1 i2
    refine ⟨fields, fld, h1, by simpa using hq, e1, e2, fun w => ?_, fun w => ?_⟩
    · rw [← e2]; simp [Go.sizeOf, run_typeInfo' hti, Program.cellsOf, hti]
    · rw [← e3]
      simp only [Go.isAgg, Sem.run_bind, run_underlying' hd, Result.andThen_ok, hd, Option.map_some, Option.getD_some]
      cases d <;> rfl

theorem fieldAt_sound {s : TypeId} {z : List Value} {sz by_ : Nat} {ag : Bool} {fs : List (Nat × Nat × Bool)} (h : Row P s ⟨sz, by_, ag, .struct fs, z⟩) {f off n : Nat} {g : Bool} (hf : nth fs f = some (off, n + 1, g))
    {k o : Nat} {sp : Option Nat} {x' : Value} (hx : TRel π ρ (.pointer (some ⟨k, o, sp⟩)) x') : Yields P π ρ w (Instr.fieldAt s x' f) (.pointer (some ⟨k, o + off, sp⟩)) := by
  obtain ⟨fields, fld, h1, h2, h3, h4, h5, h6⟩ := h.field hf
  have key : ∀ B q, (Instr.fieldAt s (.pointer (some ⟨B, q, none⟩)) f).run P w = .ok (.pointer (some ⟨B, q + off, none⟩)) w := fun B q => by
    simp [Instr.fieldAt, run_underlying' h1, h2, Instr.sureAddr, fieldPlace, h5, h3, add_mk]
  cases hx with
  | priv hk => exact yields_of (key _ _) (.priv hk)
  | pub hx => cases hx with
    | ptr hL => exact yields_of (key _ _) (by rw [Nat.add_assoc]; exact .pub (.ptr hL))

theorem part_sound {t : TypeId} {off n : Nat} {g : Bool} (h5 : ∀ w, (Go.sizeOf t).run P w = .ok n w) (h6 : ∀ w, (Go.isAgg t).run P w = .ok g w) {cs cs' : Array Value} (hc : VRels ρ cs.toList cs'.toList)
    {l : List Value} (hl : takeL n (dropL off cs.toList) = some l) {v : Value} (hp : packV g l = some v) (hn : g = true ∨ n = 1) : Yields P π ρ w (part t cs' off) v := by
  obtain ⟨e1, e2⟩ := takeL_eq _ _ _ hl
  rw [dropL_eq] at e1 e2
  have hr : VRels ρ l ((cs'.toList.drop off).take n) := by rw [e1]; exact (hc.drop off).take n
  obtain ⟨v', g1, g2⟩ := packV_rel hp hr
  refine yields_of (v' := v') ?_ (.pub g2)
  simp only [part, Sem.run_bind, h6, Result.andThen_ok]
  cases g with
  | true =>
    simp only [if_true, Sem.run_bind, h5, Result.andThen_ok, Sem.run_pure]
    simp only [packV] at g1
    cases g1
    congr 2
    apply Array.ext'
    simp [List.take_drop, Array.toList_extract, List.extract_eq_take_drop, Nat.add_comm]
  | false =>
    rcases hn with hn | hn
    · cases hn
    · subst hn
      simp only [packV] at g1
      split at g1
      · rename_i u hu
        cases g1
        have : cs'[off]? = some v' := by
          have h0 : ((cs'.toList.drop off).take 1)[0]? = some v' := by rw [hu]; rfl
          rw [List.getElem?_take] at h0
          simp at h0
          exact h0
        simp [this]
      · cases g1

theorem indexAt_sound {t e : TypeId} {ie : TI} {z : List Value} {sz by_ : Nat} {ag : Bool} (h : Row P t ⟨sz, by_, ag, .slice e, z⟩) (he : Row P e ie) {b o n c : Nat} {kk : IntKind} {k : Int} (hk : 0 ≤ k ∧ k < n)
    {x' : Value} (hx : TRel π ρ (.slice (some ⟨b, o, none⟩) n c) x') : Yields P π ρ w (Instr.indexAt t x' (.int kk k)) (.pointer (some ⟨b, o + k.toNat * ie.size, none⟩)) := by
  obtain ⟨d, h1, _, rfl⟩ := h.und
  cases hx with
  | pub hx => cases hx with
    | @slice b off n off' cap L hL g1 g2 g3 =>
      have ho : off' = L.o + o := by rcases g1 with g1 | g1 <;> omega
      refine yields_of (v' := .pointer (some ⟨L.B, L.o + (o + k.toNat * ie.size), none⟩)) ?_ (.pub (.ptr hL))
      simp only [Instr.indexAt, asIntOf, pure_bind, Sem.run_bind, run_underlying' h1, Result.andThen_ok]
      simp only [Sem.run_pure, Result.andThen_ok, if_pos hk, Sem.run_bind, he.sizeOf, add_mk, ho, Nat.add_assoc]
theorem indexArr_sound {t e : TypeId} {ie : TI} {z : List Value} {sz by_ m : Nat} {ag : Bool} (h : Row P t ⟨sz, by_, ag, .array m e, z⟩) (he : Row P e ie) {b o : Nat} {sp : Option Nat} {kk : IntKind} {k : Int} (hk : 0 ≤ k ∧ k < m)
    {x' : Value} (hx : TRel π ρ (.pointer (some ⟨b, o, sp⟩)) x') : Yields P π ρ w (Instr.indexAt t x' (.int kk k)) (.pointer (some ⟨b, o + k.toNat * ie.size, sp⟩)) := by
  obtain ⟨d, h1, _, rfl⟩ := h.und
  have key : ∀ B q, (Instr.indexAt t (.pointer (some ⟨B, q, none⟩)) (.int kk k)).run P w = .ok (.pointer (some ⟨B, q + k.toNat * ie.size, none⟩)) w := fun B q => by
    simp only [Instr.indexAt, asIntOf, pure_bind, Sem.run_bind, run_underlying' h1, Result.andThen_ok, Instr.sureAddr]
    simp only [Sem.run_pure, Result.andThen_ok, if_pos hk, Sem.run_bind, he.sizeOf, add_mk]
  cases hx with
  | priv hq => exact yields_of (key _ _) (.priv hq)
  | pub hx => cases hx with
    | ptr hL => exact yields_of (key _ _) (by rw [Nat.add_assoc]; exact .pub (.ptr hL))

theorem nearest_is (n : Int) : Is (FloatKind.f64.nearest n) (FloatKind.f64.nearest n) := by
  have e : FloatKind.f64.nearest n = Ieee.double.write (.number (decide (n < 0)) n.natAbs 0) := rfl
  have h1 : isNan (FloatKind.f64.nearest n) = false := by rw [e]; exact write_notNan _ rfl
  refine ⟨?_, canon_num h1⟩
  rw [e]
  show Ieee.double.nearest _ _ _ < _
  unfold Ieee.Format.nearest
  dsimp only
  split
  · exact word_lt' _ _ (by omega)
  · exact word_lt' _ _ (Nat.lt_of_le_of_lt (Nat.min_le_right _ _) (by rw [inf_double]; omega))

theorem convA_sound {s d : TypeId} {i : TI} (hs : Row P s i) {x x' : Value} (hx : TRel π ρ x x') (v : Value)
    (h : (∃ k, P.underlying d = some (.int k) ∧ convA (some k) false x = .val v) ∨ (P.underlying d = some (.float .f64) ∧ convA none true x = .val v)) : Yields P π ρ w (convert s d x') v := by
  obtain ⟨ds, hds, _⟩ := hs.und
  rcases h with ⟨k, hd, h⟩ | ⟨hd, h⟩
  · unfold convA at h
    split at h
    · cases h
      cases hx with
      | pub hx =>
        cases hx
        refine yields_of ?_ (.pub (.int _ _))
        simp only [convert, Sem.run_bind, run_underlying' hds, run_underlying' hd, Result.andThen_ok]
        rfl
    · cases h
  · unfold convA at h
    split at h
    · cases h
      cases hx with
      | pub hx =>
        cases hx
        refine yields_of ?_ (.pub (.float (nearest_is _)))
        simp only [convert, Sem.run_bind, run_underlying' hds, run_underlying' hd, Result.andThen_ok]
        rfl
    · cases h

def boundV (i : Option Value) (d : Int) : Option Int :=
  match i with
  | none => some d
  | some (.int _ n) => some n
  | some _ => none
theorem boundA_map {η : Operand → Option Value} {lo : Option Operand} {d l : Int} {e : Operand → Value} (hη : ∀ x ∈ lo.toArray, ∀ v, η x = some v → TRel π ρ v (e x)) (h : boundA (lo.map η) d = some l) : boundV (lo.map e) d = some l := by
  cases lo with
  | none => exact h
  | some x =>
    simp only [Option.map_some, boundA, boundV] at *
    split at h
    · rename_i hq; cases hq
    · rename_i k n hq
      cases h
      have := hη x (by simp) (.int k l) (by simpa using hq)
      generalize e x = y at this
      cases this with
      | pub g => cases g; rfl
    · cases h

theorem sliceBounds_run {isS : Bool} {len cap : Nat} {lo hi : Option Value} {l h : Int} (h1 : boundV lo 0 = some l) (h2 : boundV hi len = some h) (h3 : 0 ≤ l) (h4 : l ≤ h) (h5 : h ≤ cap) (w : World) :
    (Instr.sliceBounds isS len cap lo hi none).run P w = .ok (l.toNat, h.toNat, cap) w := by
  have b1 : ∀ (x : Value) (n d : Int) (y : Nat) (cd : BoundsCode), boundV (some x) d = some n → 0 ≤ n → n ≤ y → (Instr.sliceBound x y cd).run P w = .ok n.toNat w := fun x n d y cd hx h0 hy => by
    unfold boundV at hx
    split at hx
    · rename_i q; cases q
    · rename_i q; cases q; cases hx
      simp only [Instr.sliceBound, asIntOf, pure_bind, if_pos (And.intro h0 hy)]; rfl
    · cases hx
  cases lo with
  | none =>
    cases h1
    cases hi with
    | none => cases h2; simp [Instr.sliceBounds]
    | some x => simp [Instr.sliceBounds, b1 x h _ cap _ h2 (by omega) h5]
  | some y =>
    cases hi with
    | none => cases h2; simp [Instr.sliceBounds, b1 y l _ len _ h1 h3 (by omega)]
    | some x => simp [Instr.sliceBounds, b1 x h _ cap _ h2 (by omega) h5, b1 y l _ h.toNat _ h1 h3 (by omega)]

theorem sliceA_sound {t : TypeId} (hT : TOK P T) (hr : HRel ρ own H w) {η : Operand → Option Value} {lo hi : Option Operand} {e : Operand → Value} (hlo : ∀ x ∈ lo.toArray, ∀ v, η x = some v → TRel π ρ v (e x)) (hhi : ∀ x ∈ hi.toArray, ∀ v, η x = some v → TRel π ρ v (e x))
    {x x' : Value} (hx : TRel π ρ x x') (v : Value) (q : Prop) (h : sliceA T H t x (lo.map η) (hi.map η) = .ask q v) (hq : q) : Yields P π ρ w (Instr.sliceAt t x' (lo.map e) (hi.map e) none) v := by
  unfold sliceA at h
  split at h
  · rename_i s
    split at h
    · rename_i zz l hh hTt e1 e2
      cases h
      obtain ⟨d, h1, _, rfl⟩ := (hT _ _ hTt).und
      have g1 := boundA_map hlo e1
      have g2 := boundA_map hhi e2
      cases hx with
      | pub hx =>
        cases hx
        refine yields_of ?_ (.pub (.string _))
        simp only [Instr.sliceAt, Instr.slice, Sem.run_bind, run_underlying' h1, Result.andThen_ok]
        simp [sliceBounds_run (P := P) (isS := false) g1 g2 hq.1 hq.2.1 hq.2.2 w]
    · cases h
  · rename_i b o n c
    split at h
    · rename_i e' zz hTt
      split at h
      · rename_i i l hh hTe e1 e2
        cases h
        obtain ⟨d, h1, _, rfl⟩ := (hT _ _ hTt).und
        have g1 := boundA_map hlo e1
        have g2 := boundA_map hhi e2
        have he := hT _ _ hTe
        cases hx with
        | pub hx => cases hx with
          | @slice _ _ _ off' cap L hL k1 k2 k3 =>
            obtain ⟨q1, q2, q3, cs, rw_, q4⟩ := hq
            have hz : L.esz = i.size := (hr.cells b L cs _ rw_ q4 hL).1
            refine yields_of (v' := .slice (some (if cap = l.toNat then ⟨L.B, off', none⟩ else ⟨L.B, off' + l.toNat * i.size, none⟩)) (hh.toNat - l.toNat) (cap - l.toNat)) ?_ (.pub ?_)
            · simp only [Instr.sliceAt, Instr.slice, Sem.run_bind, run_underlying' h1, Result.andThen_ok]
              rw [sliceBounds_run (P := P) (isS := true) g1 g2 q1 q2 (by omega) w]
              simp only [Result.andThen_ok, Sem.run_bind, he.sizeOf, Sem.run_pure]
              split <;> simp [add_mk]
            · have hc : l.toNat ≤ cap := by omega
              split
              · rename_i hcl
                refine .slice hL (.inl (by omega)) (by omega) ?_
                have : cap - l.toNat = 0 := by omega
                rw [this]; simp; omega
              · refine .slice hL (.inr (by rcases k1 with k1 | k1 <;> omega)) (by omega) ?_
                rw [hz] at k3 ⊢
                have : off' + l.toNat * i.size + (cap - l.toNat) * i.size = off' + cap * i.size := by
                  rw [Nat.add_assoc, ← Nat.add_mul]; congr 2; omega
                omega
      · cases h
    · cases h
  · cases h

theorem lenA_sound {t : TypeId} {ty : TypeId} (hT : TOK P T) {x x' : Value} (hx : TRel π ρ x x') (v : Value) (h : lenA T t x = .val v) : Yields P π ρ w (Builtin.len_ #[t] ty #[x']) v := by
  unfold lenA at h
  split at h
  · rename_i zz _ n _ hTt
    cases h
    obtain ⟨d, h1, _, rfl⟩ := (hT _ _ hTt).und
    have : ∃ a m c, x' = .slice a m c ∧ m = n := by
      cases hx with
      | pub hx => cases hx <;> exact ⟨_, _, _, rfl, rfl⟩
    obtain ⟨a, m, c, rfl, rfl⟩ := this
    refine yields_of ?_ (.pub (.int _ _))
    simp only [Builtin.len_, List.getElem?_toArray, List.getElem?_cons_zero, Sem.run_bind, run_underlying' h1, Result.andThen_ok]
    rfl
  · rename_i hTt
    cases h
    obtain ⟨d, h1, _, rfl⟩ := (hT _ _ hTt).und
    cases hx with
    | pub hx =>
      cases hx
      refine yields_of ?_ (.pub (.int _ _))
      simp only [Builtin.len_, List.getElem?_toArray, List.getElem?_cons_zero, Sem.run_bind, run_underlying' h1, Result.andThen_ok]
      rfl
  · cases h

theorem callFn_run {g : Operand} {as_ : Array Operand} {ts : Array TypeId} {ty : TypeId} {e : Operand → Value} {f : FuncId} {cap : Array Value} (h : e g = .func (.func f) #[] cap) (w : World) :
    (do let d ← resolve e { callee := .value g, args := as_, argTypes := ts } ty; invoke d.target d.args).run P w = (callFunc f (as_.map e ++ cap)).run P w := by
  simp [resolve, h, Deferred.ofValue, invoke]
end
end Go.Am
