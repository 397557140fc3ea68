/- The abstract machine: regions that draw their order, whose first operations leave the heap alone. Conditions: the tables say what the program's own types are (TOK, COK); the Bool over the region. The abstract machine: whatever order is drawn, a region comes to what the walk in the plan's order says. Conditions: the tables say what the program's own types are (TOK, COK); the Bool over the region. The abstract machine: an operation over lists that agree where it looks. No condition. The abstract machine: whatever order is drawn, a region comes to what its plan's walk says. Conditions: the tables say what the program's own types are (TOK, COK); the Bool over the region. -/
import Derived.Test.YtajcbdamgaofcaaDoorAmRegion
set_option linter.unusedVariables false
set_option linter.unusedSimpArgs false
namespace Go.Am

section
variable {P : Program} {T : Tab} {C : CTab} {pv : Nat → Bool} {ρ ρ0 : Rho} {own own0 : Nat → Owner} {H : Heap} {w w0 : World} {π : List Nat} {N i : Nat} {a : Act} {ops : Array Oper} {rs : RS} {D : Nat → Prop} {so : Option (Nat → Prop)}

/-- What the walk of a head says of one operation. -/
def HS (P : Program) (T : Tab) (C : CTab) (ops : List Oper) (H : Heap) (bx : List (List Value)) (loc : List (Nat × Ent)) (ts : List (Nat × Value)) (o : Oper) (e : Ent) : Prop :=
  pathOf ops ⟨loc, ⟨ts, bx⟩⟩ o.guard = some (e.p, e.c) ∧
  ((∃ s x y t b1 b2, o.op = .pick (.tmp s) x y ∧ eta e.p ⟨loc, ⟨ts, bx⟩⟩ (.tmp s) = some (.bool t) ∧ etaPick ops e.p ⟨loc, ⟨ts, bx⟩⟩ s true x = some (.bool b1) ∧ etaPick ops e.p ⟨loc, ⟨ts, bx⟩⟩ s false y = some (.bool b2) ∧ e.v = .bool (cond t b1 b2)) ∨
   (qval T C H bx (eta e.p ⟨loc, ⟨ts, bx⟩⟩) o.op = .val e.v ∨ (∃ q, qval T C H bx (eta e.p ⟨loc, ⟨ts, bx⟩⟩) o.op = .ask q e.v ∧ und e.p e.c q) ∨ (∃ q, qval T C H bx (eta e.p ⟨loc, ⟨ts, bx⟩⟩) o.op = .find q ∧ und e.p e.c (q e.v)) ∨
     (∃ f args, qval T C H bx (eta e.p ⟨loc, ⟨ts, bx⟩⟩) o.op = .call f args ∧ und e.p e.c (PC P f args H e.v)) ∨ (e.p ≠ [] ∧ e.c = false)))

/-- How far what is said of an operation reaches: 0: here; 1: to heaps in which all that lives here lives; 2: to every heap. -/
def kOf (lt nx : Bool) : Nat := match lt, nx with
  | false, _ => 0
  | true, true => 1
  | true, false => 2
def HSK0 (so : Option (Nat → Prop)) (k : Nat) (P : Program) (T : Tab) (C : CTab) (ops : List Oper) (H : Heap) (bx : List (List Value)) (loc : List (Nat × Ent)) (ts : List (Nat × Value)) (o : Oper) (e : Ent) : Prop :=
  pathOf ops ⟨loc, ⟨ts, bx⟩⟩ o.guard = some (e.p, e.c) ∧
  ((∃ s x y t b1 b2, o.op = .pick (.tmp s) x y ∧ eta e.p ⟨loc, ⟨ts, bx⟩⟩ (.tmp s) = some (.bool t) ∧ etaPick ops e.p ⟨loc, ⟨ts, bx⟩⟩ s true x = some (.bool b1) ∧ etaPick ops e.p ⟨loc, ⟨ts, bx⟩⟩ s false y = some (.bool b2) ∧ e.v = .bool (cond t b1 b2)) ∨
   (qval T C H bx (eta e.p ⟨loc, ⟨ts, bx⟩⟩) o.op = .val e.v ∨ (∃ q, qval T C H bx (eta e.p ⟨loc, ⟨ts, bx⟩⟩) o.op = .ask q e.v ∧ und e.p e.c q ∧ (k = 2 ∨ (k = 1 ∧ so.isSome = true) → isSlice o.op = false)) ∨ (((k = 2 → noHp o.op = true) ∧ (k = 1 → noHp o.op = false → ∀ S, so = some S → OnS S (eta e.p ⟨loc, ⟨ts, bx⟩⟩) o.op)) ∧ ∃ q, qval T C H bx (eta e.p ⟨loc, ⟨ts, bx⟩⟩) o.op = .find q ∧ und e.p e.c (q e.v)) ∨
     (∃ f args, qval T C H bx (eta e.p ⟨loc, ⟨ts, bx⟩⟩) o.op = .call f args ∧ und e.p e.c (PC P f args H e.v) ∧ (k ≠ 0 → und e.p e.c (∀ H', PC P f args H' e.v))) ∨ (e.p ≠ [] ∧ e.c = false)))
theorem HSK0.hs {k : Nat} {bx : List (List Value)} {loc : List (Nat × Ent)} {ts : List (Nat × Value)} {ol : List Oper} {o : Oper} {e : Ent} (h : HSK0 so k P T C ol H bx loc ts o e) : HS P T C ol H bx loc ts o e := by
  obtain ⟨h1, h2⟩ := h
  refine ⟨h1, ?_⟩
  rcases h2 with h2 | h2 | ⟨q, h2, h3, _⟩ | ⟨_, h2⟩ | ⟨f, args, h2, h3, _⟩ | h2
  · exact .inl h2
  · exact .inr (.inl h2)
  · exact .inr (.inr (.inl ⟨q, h2, h3⟩))
  · exact .inr (.inr (.inr (.inl h2)))
  · exact .inr (.inr (.inr (.inr (.inl ⟨f, args, h2, h3⟩))))
  · exact .inr (.inr (.inr (.inr (.inr h2))))
theorem HSK0.weak {bx : List (List Value)} {loc : List (Nat × Ent)} {ts : List (Nat × Value)} {ol : List Oper} {o : Oper} {e : Ent} (h : HSK0 so 2 P T C ol H bx loc ts o e) : HSK0 so 1 P T C ol H bx loc ts o e := by
  obtain ⟨h1, h2⟩ := h
  refine ⟨h1, ?_⟩
  rcases h2 with h2 | h2 | ⟨q, h2, h3, h4⟩ | ⟨hp, h2⟩ | ⟨f, args, h2, h3, h4⟩ | h2
  · exact .inl h2
  · exact .inr (.inl h2)
  · exact .inr (.inr (.inl ⟨q, h2, h3, fun _ => h4 (.inl rfl)⟩))
  · exact .inr (.inr (.inr (.inl ⟨⟨(fun h => by cases h), fun _ hn => by rw [hp.1 rfl] at hn; cases hn⟩, h2⟩)))
  · exact .inr (.inr (.inr (.inr (.inl ⟨f, args, h2, h3, fun _ => h4 (by decide)⟩))))
  · exact .inr (.inr (.inr (.inr (.inr h2))))
/-- Boxes are only added. -/
def BxExt (bx bx' : List (List Value)) : Prop := ∀ k cs, nth bx k = some cs → nth bx' k = some cs
theorem BxExt.refl (bx : List (List Value)) : BxExt bx bx := fun _ _ h => h
theorem Ext.cell' {H H' : Heap} (e : Ext H H') {b o : Nat} {v : Value} (h : H.cell? b o = some v) : H'.cell? b o = some v := by
  unfold Heap.cell? at *
  split at h
  · rename_i cs _ _ hb; rw [e.same _ _ hb]; exact h
  · cases h
theorem Ext.run' {H H' : Heap} (e : Ext H H') {b o n : Nat} {l : List Value} (h : H.run? b o n = some l) : H'.run? b o n = some l := by
  unfold Heap.run? at *
  split at h
  · rename_i cs _ _ hb; rw [e.same _ _ hb]; exact h
  · cases h
theorem Ext.aggAt' {H H' : Heap} (e : Ext H H') {b o n : Nat} {v : Value} (h : H.aggAt b o n v) : H'.aggAt b o n v := by
  unfold Heap.aggAt at *
  split at h
  · exact e.run' h
  · exact h.elim
/-- What an operation that leaves the heap alone says of later heaps. -/
def RExt (sl : Bool) (E : Prop) : Res → Res → Prop
  | .val v, r' => r' = .val v
  | .ask q v, r' => ∃ q', r' = .ask q' v ∧ ((sl = false ∨ E) → q → q')
  | .find q, r' => ∃ q', r' = .find q' ∧ (E → ∀ v, q v → q' v)
  | .call f args, r' => r' = .call f args
  | _, _ => True
theorem RExt.refl (sl : Bool) (E : Prop) (r : Res) : RExt sl E r r := by
  cases r with
  | val v => exact rfl
  | ask q v => exact ⟨q, rfl, fun _ h => h⟩
  | find q => exact ⟨q, rfl, fun _ _ h => h⟩
  | call f args => exact rfl
  | eff => trivial
  | fail => trivial
theorem qval_ext {H' : Heap} {bx bx' : List (List Value)} (hb : BxExt bx bx') {η : Operand → Option Value} {op : Op} : RExt (isSlice op) (Ext H H') (qval T C H bx η op) (qval T C H' bx' η op) := by
  cases op
  case load t x =>
    simp only [qval]
    generalize T t = ti
    generalize η x = xv
    cases ti with
    | none => trivial
    | some i =>
      cases xv with
      | none => trivial
      | some u =>
        simp only
        unfold loadA
        split
        · rename_i k o sp
          cases hk : nth bx k with
          | none => trivial
          | some cs => rw [hb _ _ hk]; exact RExt.refl _ _ _
        · rename_i b o
          cases i.agg with
          | true => exact ⟨_, rfl, fun e v h => e.aggAt' h⟩
          | false => exact ⟨_, rfl, fun e v h => e.cell' h⟩
        · trivial
  case lookup t m k ok =>
    simp only [qval]
    split
    · split
      · refine ⟨_, rfl, fun e v h => ?_⟩
        obtain ⟨es, h1, h2⟩ := h
        exact ⟨es, e.same _ _ h1, h2⟩
      · trivial
    · trivial
  case slice t x lo hi mx =>
    cases mx with
    | some m => exact RExt.refl _ _ _
    | none =>
      simp only [qval]
      generalize η x = xv
      cases xv with
      | none => trivial
      | some u =>
        simp only
        unfold sliceA
        split
        · exact RExt.refl _ _ _
        · split
          · split
            · refine ⟨_, rfl, fun e h => ?_⟩
              rcases e with e | e
              · cases e
              · obtain ⟨h1, h2, h3, cs, rw_, h4⟩ := h
                exact ⟨h1, h2, h3, cs, rw_, e.same _ _ h4⟩
            · trivial
          · trivial
        · trivial
  case convert s d x =>
    simp only [qval]
    split
    · rename_i a hd
      split
      · exact RExt.refl _ _ _
      · exact RExt.refl _ _ _
      · unfold strA
        split
        · split
          · exact RExt.refl _ _ _
          · refine ⟨_, rfl, fun e v h => ?_⟩
            obtain ⟨ns, h1, h2⟩ := h
            exact ⟨ns, e.run' h1, h2⟩
          · trivial
        · trivial
        · trivial
    · trivial
  all_goals exact RExt.refl _ _ _
theorem und_mono {p : Path} {c : Bool} {q q' : Prop} (hq : q → q') (h : und p c q) : und p c q' := by
  cases p with
  | nil => exact hq h
  | cons => exact fun hc => hq (h hc)
theorem pathOf_bx {ol : List Oper} {loc : List (Nat × Ent)} {ts : List (Nat × Value)} {bx bx' : List (List Value)} (g : Option (Nat × Bool)) : pathOf ol ⟨loc, ⟨ts, bx⟩⟩ g = pathOf ol ⟨loc, ⟨ts, bx'⟩⟩ g := rfl
theorem noHp_same {H' : Heap} {bx bx' : List (List Value)} {η : Operand → Option Value} {op : Op} (h : noHp op = true) : qval T C H bx η op = qval T C H' bx' η op := by
  cases op <;> first | (cases h; done) | rfl
theorem find_on {S : Nat → Prop} {H' : Heap} (he : ExtS S H H') {bx bx' : List (List Value)} {η : Operand → Option Value} {op : Op} (ho : OnS S η op) {q : Value → Prop} (hq : qval T C H bx η op = .find q) : ∃ q', qval T C H' bx' η op = .find q' ∧ ∀ v, q v → q' v := by
  cases op <;> first | exact ho.elim | skip
  rename_i t x
  simp only [qval] at hq ⊢
  simp only [OnS] at ho
  generalize T t = ti at *
  generalize η x = xv at *
  cases ti with
  | none => cases hq
  | some i =>
    cases xv with
    | none => cases hq
    | some u =>
      simp only at hq ho ⊢
      unfold loadA at hq ⊢
      split at hq
      · exfalso
        split at hq
        · split at hq
          · rename_i l _
            cases hp : packV i.agg l with
            | none => rw [hp] at hq; cases hq
            | some v => rw [hp] at hq; cases hq
          · cases hq
        · cases hq
      · rename_i b o
        have hS : S b := ho
        cases ha : i.agg with
        | true =>
          rw [ha] at hq; cases hq
          refine ⟨_, rfl, fun v h => ?_⟩
          unfold Heap.aggAt Heap.run? at *
          cases v with
          | agg cs =>
            simp only at h ⊢
            cases hb : H.blk b with
            | none => rw [hb] at h; cases h
            | some c => rw [hb] at h; rw [he b c hS hb]; exact h
          | _ => exact h
        | false =>
          rw [ha] at hq; cases hq
          refine ⟨_, rfl, fun v h => ?_⟩
          unfold Heap.cell? at *
          cases hb : H.blk b with
          | none => rw [hb] at h; cases h
          | some c => rw [hb] at h; rw [he b c hS hb]; exact h
      · cases hq
theorem HSK0.ext {k : Nat} (hk : k = 1 ∨ k = 2) {H' : Heap} {bx bx' : List (List Value)} (hb : BxExt bx bx') (he : k = 1 → ExtO so H H') {loc : List (Nat × Ent)} {ts : List (Nat × Value)} {ol : List Oper} {o : Oper} {e : Ent}
    (h : HSK0 so k P T C ol H bx loc ts o e) : HSK0 so k P T C ol H' bx' loc ts o e := by
  obtain ⟨h1, h2⟩ := h
  refine ⟨h1, ?_⟩
  have key : RExt (isSlice o.op) (Ext H H') (qval T C H bx (eta e.p ⟨loc, ⟨ts, bx⟩⟩) o.op) (qval T C H' bx' (eta e.p ⟨loc, ⟨ts, bx'⟩⟩) o.op) := qval_ext hb
  rcases h2 with h2 | h2 | ⟨q, h2, h3, h4⟩ | ⟨h2, q, h3, h4⟩ | ⟨f, args, h2, h3, h4⟩ | h2
  · exact .inl h2
  · rw [h2] at key
    exact .inr (.inl key)
  · rw [h2] at key
    obtain ⟨q', k1, k2⟩ := key
    refine .inr (.inr (.inl ⟨q', k1, und_mono (k2 ?_) h3, h4⟩))
    rcases hk with hk | hk
    · cases so with
      | none => exact .inr (he hk)
      | some S => exact .inl (h4 (.inr ⟨hk, rfl⟩))
    · exact .inl (h4 (.inl hk))
  · have same : noHp o.op = true → qval T C H' bx' (eta e.p ⟨loc, ⟨ts, bx'⟩⟩) o.op = .find q := fun hn => by
      have hn := noHp_same (T := T) (C := C) (H := H) (H' := H') (bx := bx) (bx' := bx') (η := eta e.p ⟨loc, ⟨ts, bx⟩⟩) hn
      rw [← h3]; exact hn.symm
    rcases hk with hk | hk
    · rcases Bool.eq_false_or_eq_true (noHp o.op) with hn | hn
      · exact .inr (.inr (.inr (.inl ⟨h2, q, same hn, h4⟩)))
      · cases so with
        | none =>
          rw [h3] at key
          obtain ⟨q', k1, k2⟩ := key
          exact .inr (.inr (.inr (.inl ⟨h2, q', k1, und_mono (k2 (he hk) _) h4⟩)))
        | some S =>
          obtain ⟨q', k1, k2⟩ := find_on (bx' := bx') (he hk) (h2.2 hk hn S rfl) h3
          exact .inr (.inr (.inr (.inl ⟨h2, q', k1, und_mono (k2 _) h4⟩)))
    · exact .inr (.inr (.inr (.inl ⟨h2, q, same (h2.1 hk), h4⟩)))
  · rw [h2] at key
    have hk0 : k ≠ 0 := by rcases hk with hk | hk <;> rw [hk] <;> decide
    exact .inr (.inr (.inr (.inr (.inl ⟨f, args, key, und_mono (fun h => h H') (h4 hk0), h4⟩))))
  · exact .inr (.inr (.inr (.inr (.inr h2))))

/-- What an operation comes to hangs on no box. -/
def BF (T : Tab) (C : CTab) (η : Operand → Option Value) (op : Op) : Prop := ∀ (H' : Heap) (bx bx' : List (List Value)), qval T C H' bx η op = qval T C H' bx' η op
theorem bf_noload {η : Operand → Option Value} {op : Op} (h : isLoad op = false) : BF T C η op := fun H' bx bx' => by
  cases op
  case slice t x lo hi mx => cases mx <;> rfl
  all_goals first | (cases h; done) | rfl
theorem bf_res {bx : List (List Value)} {η : Operand → Option Value} {op : Op} {r : Res} (hq : qval T C H bx η op = r) (hv : ∀ v, r ≠ .val v) (hf : r ≠ .fail) : BF T C η op := fun H' b b' => by
  cases hl : isLoad op with
  | false => exact bf_noload hl H' b b'
  | true =>
    cases op <;> first | (cases hl; done) | skip
    rename_i t x
    simp only [qval] at hq ⊢
    cases ht : T t with
    | none => rfl
    | some i =>
      cases hx : η x with
      | none => rfl
      | some u =>
        rw [ht, hx] at hq
        simp only at hq ⊢
        unfold loadA at hq ⊢
        split at hq
        · exfalso
          split at hq
          · split at hq
            · rename_i l _
              cases hp : packV i.agg l with
              | none => rw [hp] at hq; exact hf hq.symm
              | some v => rw [hp] at hq; exact hv v hq.symm
            · exact hf hq.symm
          · exact hf hq.symm
        · rfl
        · rfl
def HSK (so : Option (Nat → Prop)) (u : Bool) (k : Nat) (P : Program) (T : Tab) (C : CTab) (ops : List Oper) (H : Heap) (bx : List (List Value)) (loc : List (Nat × Ent)) (ts : List (Nat × Value)) (o : Oper) (e : Ent) : Prop :=
  HSK0 so k P T C ops H bx loc ts o e ∧ (u = true → BF T C (eta e.p ⟨loc, ⟨ts, bx⟩⟩) o.op ∨ (e.p ≠ [] ∧ e.c = false))
theorem HSK.hs {u : Bool} {k : Nat} {bx : List (List Value)} {loc : List (Nat × Ent)} {ts : List (Nat × Value)} {ol : List Oper} {o : Oper} {e : Ent} (h : HSK so u k P T C ol H bx loc ts o e) : HS P T C ol H bx loc ts o e := h.1.hs
theorem HSK.ext {u : Bool} {k : Nat} (hk : k = 1 ∨ k = 2) {H' : Heap} {bx bx' : List (List Value)} (hb : BxExt bx bx') (he : k = 1 → ExtO so H H') {loc : List (Nat × Ent)} {ts : List (Nat × Value)} {ol : List Oper} {o : Oper} {e : Ent}
    (h : HSK so u k P T C ol H bx loc ts o e) : HSK so u k P T C ol H' bx' loc ts o e := ⟨h.1.ext hk hb he, h.2⟩
/-- Whatever becomes of the boxes. -/
theorem HSK.extS {k : Nat} (hk : k = 1 ∨ k = 2) {H' : Heap} {bx bx' : List (List Value)} (he : k = 1 → ExtO so H H') {loc : List (Nat × Ent)} {ts : List (Nat × Value)} {ol : List Oper} {o : Oper} {e : Ent}
    (h : HSK so true k P T C ol H bx loc ts o e) : HSK so true k P T C ol H' bx' loc ts o e := by
  refine ⟨?_, h.2⟩
  obtain ⟨⟨h1, h2⟩, h3⟩ := h
  rcases h3 rfl with h3 | h3
  · have e1 : qval T C H bx (eta e.p ⟨loc, ⟨ts, bx⟩⟩) o.op = qval T C H bx' (eta e.p ⟨loc, ⟨ts, bx'⟩⟩) o.op := h3 H bx bx'
    refine HSK0.ext hk (BxExt.refl bx') he ⟨h1, ?_⟩
    rw [← e1]
    exact h2
  · exact ⟨h1, .inr (.inr (.inr (.inr (.inr h3))))⟩

theorem askK_off {op : Op} {X : Prop} (h : askK so false op X) : X := by cases so <;> exact h
theorem askK_no {lt : Bool} {op : Op} {X : Prop} (hs : isSlice op = false) (h : askK so lt op X) : X := by
  cases so with
  | none => exact h
  | some S => cases lt with
    | false => exact h
    | true => simp only [askK, hs] at h; exact h
theorem askK_yes {op : Op} {X : Prop} (hs : isSlice op = true) (h : askK so true op X) : so.isSome = false ∧ X := by
  cases so with
  | none => exact ⟨rfl, h⟩
  | some S => simp only [askK, hs] at h
theorem onK_off {η : Operand → Option Value} {op : Op} {X : Prop} (h : onK so false η op X) : X := by cases so <;> exact h
theorem onK_no {lt : Bool} {η : Operand → Option Value} {op : Op} {X : Prop} (hs : noHp op = true) (h : onK so lt η op X) : X := by
  cases so with
  | none => exact h
  | some S => cases lt with
    | false => exact h
    | true => simp only [onK, hs] at h; exact h
theorem onK_yes {η : Operand → Option Value} {op : Op} {X : Prop} (hs : noHp op = false) (h : onK so true η op X) : (∀ S, so = some S → OnS S η op) ∧ X := by
  cases so with
  | none => exact ⟨fun S e => (by cases e), h⟩
  | some S => simp only [onK, hs] at h; exact ⟨fun S' e => (by cases e; exact h.1), h.2⟩
theorem headF_spec {o : Oper} {lt ub nx : Bool} {K : Bool → RS → Prop} (h : headF P T C so ops.toList o lt ub nx rs H K) : ∃ e nx', HSK so ub (kOf lt nx') P T C ops.toList H rs.env.boxes rs.loc rs.env.tmps o e ∧ (nx = true → nx' = true) ∧ K nx' (rs.put o.dst e) := by
  unfold headF at h
  split at h
  · exact h.elim
  · rename_i p c hp
    split at h
    · rename_i s x y hop
      split at h
      · rename_i t b1 b2 h1 h2 h3
        exact ⟨⟨.bool (cond t b1 b2), p, c⟩, nx, ⟨⟨hp, .inl ⟨s, x, y, t, b1, b2, hop, h1, h2, h3, rfl⟩⟩, fun _ => .inl (fun _ _ _ => by rw [hop]; rfl)⟩, id, h⟩
      · exact h.elim
    · generalize hq : qval T C H rs.env.boxes (eta p rs) o.op = r at h
      cases r with
      | val v =>
        cases ub with
        | false => exact ⟨⟨v, p, c⟩, nx, ⟨⟨hp, .inr (.inl hq)⟩, fun e => by cases e⟩, id, h⟩
        | true =>
          cases hl : isLoad o.op with
          | true => rw [hl] at h; exact h.elim
          | false =>
            rw [hl] at h
            exact ⟨⟨v, p, c⟩, nx, ⟨⟨hp, .inr (.inl hq)⟩, fun _ => .inl (bf_noload hl)⟩, id, h⟩
      | ask q v =>
        cases lt with
        | false => exact ⟨⟨v, p, c⟩, nx, ⟨⟨hp, .inr (.inr (.inl ⟨q, hq, h.1, fun e => by simp [kOf] at e⟩))⟩, fun _ => .inl (bf_res hq (fun v e => by cases e) (fun e => by cases e))⟩, id, askK_off h.2⟩
        | true =>
          cases hs : isSlice o.op with
          | true =>
            have h' := askK_yes hs h.2
            rw [hs] at h'
            have hx : kOf true true = 2 ∨ (kOf true true = 1 ∧ so.isSome = true) → isSlice o.op = false := fun e => by
              rcases e with e | ⟨_, e⟩
              · cases e
              · rw [h'.1] at e; cases e
            exact ⟨⟨v, p, c⟩, true, ⟨⟨hp, .inr (.inr (.inl ⟨q, hq, h.1, hx⟩))⟩, fun _ => .inl (bf_res hq (fun v e => by cases e) (fun e => by cases e))⟩, fun _ => rfl, h'.2⟩
          | false =>
            have h' := askK_no hs h.2
            rw [hs] at h'
            exact ⟨⟨v, p, c⟩, nx, ⟨⟨hp, .inr (.inr (.inl ⟨q, hq, h.1, fun _ => hs⟩))⟩, fun _ => .inl (bf_res hq (fun v e => by cases e) (fun e => by cases e))⟩, id, h'⟩
      | find q =>
        obtain ⟨v, h1, h2⟩ := h
        cases lt with
        | false => exact ⟨⟨v, p, c⟩, nx, ⟨⟨hp, .inr (.inr (.inr (.inl ⟨⟨by simp [kOf], by simp [kOf]⟩, q, hq, h1⟩)))⟩, fun _ => .inl (bf_res hq (fun v e => by cases e) (fun e => by cases e))⟩, id, onK_off h2⟩
        | true =>
          cases hs : noHp o.op with
          | false =>
            obtain ⟨hon, h2⟩ := onK_yes hs h2
            rw [hs] at h2
            exact ⟨⟨v, p, c⟩, true, ⟨⟨hp, .inr (.inr (.inr (.inl ⟨⟨by simp [kOf], fun _ _ => hon⟩, q, hq, h1⟩)))⟩, fun _ => .inl (bf_res hq (fun v e => by cases e) (fun e => by cases e))⟩, fun _ => rfl, h2⟩
          | true =>
            have h2 := onK_no hs h2
            rw [hs] at h2
            exact ⟨⟨v, p, c⟩, nx, ⟨⟨hp, .inr (.inr (.inr (.inl ⟨⟨fun _ => hs, fun _ hf => by rw [hs] at hf; cases hf⟩, q, hq, h1⟩)))⟩, fun _ => .inl (bf_res hq (fun v e => by cases e) (fun e => by cases e))⟩, id, h2⟩
      | call f args =>
        cases lt with
        | true =>
          obtain ⟨v, h1, h2⟩ := h
          exact ⟨⟨v, p, c⟩, nx, ⟨⟨hp, .inr (.inr (.inr (.inr (.inl ⟨f, args, hq, und_mono (fun h => h H) h1, fun _ => h1⟩))))⟩, fun _ => .inl (bf_res hq (fun v e => by cases e) (fun e => by cases e))⟩, id, h2⟩
        | false =>
          obtain ⟨v, h1, h2⟩ := h
          exact ⟨⟨v, p, c⟩, nx, ⟨⟨hp, .inr (.inr (.inr (.inr (.inl ⟨f, args, hq, h1, fun h => absurd rfl h⟩))))⟩, fun _ => .inl (bf_res hq (fun v e => by cases e) (fun e => by cases e))⟩, id, h2⟩
      | eff => exact h.elim
      | fail =>
        cases p with
        | nil => exact h.elim
        | cons y r => exact ⟨⟨.bool false, y :: r, c⟩, nx, ⟨⟨hp, .inr (.inr (.inr (.inr (.inr ⟨fun e => (by cases e), h.1⟩))))⟩, fun _ => .inr ⟨fun e => (by cases e), h.1⟩⟩, id, h.2⟩

theorem und_of {p : Path} {c : Bool} {q : Prop} (h : und p c q) (hc : c = true) : q := by
  cases p with
  | nil => exact h
  | cons => exact h hc

/-- Whenever it comes up, an operation of a head does what the walk says. -/
theorem HS_sound (hT : TOK P T) (hC : COK P C) (hn0 : NoPriv own0) (hg : gOK N ops.toList = true) (S : RSim N π ρ own ops D rs H a w) (g : Guar ρ0 own0 w0 ρ own w) {o : Oper} (ho : ops[i]? = some o) (hDi : ¬ D i) (hDg : ∀ j wt, o.guard = some (j, wt) → D j)
    {e : Ent} (h : HS P T C ops.toList H rs.env.boxes rs.loc rs.env.tmps o e) {D' : Nat → Prop} (hDD : ∀ j, D j → D' j) {K' : Act → World → Prop} {Q' : Exit → Act → World → Prop}
    (hK : ∀ ρ' own' a' w', RSim N π ρ' own' ops D' (rs.put o.dst e) H a' w' → Guar ρ0 own0 w0 ρ' own' w' → K' a' w') :
    if Region.wanted o (yielded ops a.tmps) then o.wp P a w K' Q' else K' (a.put o.dst undef) w := by
  obtain ⟨v, p, c⟩ := e
  obtain ⟨hpath, h⟩ := h
  obtain ⟨hw, hc, hcn, hwf⟩ := path_spec hg S ho hDg hpath
  by_cases hh : holds ops a p
  · rw [if_pos (hw.2 hh)]
    have go : ∀ v' ρ' own' w', TRel π ρ' v v' → BW π ρ' own' rs.env.boxes H w' → Rho.le ρ ρ' → Guar ρ0 own0 w0 ρ' own' w' → K' (a.put o.dst v') w' := fun v' ρ' own' w' k1 k2 k3 k4 =>
      hK _ _ _ _ (RSim.put hg S ho hDi hDD k2 k3 ⟨[], by simp⟩ ⟨v, p, c⟩ v' (fun _ => ⟨k1, hc hh⟩) (fun q => absurd hh q) hwf) k4
    have qs := qval_sound (P := P) (o := o) hT hC S.toBase (fun x _ v hv => eta_sound S hh x v hv)
    have fin : (∃ v' w', (execOp a.eval o).run P w = .ok (.value v') w' ∧ TRel π ρ v v' ∧ Same w w') → o.wp P a w K' Q' := fun ⟨v', w', e1, e2, e3⟩ => by
      unfold Oper.wp
      rw [e1]
      exact go v' ρ own w' e2 (S.toBW.of_heap e3.heap) (Rho.le_refl _) (g.of_heap e3)
    rcases h with ⟨s, x, y, t, b1, b2, hop, h1, h2, h3, hv⟩ | h | ⟨q, h1, h2⟩ | ⟨q, h1, h2⟩ | ⟨f, args, h1, h2⟩ | h
    · simp only at hv
      subst hv
      have hs := eta_sound S hh _ _ h1
      have hst : a.tmps.getD s undef = .bool t := by
        have : a.eval (.tmp s) = .bool t := by
          generalize a.eval (.tmp s) = u at hs
          cases hs with
          | pub hs => cases hs; rfl
        exact this
      have hsN : s < N := by
        rcases Nat.lt_or_ge s N with q | q
        · exact q
        · exfalso
          have hsz : a.tmps.size ≤ s := by rw [S.size]; exact q
          rw [show a.tmps.getD s undef = undef by simp [Array.getD, Nat.not_lt.2 hsz]] at hst
          cases hst
      have he : (execOp a.eval o).run P w = .ok (.value (if t then a.eval x else a.eval y)) w := by
        have hev : a.eval (.tmp s) = .bool t := hst
        simp only [execOp, hop, hev, asBool, pure_bind]; rfl
      refine fin ⟨_, w, he, ?_, rfl⟩
      cases t with
      | true => exact etaPick_sound S hh hsN hst rfl x _ h2
      | false => exact etaPick_sound S hh hsN hst rfl y _ h3
    · exact fin (qs.1 v (.inl h))
    · exact fin (qs.1 v (.inr (.inl ⟨q, h1, und_of h2 (hc hh)⟩)))
    · exact fin (qs.1 v (.inr (.inr ⟨q, h1, und_of h2 (hc hh)⟩)))
    · obtain ⟨cargs, e1, e2⟩ := qs.2 f args h1
      refine call_sound S.toBW hn0 g e1 e2 (und_of h2 (hc hh)) (fun v0 H' ρ' own' v' w' k1 k2 k3 k4 k5 => ?_) (fun v0 H' ρ' own' v' w' k1 k2 k4 k5 => ?_)
      · obtain ⟨k1, rfl⟩ := k1
        cases k1
        exact go v' ρ' own' w' (.pub k2) k4 k3 k5
      · cases k1.1
    · have := hc hh
      rw [h.2] at this
      cases this
  · rw [if_neg (fun q => hh (hw.1 q))]
    exact hK _ _ _ _ (RSim.put hg S ho hDi hDD S.toBW (Rho.le_refl _) ⟨[], by simp⟩ ⟨v, p, c⟩ undef (fun q => absurd q hh) (fun q => ⟨rfl, hcn q⟩) hwf) g

/-! The same operation over other lists that agree where it looks. -/
theorem evs_congr {η η' : Operand → Option Value} : ∀ (l : List Operand), (∀ x ∈ l, η x = η' x) → evs η l = evs η' l
  | [], _ => rfl
  | x :: r, h => by simp only [evs, h x (by simp), evs_congr r (fun y hy => h y (by simp [hy]))]
theorem fillA_congr {place : Nat → Option (Nat × Nat)} {η η' : Operand → Option Value} : ∀ (l : List (Nat × Operand)) (cs : List Value), (∀ x ∈ l, η x.2 = η' x.2) → fillA place η l cs = fillA place η' l cs
  | [], _, _ => rfl
  | (i, x) :: r, cs, h => by
    simp only [fillA, h (i, x) (by simp)]
    split
    · split
      · split
        · exact fillA_congr r _ (fun y hy => h y (by simp [hy]))
        · rfl
      · rfl
    · rfl
theorem qval_congr {bx : List (List Value)} {η η' : Operand → Option Value} {op : Op} (h : ∀ x ∈ op.operands, η x = η' x) : qval T C H bx η op = qval T C H bx η' op := by
  cases op <;> simp only [Op.operands] at h <;> simp only [qval]
  case move x => rw [h x (by simp)]
  case assign x => rw [h x (by simp)]
  case fieldAddr s x f => rw [h x (by simp)]
  case field s x f => rw [h x (by simp)]
  case load t x => rw [h x (by simp)]
  case indexAddr t x i => rw [h x (by simp), h i (by simp)]
  case index t x i => rw [h x (by simp), h i (by simp)]
  case nilCheck x => rw [h x (by simp)]
  case lookup t m k ok => rw [h m (by simp), h k (by simp)]
  case binOp op t x y u => rw [h x (by simp), h y (by simp)]
  case unOp op t x => rw [h x (by simp)]
  case convert s d x => rw [h x (by simp)]
  case extract x i => rw [h x (by simp)]
  case makeInterface t x => rw [h x (by simp)]
  case build t ps =>
    have hp : ∀ x ∈ ps.toList, η x.2 = η' x.2 := fun x hx => h x.2 (by simp only [List.mem_toArray, List.mem_map]; exact ⟨x, hx, rfl⟩)
    simp only [fillA_congr ps.toList _ hp]
  case makeFunc fn first cap => rw [evs_congr cap.toList (fun x hx => h x (by simp; exact .inr (by simpa using hx)))]
  case slice t x lo hi mx =>
    cases mx with
    | some m => rfl
    | none =>
      have h1 : lo.map η = lo.map η' := by
        cases lo with
        | none => rfl
        | some y => simp [h y (by simp)]
      have h2 : hi.map η = hi.map η' := by
        cases hi with
        | none => rfl
        | some y => simp [h y (by simp)]
      simp only [h x (by simp), h1, h2]
  case call c =>
    obtain ⟨callee, as_, ts⟩ := c
    have ha : ∀ x ∈ as_.toList, η x = η' x := fun x hx => h x (by simp [Call.operands]; exact .inr (by simpa using hx))
    simp only [callA]
    cases callee with
    | builtin b =>
      simp only
      split
      · rename_i x t hx ht
        rw [ha x (by rw [hx]; simp)]
      · rename_i x y hx
        rw [ha x (by rw [hx]; simp), ha y (by rw [hx]; simp)]
      · rfl
    | value g => simp only [h g (by simp [Call.operands]), evs_congr as_.toList ha]
    | invoke r m => rfl

theorem mem_looks {o : Oper} {t : Tmp} (h : Operand.tmp t ∈ o.op.operands) : t ∈ o.looksAt ops := by
  unfold Oper.looksAt
  refine List.mem_append.2 (.inl ?_)
  exact List.mem_filterMap.2 ⟨.tmp t, by simpa using h, rfl⟩
theorem guard_looks {o : Oper} {j : Nat} {b : Bool} {d : Tmp} (h : o.guard = some (j, b)) (hd : (ops[j]?).bind (·.dst) = some d) : d ∈ o.looksAt ops := by
  unfold Oper.looksAt
  refine List.mem_append.2 (.inr ?_)
  simp [h, hd]

theorem OnS_congr {S : Nat → Prop} {η η' : Operand → Option Value} {op : Op} (h : ∀ x ∈ op.operands, η x = η' x) (ho : OnS S η op) : OnS S η' op := by
  cases op <;> first | exact ho.elim | skip
  rename_i t x
  simp only [OnS] at ho ⊢
  rw [← h x (by simp [Op.operands])]
  exact ho
theorem HSK0_congr {k : Nat} {bx : List (List Value)} {loc loc' : List (Nat × Ent)} {ts : List (Nat × Value)} {o : Oper} {e : Ent} (hl : ∀ t ∈ o.looksAt ops, lk loc t = lk loc' t) (h : HSK0 so k P T C ops.toList H bx loc ts o e) : HSK0 so k P T C ops.toList H bx loc' ts o e := by
  have hη : ∀ x ∈ o.op.operands, eta e.p ⟨loc, ⟨ts, bx⟩⟩ x = eta e.p ⟨loc', ⟨ts, bx⟩⟩ x := fun x hx => by
    cases x with
    | tmp t => simp only [eta, hl t (mem_looks hx)]
    | _ => rfl
  have hpk : ∀ s want x, x ∈ o.op.operands → etaPick ops.toList e.p ⟨loc, ⟨ts, bx⟩⟩ s want x = etaPick ops.toList e.p ⟨loc', ⟨ts, bx⟩⟩ s want x := fun s want x hx => by
    cases x with
    | tmp t => simp only [etaPick, hl t (mem_looks hx)]
    | _ => rfl
  obtain ⟨h1, h2⟩ := h
  refine ⟨?_, ?_⟩
  · rw [← h1]
    cases hgd : o.guard with
    | none => rfl
    | some jw =>
      obtain ⟨j, b⟩ := jw
      simp only [pathOf]
      cases hd : dstOf ops.toList j with
      | none => rfl
      | some d => simp only [hl d (guard_looks hgd (by rw [← dstOf_eq]; exact hd))]
  · rw [← qval_congr hη]
    rcases h2 with ⟨s, x, y, t, b1, b2, hop, k1, k2, k3, hv⟩ | h2
    · refine .inl ⟨s, x, y, t, b1, b2, hop, ?_, ?_, ?_, hv⟩
      · rw [← hη _ (by rw [hop]; simp [Op.operands])]; exact k1
      · rw [← hpk _ _ _ (by rw [hop]; simp [Op.operands])]; exact k2
      · rw [← hpk _ _ _ (by rw [hop]; simp [Op.operands])]; exact k3
    · rcases h2 with h2 | h2 | ⟨⟨g1, g2⟩, h2⟩ | h2
      · exact .inr (.inl h2)
      · exact .inr (.inr (.inl h2))
      · exact .inr (.inr (.inr (.inl ⟨⟨g1, fun a b S e => OnS_congr hη (g2 a b S e)⟩, h2⟩)))
      · exact .inr (.inr (.inr (.inr h2)))
theorem HSK_congr {u : Bool} {k : Nat} {bx : List (List Value)} {loc loc' : List (Nat × Ent)} {ts : List (Nat × Value)} {o : Oper} {e : Ent} (hl : ∀ t ∈ o.looksAt ops, lk loc t = lk loc' t) (h : HSK so u k P T C ops.toList H bx loc ts o e) : HSK so u k P T C ops.toList H bx loc' ts o e := by
  refine ⟨HSK0_congr hl h.1, fun hu => ?_⟩
  rcases h.2 hu with h | h
  · refine .inl fun H' b b' => ?_
    have hη : ∀ x ∈ o.op.operands, eta e.p ⟨loc, ⟨ts, bx⟩⟩ x = eta e.p ⟨loc', ⟨ts, bx⟩⟩ x := fun x hx => by
      cases x with
      | tmp t => simp only [eta, hl t (mem_looks hx)]
      | _ => rfl
    rw [← qval_congr hη, ← qval_congr hη]
    exact h H' b b'
  · exact .inr h
end
end Go.Am

set_option linter.unusedVariables false
namespace Go.Am

section
variable {P : Program} {T : Tab} {C : CTab} {pv : Nat → Bool} {ρ ρ0 : Rho} {own own0 : Nat → Owner} {H : Heap} {w w0 : World} {π : List Nat} {N i : Nat} {a : Act} {ops : Array Oper}

/-- An operation waits for another, through others too. -/
inductive Reach (ops : Array Oper) : Nat → Nat → Prop
  | one {j i : Nat} (h : Region.waitsFor .any ops j i = true) : Reach ops j i
  | more {j m i : Nat} (h : Reach ops j m) (h' : Region.waitsFor .any ops m i = true) : Reach ops j i
theorem needL_spec {ops : Array Oper} {j : Nat} : ∀ (m : Nat) (acc : List Nat), (∀ x ∈ acc, x = j ∨ Reach ops j x) → ∀ x ∈ needL ops m acc, x = j ∨ Reach ops j x
  | 0, acc, h, x, hx => h x hx
  | m + 1, acc, h, x, hx => by
    refine needL_spec m _ ?_ x hx
    intro y hy
    split at hy
    · rename_i ha
      rcases List.mem_cons.1 hy with rfl | hy
      · obtain ⟨k, hk, hw⟩ := List.any_eq_true.1 ha
        rcases h k hk with rfl | hr
        · exact .inr (.one hw)
        · exact .inr (.more hr hw)
      · exact h y hy
    · exact h y hy
/-- What the Bool over a region says. -/
structure PF (ops : Array Oper) (pl : Plan) (late : List Nat) : Prop where
  pos : 0 < pl.length
  tot : ∀ (i : Nat) (o : Oper), ops[i]? = some o → ∃ p fx, findPl 0 pl i = some (p, fx)
  dep : ∀ (i : Nat) (o : Oper) (p : Nat) (fx : Bool), ops[i]? = some o → findPl 0 pl i = some (p, fx) → ∀ e ∈ o.after, Region.binds .any e = true → (fx = false → e.on < i) ∧ ∃ p' fx', findPl 0 pl e.on = some (p', fx') ∧ p' + fx'.toNat ≤ p
  tight : ∀ (i : Nat) (o : Oper) (p : Nat), ops[i]? = some o → findPl 0 pl i = some (p, false) → p = 0 ∨ ∃ e ∈ o.after, Region.binds .any e = true ∧ ∃ p' fx', findPl 0 pl e.on = some (p', fx') ∧ p' + fx'.toNat = p
  hit : ∀ (i j : Nat) (oi oj : Oper) (d : Tmp), ops[i]? = some oi → ops[j]? = some oj → oj.dst = some d → d ∈ oi.looksAt ops → (j < i ∧ Region.waitsFor .any ops i j = true) ∨ (i < j ∧ Region.waitsFor .any ops j i = true)
  dst : ∀ (i j : Nat) (oi oj : Oper) (d : Tmp), ops[i]? = some oi → ops[j]? = some oj → oi.dst = some d → oj.dst = some d → i = j
  ord : ∀ i j p k, i < ops.size → j < ops.size → findPl 0 pl i = some (p, false) → memN i late = false → findPl 0 pl j = some (k, true) → p ≤ k → Reach ops j i
  store : ∀ (i : Nat) (o : Oper) (p j q : Nat), ops[i]? = some o → findPl 0 pl i = some (p, true) → isStore o.op = true → memN j late = true → findPl 0 pl j = some (q, false) → q ≤ p → Reach ops i j ∨ memN (j + 100000) late = true
  all : ∀ (i p j q : Nat), findPl 0 pl i = some (p, true) → i < ops.size → memN (i + 200000) late = true → memN j late = true → findPl 0 pl j = some (q, false) → q ≤ p → (∃ oj, ops[j]? = some oj ∧ noHp oj.op = false) → Reach ops i j
  phase : ∀ p, p < pl.length → phaseB ops pl p = true

theorem memN_mem {i : Nat} : ∀ {l : List Nat}, memN i l = true → i ∈ l
  | [], h => by cases h
  | j :: r, h => by
    unfold memN at h
    split at h
    · rename_i hb; rw [Nat.eq_of_beq_eq_true hb]; exact List.mem_cons_self
    · exact List.mem_cons_of_mem _ (memN_mem h)
theorem planOK_spec {ops : Array Oper} {pl : Plan} {late : List Nat} (h : planOK ops pl late = true) : PF ops pl late := by
  unfold planOK at h
  simp only [Bool.and_eq_true, decide_eq_true_eq, List.all_eq_true, List.mem_range] at h
  obtain ⟨⟨h0, h1⟩, h2⟩ := h
  have key : ∀ (i : Nat) (o : Oper), ops[i]? = some o → ∃ p fx, findPl 0 pl i = some (p, fx) ∧ depsB pl o i p fx = true ∧ tightB pl o p fx = true ∧ ((List.range ops.size).all fun j => pairB ops pl late i p fx j) = true ∧ ((!fx || !isStore o.op || storeB ops pl late i p) = true ∧ (!fx || !memN (i + 200000) late || allB ops pl late i p) = true) := fun i o ho => by
    have := h2 i (Array.getElem?_eq_some_iff.1 ho).1
    unfold planOp at this
    rw [ho] at this
    split at this
    · rename_i p fx o' h1 h2
      cases h2
      simp only [Bool.and_eq_true] at this
      exact ⟨p, fx, h1, this.1.1.1.1, this.1.1.1.2, this.1.1.2, this.1.2, this.2⟩
    · cases this
  have get : ∀ (i : Nat) (o : Oper) (p : Nat) (fx : Bool), ops[i]? = some o → findPl 0 pl i = some (p, fx) → depsB pl o i p fx = true ∧ tightB pl o p fx = true ∧ ((List.range ops.size).all fun j => pairB ops pl late i p fx j) = true ∧ ((!fx || !isStore o.op || storeB ops pl late i p) = true ∧ (!fx || !memN (i + 200000) late || allB ops pl late i p) = true) := fun i o p fx ho hp => by
    obtain ⟨p', fx', k0, k1⟩ := key i o ho
    rw [hp] at k0
    cases k0
    exact k1
  refine ⟨h0, fun i o ho => by obtain ⟨p, fx, k, _⟩ := key i o ho; exact ⟨p, fx, k⟩, fun i o p fx ho hp e he hb => ?_, fun i o p ho hp => ?_, fun i j oi oj d hoi hoj hd hm => ?_, fun i j oi oj d hoi hoj hd hd' => ?_, fun i j p k hi hj hp hl hk hpk => ?_, fun i o p j q ho hp hst hj hq hqp => ?_, fun i p j q hp hi hm hj hq hqp hno => ?_, h1⟩
  · have := (get i o p fx ho hp).1
    unfold depsB at this
    have := List.all_eq_true.1 this e (by simpa using he)
    rw [hb] at this
    simp only [Bool.not_true, Bool.false_or, Bool.and_eq_true, Bool.or_eq_true, decide_eq_true_eq] at this
    refine ⟨fun hfx => by rcases this.1 with h | h; (rw [hfx] at h; cases h); exact h, ?_⟩
    have h2 := this.2
    split at h2
    · rename_i p' fx' hq; exact ⟨p', fx', hq, by simpa using h2⟩
    · cases h2
  · have := (get i o p false ho hp).2.1
    unfold tightB at this
    simp only [Bool.false_or, Bool.or_eq_true, decide_eq_true_eq] at this
    rcases this with this | this
    · exact .inl this
    · obtain ⟨e, he, hb⟩ := List.any_eq_true.1 this
      simp only [Bool.and_eq_true] at hb
      obtain ⟨hb, h2⟩ := hb
      split at h2
      · rename_i p' fx' hq; exact .inr ⟨e, by simpa using he, hb, p', fx', hq, by simpa using h2⟩
      · cases h2
  · obtain ⟨p, fx, hp, _⟩ := key i oi hoi
    have := List.all_eq_true.1 (get i oi p fx hoi hp).2.2.1 j (List.mem_range.2 (Array.getElem?_eq_some_iff.1 hoj).1)
    simp only [pairB, Bool.and_eq_true] at this
    have := this.1.1
    have hhit : hitB ops i j = true := by unfold hitB; simp [hoi, hoj, hd, hm]
    rw [hhit] at this
    simp only [Bool.not_true, Bool.false_or] at this
    split at this
    · rename_i hlt; exact .inl ⟨hlt, this⟩
    · simp at this; exact .inr this
  · obtain ⟨p, fx, hp, _⟩ := key i oi hoi
    have := List.all_eq_true.1 (get i oi p fx hoi hp).2.2.1 j (List.mem_range.2 (Array.getElem?_eq_some_iff.1 hoj).1)
    simp only [pairB, Bool.and_eq_true] at this
    have := this.1.2
    have hs : sameDst ops i j = true := by unfold sameDst; simp [hoi, hoj, hd, hd']
    rw [hs] at this
    simpa using this
  · have := List.all_eq_true.1 (get i ops[i] p false (by simp [hi]) hp).2.2.1 j (List.mem_range.2 hj)
    simp only [pairB, Bool.and_eq_true] at this
    have := this.2
    rw [hl, hk] at this
    simp [hpk] at this
    rcases needL_spec j [j] (fun x hx => .inl (by simpa using hx)) i (by simpa using this.2) with h | h
    · exact absurd h this.1
    · exact h
  · have := (get i o p true ho hp).2.2.2.1
    rw [hst] at this
    simp only [Bool.not_true, Bool.false_or] at this
    unfold storeB at this
    have := List.all_eq_true.1 this j (memN_mem hj)
    rw [hq] at this
    simp [hqp] at this
    rcases this with this | this
    · rcases needL_spec i [i] (fun x hx => .inl (by simpa using hx)) j (by simpa using this.2) with h | h
      · exact absurd h this.1
      · exact .inl h
    · exact .inr this
  · have := (get i ops[i] p true (by simp [hi]) hp).2.2.2.2
    rw [hm] at this
    simp only [Bool.not_true, Bool.false_or] at this
    unfold allB at this
    have := List.all_eq_true.1 this j (memN_mem hj)
    rw [hq] at this
    obtain ⟨oj, hoj, hno⟩ := hno
    simp [hqp, hoj, hno] at this
    rcases needL_spec i [i] (fun x hx => .inl (by simpa using hx)) j (by simpa using this.2) with h | h
    · exact absurd h this.1
    · exact h

def cntU (listed : Array Bool) : Nat → Nat
  | 0 => 0
  | k + 1 => cntU listed k + (if listed.getD k true then 0 else 1)
theorem cntU_set_ge {listed : Array Bool} {i : Nat} : ∀ k, k ≤ i → cntU (listed.setIfInBounds i true) k = cntU listed k
  | 0, _ => rfl
  | k + 1, h => by simp only [cntU]; rw [cntU_set_ge k (by omega), getD_set_ne true (by omega)]
theorem cntU_set {listed : Array Bool} {i : Nat} (hu : listed.getD i true = false) : ∀ k, i < k → cntU (listed.setIfInBounds i true) k + 1 = cntU listed k
  | 0, h => by omega
  | k + 1, h => by
    simp only [cntU]
    by_cases hik : i = k
    · subst hik
      rw [cntU_set_ge i (Nat.le_refl _), hu]
      have : (listed.setIfInBounds i true).getD i true = true := by
        rcases Nat.lt_or_ge i listed.size with q | q
        · simp [q]
        · simp [Nat.not_lt.2 q]
      rw [this]; simp
    · rw [getD_set_ne true hik, ← cntU_set hu k (by omega)]; omega
theorem min_unl {listed : Array Bool} (rank : Nat → Nat) : ∀ k, 0 < cntU listed k → ∃ i, i < k ∧ listed.getD i true = false ∧ ∀ j, j < k → listed.getD j true = false → rank i ≤ rank j
  | 0, h => by simp [cntU] at h
  | k + 1, h => by
    by_cases h0 : 0 < cntU listed k
    · obtain ⟨i, h1, h2, h3⟩ := min_unl rank k h0
      by_cases hk : listed.getD k true = false ∧ rank k < rank i
      · refine ⟨k, by omega, hk.1, fun j hj hu => ?_⟩
        by_cases hjk : j = k
        · subst hjk; exact Nat.le_refl _
        · have := h3 j (by omega) hu; omega
      · refine ⟨i, by omega, h2, fun j hj hu => ?_⟩
        by_cases hjk : j = k
        · subst hjk
          exact Nat.le_of_not_lt fun hlt => hk ⟨hu, hlt⟩
        · exact h3 j (by omega) hu
    · have hz : ∀ m, cntU listed m = 0 → ∀ j, j < m → listed.getD j true = true := by
        intro m
        induction m with
        | zero => intro _ j hj; omega
        | succ m ih =>
          intro hm j hj
          simp only [cntU] at hm
          by_cases hjm : j = m
          · subst hjm
            cases hq : listed.getD j true with
            | true => rfl
            | false => rw [hq] at hm; simp at hm
          · exact ih (by omega) j (by omega)
      have hu : listed.getD k true = false := by
        cases hq : listed.getD k true with
        | false => rfl
        | true => simp only [cntU, hq] at h; simp at h; omega
      refine ⟨k, by omega, hu, fun j hj hj' => ?_⟩
      by_cases hjk : j = k
      · subst hjk; exact Nat.le_refl _
      · have := hz k (by omega) j (by omega)
        rw [this] at hj'; cases hj'
theorem cntU_pos {listed : Array Bool} : ∀ k, 0 < cntU listed k → ∃ i, i < k ∧ listed.getD i true = false ∧ ∀ j, j < i → listed.getD j true = true
  | 0, h => by simp [cntU] at h
  | k + 1, h => by
    by_cases h0 : 0 < cntU listed k
    · obtain ⟨i, h1, h2⟩ := cntU_pos k h0
      exact ⟨i, by omega, h2⟩
    · simp only [cntU] at h
      have hz : ∀ m, cntU listed m = 0 → ∀ j, j < m → listed.getD j true = true := by
        intro m
        induction m with
        | zero => intro _ j hj; omega
        | succ m ih =>
          intro hm j hj
          simp only [cntU] at hm
          by_cases hjm : j = m
          · subst hjm
            cases hq : listed.getD j true with
            | true => rfl
            | false => rw [hq] at hm; simp at hm
          · exact ih (by omega) j (by omega)
      refine ⟨k, by omega, ?_, hz k (by omega)⟩
      cases hq : listed.getD k true with
      | false => rfl
      | true => rw [hq] at h; simp at h; omega
theorem cntU_zero {listed : Array Bool} : ∀ k, cntU listed k = 0 → ∀ j, j < k → listed.getD j true = true
  | 0, _, j, hj => by omega
  | k + 1, h, j, hj => by
    simp only [cntU] at h
    by_cases hjk : j = k
    · subst hjk
      cases hq : listed.getD j true with
      | true => rfl
      | false => rw [hq] at h; simp at h
    · exact cntU_zero k (by omega) j (by omega)

theorem wpAny_more {Q' : Exit → Act → World → Prop} : ∀ (f : Nat) (listed : Array Bool) (a : Act) (w : World), wpAny P .any ops Q' f listed a w → wpAny P .any ops Q' (f + 1) listed a w
  | 0, listed, a, w, h => ⟨fun _ => h.2, fun i hi => by rw [h.1] at hi; cases hi⟩
  | f + 1, listed, a, w, h => ⟨h.1, fun i hi => wpOp_mono (fun a' w' h' => wpAny_more f _ a' w' h') (h.2 i hi)⟩
theorem wpAny_more' {Q' : Exit → Act → World → Prop} {f : Nat} {listed : Array Bool} {a : Act} {w : World} (h : wpAny P .any ops Q' f listed a w) : ∀ k, wpAny P .any ops Q' (f + k) listed a w
  | 0 => h
  | k + 1 => wpAny_more _ _ _ _ (wpAny_more' h k)

end
end Go.Am

set_option linter.unusedVariables false
namespace Go.Am

theorem BxExt.snoc (x : List Value) : ∀ (bx : List (List Value)), BxExt bx (snocL bx x)
  | [], k, cs, h => by cases h
  | y :: r, 0, cs, h => h
  | y :: r, k + 1, cs, h => BxExt.snoc x r k cs h

section
variable {P : Program} {T : Tab} {C : CTab} {pv : Nat → Bool} {H : Heap} {ops : Array Oper} {bx : List (List Value)}

theorem appF_congr {η η' : Operand → Option Value} {t u : TypeId} {s x : Operand} (hs : η s = η' s) (hx : η x = η' x) {K K' : Option Value → List (List Value) → Heap → Prop} (hK : ∀ v H', K v bx H' → K' v bx H')
    (h : appF T H bx η t u s x K) : appF T H bx η' t u s x K' := by
  unfold appF at *
  rw [hs, hx] at h
  generalize T t = x1 at *
  generalize Nat.beq t u = x2 at *
  generalize η' s = x3 at *
  generalize η' x = x4 at *
  split at h
  · rename_i e _ a n _ a2 m _
    try dsimp only
    generalize T e = te at *
    cases te with
    | none => exact h
    | some i =>
      dsimp only at h ⊢
      generalize Nat.blt 0 i.size = q at *
      cases q with
      | false => exact h
      | true =>
        dsimp only at h ⊢
        cases m with
        | zero => exact hK _ _ h
        | succ m' =>
          dsimp only at h ⊢
          split at h
          · obtain ⟨news, h1, h2, h3, cs, h4, h5⟩ := h
            exact ⟨news, h1, h2, h3, cs, h4, hK _ _ h5⟩
          · exact h.elim
  · exact h.elim
theorem copyF_congr {η η' : Operand → Option Value} {t u : TypeId} {s x : Operand} (hs : η s = η' s) (hx : η x = η' x) {K K' : Option Value → List (List Value) → Heap → Prop} (hK : ∀ v H', K v bx H' → K' v bx H')
    (h : copyF T H bx η t u s x K) : copyF T H bx η' t u s x K' := by
  unfold copyF at *
  rw [hs, hx] at h
  generalize T t = x1 at *
  generalize T u = x2 at *
  generalize η' s = x3 at *
  generalize η' x = x4 at *
  split at h
  · rename_i e _ _ _ _ _ _ _ _ _ _
    try dsimp only
    split at h
    · obtain ⟨news, h1, h2, h3⟩ := h
      exact ⟨news, h1, h2, hK _ _ h3⟩
    · exact h.elim
  · exact h.elim

theorem effF_congr {η η' : Operand → Option Value} {op : Op} {dst : Option Tmp} (hη : ∀ x ∈ op.operands, η x = η' x) {K K' : Option Value → List (List Value) → Heap → Prop} {Qp : Value → Prop}
    (hK : ∀ v bx' H', (isStore op = false → BxExt bx bx') → K v bx' H' → K' v bx' H') (h : effF T C pv H bx η dst op K Qp) : effF T C pv H bx η' dst op K' Qp := by
  cases op <;> simp only [Op.operands] at hη <;> simp only [effF] at h ⊢ <;> (try exact h)
  case alloc t =>
    generalize T t = x1 at *
    cases x1 with
    | none => exact h
    | some i => cases dst with
      | none => exact h
      | some d =>
        dsimp only at h ⊢
        generalize pv d = q at *
        cases q with
        | true => exact hK _ _ _ (fun _ => BxExt.snoc _ _) h
        | false => exact hK _ _ _ (fun _ => BxExt.refl _) h
  case box t x =>
    rw [hη x (by simp)] at h
    generalize T t = x1 at *
    generalize η' x = x2 at *
    cases x1 with
    | none => exact h
    | some i => cases dst with
      | none => exact h
      | some d => cases x2 with
        | none => exact h
        | some v =>
          dsimp only at h ⊢
          generalize isPub v = q1 at *
          generalize allFlat (cellsV v) = q2 at *
          generalize pv d = q3 at *
          cases q1 <;> cases q2 <;> first | exact h | skip
          cases q3 with
          | true => exact hK _ _ _ (fun _ => BxExt.snoc _ _) h
          | false => exact hK _ _ _ (fun _ => BxExt.refl _) h
  case store t a x =>
    rw [hη a (by simp), hη x (by simp)] at h
    generalize T t = x1 at *
    generalize η' a = x2 at *
    generalize η' x = x3 at *
    split at h
    · try dsimp only
      split at h
      · split at h
        · split at h
          · split at h
            · exact hK _ _ _ (fun e => by cases e) h
            · exact h.elim
          · exact h.elim
        · exact ⟨h.1, hK _ _ _ (fun _ => BxExt.refl _) h.2⟩
      · exact h.elim
    · exact h.elim
  case buildSlice t n parts =>
    have hp : ∀ x ∈ parts.toList, η x.2 = η' x.2 := fun x hx => hη x.2 (by simp only [List.mem_toArray, List.mem_map]; exact ⟨x, hx, rfl⟩)
    generalize T t = x1 at *
    split at h
    · try dsimp only
      split at h
      · rw [fillA_congr parts.toList _ hp] at h
        split at h
        · split at h
          · exact hK _ _ _ (fun _ => BxExt.refl _) h
          · exact h.elim
        · exact h.elim
      · exact h.elim
    · exact h.elim
  case binOp op t x y u =>
    rw [hη x (by simp)] at h
    generalize T t = x1 at *
    generalize η' x = x2 at *
    split at h
    · try dsimp only
      split at h
      · exact ⟨hK _ _ _ (fun _ => BxExt.refl _) h.1, hK _ _ _ (fun _ => BxExt.refl _) h.2⟩
      · exact ⟨hK _ _ _ (fun _ => BxExt.refl _) h.1, hK _ _ _ (fun _ => BxExt.refl _) h.2⟩
      · exact h.elim
    · exact h.elim
  case makeMap t r =>
    cases r with
    | some x => simp only [effF] at h
    | none =>
      simp only [effF] at h ⊢
      generalize T t = x1 at *
      split at h
      · exact hK _ _ _ (fun _ => BxExt.refl _) h
      · exact h.elim
  case mapUpdate t m k x =>
    rw [hη m (by simp), hη k (by simp), hη x (by simp)] at h
    generalize T t = x1 at *
    generalize η' m = x2 at *
    generalize η' k = x3 at *
    generalize η' x = x4 at *
    split at h
    · try dsimp only
      split at h
      · obtain ⟨es, hb, h⟩ := h
        exact ⟨es, hb, hK _ _ _ (fun _ => BxExt.refl _) h⟩
      · exact h.elim
    · exact h.elim
  case convert s d x =>
    rw [hη x (by simp)] at h
    generalize T s = x1 at *
    generalize T d = x3 at *
    generalize η' x = x2 at *
    split at h
    · try dsimp only
      split at h
      · exact hK _ _ _ (fun _ => BxExt.refl _) h
      · exact h.elim
    · exact h.elim
  case range t x =>
    rw [hη x (by simp)] at h
    generalize T t = x1 at *
    generalize η' x = x2 at *
    split at h
    · exact hK _ _ _ (fun _ => BxExt.refl _) h
    · exact h.elim
  case next x str =>
    cases str with
    | false => exact h.elim
    | true =>
      simp only [effF] at h ⊢
      rw [hη x (by simp)] at h
      generalize η' x = x2 at *
      split at h
      · obtain ⟨s, p, hb, h1, h2⟩ := h
        exact ⟨s, p, hb, fun e => hK _ _ _ (fun _ => BxExt.refl _) (h1 e), fun e => hK _ _ _ (fun _ => BxExt.refl _) (h2 e)⟩
      · exact h.elim
  case insert t m k x =>
    rw [hη m (by simp), hη k (by simp), hη x (by simp)] at h
    generalize T t = x1 at *
    generalize η' m = x2 at *
    generalize η' k = x3 at *
    generalize η' x = x4 at *
    split at h
    · try dsimp only
      split at h
      · obtain ⟨es, hb, h⟩ := h
        exact ⟨es, hb, hK _ _ _ (fun _ => BxExt.refl _) h⟩
      · exact h.elim
    · exact h.elim
  case makeSlice t l c =>
    rw [hη l (by simp), hη c (by simp)] at h
    generalize T t = x1 at *
    generalize η' l = x2 at *
    generalize η' c = x3 at *
    split at h
    · try dsimp only
      split at h
      · split at h
        · exact ⟨h.1, hK _ _ _ (fun _ => BxExt.refl _) h.2⟩
        · exact h.elim
      · exact h.elim
    · exact h.elim
  case call c =>
    obtain ⟨callee, as_, ts⟩ := c
    have ha : ∀ x ∈ as_.toList, η x = η' x := fun x hx => hη x (by simp [Call.operands]; exact .inr (by simpa using hx))
    dsimp only at h ⊢
    cases callee with
    | builtin b =>
      dsimp only at h ⊢
      split at h
      · rename_i s x t u h1 h2
        exact appF_congr (ha s (by rw [h1]; simp)) (ha x (by rw [h1]; simp)) (fun v H' k => hK v bx H' (fun _ => BxExt.refl _) k) h
      · rename_i d x t u h1 h2
        exact copyF_congr (ha d (by rw [h1]; simp)) (ha x (by rw [h1]; simp)) (fun v H' k => hK v bx H' (fun _ => BxExt.refl _) k) h
      · exact h.elim
    | value g => exact h
    | invoke r m => exact h
  case panic x =>
    rw [← hη x (by simp)]; exact h

theorem opF_congr {rsC rsA : RS} {o : Oper} {K : RS → Heap → Prop} {Qp : Value → Heap → Prop} (he : rsC.env = rsA.env) (hl : ∀ t ∈ o.looksAt ops, lk rsC.loc t = lk rsA.loc t) (h : opF P T C pv ops.toList o rsC H K Qp) :
    opF P T C pv ops.toList o rsA H (fun rs' H' => ∃ e bx', rs' = RS.put ⟨rsA.loc, ⟨rsA.env.tmps, bx'⟩⟩ o.dst e ∧ (isStore o.op = false → BxExt rsA.env.boxes bx') ∧ K (RS.put ⟨rsC.loc, ⟨rsA.env.tmps, bx'⟩⟩ o.dst e) H') Qp := by
  obtain ⟨locC, envC⟩ := rsC
  obtain ⟨locA, ts, bx⟩ := rsA
  simp only at he hl
  subst he
  have hη : ∀ p x, x ∈ o.op.operands → eta p ⟨locC, ⟨ts, bx⟩⟩ x = eta p ⟨locA, ⟨ts, bx⟩⟩ x := fun p x hx => by
    cases x with
    | tmp t => simp only [eta, hl t (mem_looks hx)]
    | _ => rfl
  have hpk : ∀ p s want x, x ∈ o.op.operands → etaPick ops.toList p ⟨locC, ⟨ts, bx⟩⟩ s want x = etaPick ops.toList p ⟨locA, ⟨ts, bx⟩⟩ s want x := fun p s want x hx => by
    cases x with
    | tmp t => simp only [etaPick, hl t (mem_looks hx)]
    | _ => rfl
  have hpath : pathOf ops.toList ⟨locC, ⟨ts, bx⟩⟩ o.guard = pathOf ops.toList ⟨locA, ⟨ts, bx⟩⟩ o.guard := by
    cases hgd : o.guard with
    | none => rfl
    | some jw =>
      obtain ⟨j, b⟩ := jw
      simp only [pathOf]
      cases hd : dstOf ops.toList j with
      | none => rfl
      | some d => simp only [hl d (guard_looks hgd (by rw [← dstOf_eq]; exact hd))]
  unfold opF at *
  rw [hpath] at h
  generalize pathOf ops.toList ⟨locA, ⟨ts, bx⟩⟩ o.guard = x1 at *
  have fin : ∀ (e : Ent) (H' : Heap), K (RS.put ⟨locC, ⟨ts, bx⟩⟩ o.dst e) H' → ∃ e' bx', RS.put ⟨locA, ⟨ts, bx⟩⟩ o.dst e = RS.put ⟨locA, ⟨ts, bx'⟩⟩ o.dst e' ∧ (isStore o.op = false → BxExt bx bx') ∧ K (RS.put ⟨locC, ⟨ts, bx'⟩⟩ o.dst e') H' := fun e H' k => ⟨e, bx, rfl, fun _ => BxExt.refl _, k⟩
  cases x1 with
  | none => exact h
  | some pc =>
    obtain ⟨p, c⟩ := pc
    dsimp only at h ⊢
    split at h
    · rename_i s x y hop
      have m : ∀ z, z ∈ (#[.tmp s, x, y] : Array Operand) → z ∈ o.op.operands := fun z hz => by rw [hop]; simpa [Op.operands] using hz
      rw [hη p _ (m _ (by simp)), hpk p s true x (m _ (by simp)), hpk p s false y (m _ (by simp))] at h
      split at h
      · exact fin _ _ h
      · exact h.elim
    · rw [qval_congr (hη p)] at h
      generalize hq : qval T C H bx (eta p ⟨locA, ⟨ts, bx⟩⟩) o.op = r at h ⊢
      cases r with
      | val v => exact fin _ _ h
      | ask q v => exact ⟨h.1, fin _ _ h.2⟩
      | find q => obtain ⟨v, h1, h2⟩ := h; exact ⟨v, h1, fin _ _ h2⟩
      | call f args =>
        cases p with
        | nil => obtain ⟨R, k1, k2, k3⟩ := h; exact ⟨R, k1, fun v H' k => fin _ _ (k2 v H' k), k3⟩
        | cons y r =>
          dsimp only at h ⊢
          cases hsp : spl pv o.dst with
          | false => rw [hsp] at h; obtain ⟨v, h1, h2⟩ := h; exact ⟨v, h1, fin _ _ h2⟩
          | true => rw [hsp] at h; exact ⟨fun hc => by obtain ⟨R, k1, k2, k3⟩ := h.1 hc; exact ⟨R, k1, fun v H' k => fin _ _ (k2 v H' k), k3⟩, fun hc => fin _ _ (h.2 hc)⟩
      | eff =>
        cases p with
        | nil => exact effF_congr (hη []) (fun v bx' H' k1 k2 => ⟨_, bx', rfl, k1, k2⟩) h
        | cons => exact h
      | fail =>
        cases p with
        | nil => exact h
        | cons y r => exact ⟨h.1, fin _ _ h.2⟩
end
end Go.Am

set_option linter.unusedVariables false
namespace Go.Am

theorem put_env (rs : RS) (d : Option Tmp) (e : Ent) : (rs.put d e).env = rs.env := by cases d <;> rfl
def Known (pl : Plan) (p j : Nat) : Prop := ∃ q fx, findPl 0 pl j = some (q, fx) ∧ q + fx.toNat ≤ p
structure Canon (ops : Array Oper) (Kn : Nat → Prop) (ent : Nat → Option Ent) (rs : RS) : Prop where
  yes : ∀ (j : Nat) (o : Oper) (d : Tmp), Kn j → ops[j]? = some o → o.dst = some d → lk rs.loc d = ent j
  no : ∀ (d : Tmp), (∀ (j : Nat) (o : Oper), Kn j → ops[j]? = some o → o.dst ≠ some d) → lk rs.loc d = none
abbrev Wt (ops : Array Oper) (i j : Nat) : Prop := Region.waitsFor .any ops i j = true
def Good (ops : Array Oper) (ent : Nat → Option Ent) (loc : List (Nat × Ent)) (i : Nat) (o : Oper) : Prop :=
  ∀ t ∈ o.looksAt ops, (∀ (j : Nat) (oj : Oper), ops[j]? = some oj → oj.dst = some t → Wt ops i j → lk loc t = ent j) ∧ ((∀ (j : Nat) (oj : Oper), ops[j]? = some oj → oj.dst = some t → ¬ Wt ops i j) → lk loc t = none)

theorem findPl_spec : ∀ (pl : Plan) (p0 i p : Nat) (fx : Bool), findPl p0 pl i = some (p, fx) → p0 ≤ p ∧ ∃ q e, pl[p - p0]? = some (q, e) ∧ (fx = false → memN i q = true) ∧ (fx = true → e = some i)
  | [], _, _, _, _, h => by cases h
  | (q, e) :: r, p0, i, p, fx, h => by
    simp only [findPl] at h
    split at h
    · rename_i hm
      cases h
      exact ⟨Nat.le_refl _, q, e, by simp, fun _ => hm, fun h => by cases h⟩
    · split at h
      · rename_i he
        cases h
        exact ⟨Nat.le_refl _, q, e, by simp, fun h => (by cases h), fun _ => he⟩
      · obtain ⟨h1, q', e', h2, h3⟩ := findPl_spec r (p0 + 1) i p fx h
        refine ⟨by omega, q', e', ?_, h3⟩
        rw [show p - p0 = (p - (p0 + 1)) + 1 by omega]
        simpa using h2
theorem memN_iff {i : Nat} : ∀ {l : List Nat}, memN i l = true ↔ i ∈ l
  | [] => by simp [memN]
  | j :: r => by
    simp only [memN]
    cases h : Nat.beq j i with
    | true => have := Nat.eq_of_beq_eq_true h; subst this; simp
    | false =>
      have hne : i ≠ j := fun e => by subst e; simp at h
      simp [hne, memN_iff (l := r)]
theorem sortedB_spec : ∀ {l : List Nat} {a : Nat}, sortedB (a :: l) = true → sortedB l = true ∧ ∀ x ∈ l, a < x
  | [], a, _ => ⟨rfl, fun x hx => by cases hx⟩
  | b :: r, a, h => by
    simp only [sortedB, Bool.and_eq_true, decide_eq_true_eq] at h
    refine ⟨h.2, fun x hx => ?_⟩
    rcases List.mem_cons.1 hx with rfl | hx
    · exact h.1
    · exact Nat.lt_trans h.1 ((sortedB_spec h.2).2 x hx)

section
variable {P : Program} {T : Tab} {C : CTab} {pv : Nat → Bool} {ρ ρ0 : Rho} {own own0 : Nat → Owner} {H : Heap} {w w0 : World} {π : List Nat} {N i : Nat} {a : Act} {ops : Array Oper} {pl : Plan} {late : List Nat} {so : Option (Nat → Prop)}

theorem PF.at_ (F : PF ops pl late) {i p : Nat} {fx : Bool} (h : findPl 0 pl i = some (p, fx)) : p < pl.length ∧ ∃ q e, pl[p]? = some (q, e) ∧ (fx = false → i ∈ q) ∧ (fx = true → e = some i) := by
  obtain ⟨_, q, e, h1, h2, h3⟩ := findPl_spec pl 0 i p fx h
  rw [Nat.sub_zero] at h1
  exact ⟨(List.getElem?_eq_some_iff.1 h1).1, q, e, h1, fun h => memN_iff.1 (h2 h), h3⟩
theorem PF.quiet (F : PF ops pl late) {p : Nat} {q : List Nat} {e : Option Nat} (h : pl[p]? = some (q, e)) : sortedB q = true ∧ ∀ i ∈ q, i < ops.size ∧ findPl 0 pl i = some (p, false) := by
  have := F.phase p (List.getElem?_eq_some_iff.1 h).1
  unfold phaseB at this
  rw [h] at this
  simp only [Bool.and_eq_true, List.all_eq_true, decide_eq_true_eq] at this
  exact this.1
theorem PF.last (F : PF ops pl late) {p : Nat} {q : List Nat} (h : pl[p]? = some (q, none)) : p + 1 = pl.length := by
  have := F.phase p (List.getElem?_eq_some_iff.1 h).1
  unfold phaseB at this
  rw [h] at this
  simp only [Bool.and_eq_true, List.all_eq_true, decide_eq_true_eq] at this
  exact this.2
theorem PF.eff (F : PF ops pl late) {p i : Nat} {q : List Nat} (h : pl[p]? = some (q, some i)) : i < ops.size ∧ findPl 0 pl i = some (p, true) ∧ p + 1 < pl.length ∧ (p = 0 ∨ ∀ j, j < ops.size → findPl 0 pl j = some (p - 1, true) → Wt ops i j) := by
  have := F.phase p (List.getElem?_eq_some_iff.1 h).1
  unfold phaseB at this
  rw [h] at this
  simp only [Bool.and_eq_true, List.all_eq_true, decide_eq_true_eq, Bool.or_eq_true, List.mem_range] at this
  obtain ⟨_, ⟨⟨h1, h2⟩, h3⟩, h4⟩ := this
  refine ⟨h1, h2, h3, ?_⟩
  rcases h4 with h4 | h4
  · exact .inl h4
  · refine .inr fun j hj hp => ?_
    have := h4 j hj
    rw [hp] at this
    simpa using this
theorem PF.wt (F : PF ops pl late) {i j p : Nat} {fx : Bool} (h : Wt ops i j) (hp : findPl 0 pl i = some (p, fx)) : (fx = false → j < i) ∧ ∃ p' fx', findPl 0 pl j = some (p', fx') ∧ p' + fx'.toNat ≤ p := by
  obtain ⟨o, ho, e, he, hb, rfl⟩ := Region.waitsFor_spec h
  exact F.dep i o p fx ho hp e he hb

theorem good_of_canon (F : PF ops pl late) {Kn : Nat → Prop} {ent : Nat → Option Ent} {rs : RS} (Cn : Canon ops Kn ent rs) {o : Oper} (ho : ops[i]? = some o) (h1 : ∀ j, Wt ops i j → Kn j) (h2 : ∀ j, Wt ops j i → ¬ Kn j) : Good ops ent rs.loc i o := fun t ht =>
  ⟨fun j oj hoj hd hw => Cn.yes j oj t (h1 j hw) hoj hd, fun hno => Cn.no t fun j oj hk hoj hd => by
    rcases F.hit i j o oj t ho hoj hd ht with ⟨_, hw⟩ | ⟨_, hw⟩
    · exact hno j oj hoj hd hw
    · exact h2 j hw hk⟩
theorem Good.agree {ent : Nat → Option Ent} {loc loc' : List (Nat × Ent)} {o : Oper} (g : Good ops ent loc i o) (g' : Good ops ent loc' i o) : ∀ t ∈ o.looksAt ops, lk loc t = lk loc' t := fun t ht => by
  by_cases hex : ∃ (j : Nat) (oj : Oper), ops[j]? = some oj ∧ oj.dst = some t ∧ Wt ops i j
  · obtain ⟨j, oj, k1, k2, k3⟩ := hex
    rw [(g t ht).1 j oj k1 k2 k3, (g' t ht).1 j oj k1 k2 k3]
  · have hno : ∀ (j : Nat) (oj : Oper), ops[j]? = some oj → oj.dst = some t → ¬ Wt ops i j := fun j oj k1 k2 k3 => hex ⟨j, oj, k1, k2, k3⟩
    rw [(g t ht).2 hno, (g' t ht).2 hno]
theorem Good.mono {ent ent' : Nat → Option Ent} {loc : List (Nat × Ent)} {o : Oper} (g : Good ops ent loc i o) (h : ∀ j, Wt ops i j → ent j = ent' j) : Good ops ent' loc i o := fun t ht =>
  ⟨fun j oj k1 k2 k3 => by rw [(g t ht).1 j oj k1 k2 k3, h j k3], (g t ht).2⟩
theorem HSK0.nx {lt nx nx' : Bool} (hn : nx = true → nx' = true) {bx : List (List Value)} {loc : List (Nat × Ent)} {ts : List (Nat × Value)} {o : Oper} {e : Ent} (h : HSK0 so (kOf lt nx) P T C ops.toList H bx loc ts o e) : HSK0 so (kOf lt nx') P T C ops.toList H bx loc ts o e := by
  cases lt with
  | false => exact h
  | true => cases nx with
    | true => rw [hn rfl]; exact h
    | false => cases nx' with
      | false => exact h
      | true => exact h.weak
theorem HSK.per {u lt nx : Bool} {bx : List (List Value)} {loc : List (Nat × Ent)} {ts : List (Nat × Value)} {o : Oper} {e : Ent} (h : HSK so u (kOf lt nx) P T C ops.toList H bx loc ts o e) : HSK so u (kOf lt (nx && !noHp o.op)) P T C ops.toList H bx loc ts o e := by
  cases hn : noHp o.op with
  | false => simpa using h
  | true =>
    refine ⟨?_, h.2⟩
    rw [show (nx && !true) = false by cases nx <;> rfl]
    cases lt with
    | false => cases nx <;> exact h.1
    | true =>
      have hs : isSlice o.op = false := by
        cases ho : o.op <;> first | rfl | (rw [ho] at hn; cases hn)
      have hk0 : kOf true nx ≠ 0 := by cases nx <;> decide
      obtain ⟨⟨h1, h2⟩, _⟩ := h
      refine ⟨h1, ?_⟩
      rcases h2 with h2 | h2 | ⟨q, h2, h3, _⟩ | ⟨_, h2⟩ | ⟨f, args, h2, h3, h4⟩ | h2
      · exact .inl h2
      · exact .inr (.inl h2)
      · exact .inr (.inr (.inl ⟨q, h2, h3, fun _ => hs⟩))
      · exact .inr (.inr (.inr (.inl ⟨⟨fun _ => hn, fun _ hf => by rw [hn] at hf; cases hf⟩, h2⟩)))
      · exact .inr (.inr (.inr (.inr (.inl ⟨f, args, h2, h3, fun _ => h4 hk0⟩))))
      · exact .inr (.inr (.inr (.inr (.inr h2))))
theorem HSK.nx {u lt nx nx' : Bool} (hn : nx = true → nx' = true) {bx : List (List Value)} {loc : List (Nat × Ent)} {ts : List (Nat × Value)} {o : Oper} {e : Ent} (h : HSK so u (kOf lt nx) P T C ops.toList H bx loc ts o e) : HSK so u (kOf lt nx') P T C ops.toList H bx loc ts o e := ⟨h.1.nx hn, h.2⟩

/-- One more that is known. -/
theorem Canon.put (F : PF ops pl late) {Kn : Nat → Prop} {ent : Nat → Option Ent} {rs : RS} (Cn : Canon ops Kn ent rs) {o : Oper} (ho : ops[i]? = some o) (hi : ¬ Kn i) (bx' : List (List Value)) (e : Ent) :
    Canon ops (fun j => Kn j ∨ j = i) (fun j => if j = i then some e else ent j) (RS.put ⟨rs.loc, ⟨rs.env.tmps, bx'⟩⟩ o.dst e) where
  yes := fun j oj d hk hoj hd => by
    show _ = (if j = i then some e else ent j)
    by_cases hji : j = i
    · subst hji
      rw [ho] at hoj; cases hoj
      rw [hd, if_pos rfl]
      show lk ((d, e) :: rs.loc) d = _
      rw [lk_put, if_pos rfl]
    · rw [if_neg hji]
      have hk : Kn j := by rcases hk with h | h; exact h; exact absurd h hji
      cases hdo : o.dst with
      | none => exact Cn.yes j oj d hk hoj hd
      | some d' =>
        show lk ((d', e) :: rs.loc) d = _
        rw [lk_put, if_neg (fun h => hji (F.dst j i oj o d hoj ho hd (by rw [hdo, h])))]
        exact Cn.yes j oj d hk hoj hd
  no := fun d h => by
    cases hdo : o.dst with
    | none => exact Cn.no d fun j oj hk hoj => h j oj (.inl hk) hoj
    | some d' =>
      show lk ((d', e) :: rs.loc) d = _
      rw [lk_put, if_neg (fun hq => h i o (.inr rfl) ho (by rw [hdo, hq]))]
      exact Cn.no d fun j oj hk hoj => h j oj (.inl hk) hoj

theorem rsim_congr {D : Nat → Prop} {rs rs' : RS} (S : RSim N π ρ own ops D rs H a w) (he : rs'.env = rs.env) (hl : ∀ d, lk rs.loc d = lk rs'.loc d) : RSim N π ρ own ops D rs' H a w where
  toBase := by rw [he]; exact S.toBase
  loc := fun k e h => S.loc k e (by rw [hl]; exact h)
  env := fun k v h h' => S.env k v (by rw [hl]; exact h) (by rw [← he]; exact h')
theorem headsL_spec (F : PF ops pl late) : ∀ (q : List Nat) (nx : Bool) (rs : RS) (ent : Nat → Option Ent) (Kn : Nat → Prop) (K : Bool → RS → Prop),
    (∀ i ∈ q, i < ops.size ∧ ¬ Kn i ∧ ∃ p, findPl 0 pl i = some (p, false)) → sortedB q = true → (∀ i ∈ q, ∀ j, Wt ops i j → Kn j ∨ j ∈ q) → (∀ i ∈ q, ∀ j, Wt ops j i → ¬ Kn j) → Canon ops Kn ent rs → headsL P T C so ops.toList late H q nx K rs →
    ∃ nx' rs' ent', K nx' rs' ∧ Canon ops (fun j => Kn j ∨ j ∈ q) ent' rs' ∧ (∀ j, Kn j → ent' j = ent j) ∧ rs'.env = rs.env ∧ (nx = true → nx' = true) ∧
      ∀ i ∈ q, ∀ o, ops[i]? = some o → ∃ e loc, ent' i = some e ∧ Good ops ent' loc i o ∧ HSK so (memN (i + 100000) late) (kOf (memN i late) (nx' && !noHp o.op)) P T C ops.toList H rs.env.boxes loc rs.env.tmps o e
  | [], nx, rs, ent, Kn, K, _, _, _, _, Cn, h => ⟨nx, rs, ent, h, ⟨fun j o d hk => Cn.yes j o d (by rcases hk with h | h; exact h; cases h), fun d hd => Cn.no d fun j o hk => hd j o (.inl hk)⟩, fun _ _ => rfl, rfl, id, fun i hi => by cases hi⟩
  | i :: r, nx, rs, ent, Kn, K, hq, hs, hw, hw', Cn, h => by
    obtain ⟨hi, hki, pi, hpi⟩ := hq i (by simp)
    obtain ⟨hsr, hlt⟩ := sortedB_spec hs
    simp only [headsL] at h
    rw [nth_eq] at h
    have ho : ops[i]? = some ops[i] := by simp [hi]
    rw [show ops.toList[i]? = some ops[i] by simp [hi]] at h
    obtain ⟨e, nx1, h1, h2, h3⟩ := headF_spec h
    have hdep : ∀ j, Wt ops i j → Kn j := fun j hj => by
      have hji := (F.wt hj hpi).1 rfl
      rcases hw i (by simp) j hj with k | k
      · exact k
      · rcases List.mem_cons.1 k with k | k
        · omega
        · have := hlt j k; omega
    have hg : Good ops ent rs.loc i ops[i] := good_of_canon F Cn ho hdep (hw' i (by simp))
    have Cn1 := Cn.put F ho hki rs.env.boxes e
    obtain ⟨nx', rs', ent', k1, k2, k3, k4, k5, k6⟩ := headsL_spec F r nx1 _ _ _ K (fun i' hi' => by
        obtain ⟨a1, a2, a3⟩ := hq i' (by simp [hi'])
        refine ⟨a1, fun h => ?_, a3⟩
        rcases h with h | h
        · exact a2 h
        · have := hlt i' hi'; omega) hsr (fun i' hi' j hj => by
        rcases hw i' (by simp [hi']) j hj with k | k
        · exact .inl (.inl k)
        · rcases List.mem_cons.1 k with k | k
          · exact .inl (.inr k)
          · exact .inr k) (fun i' hi' j hj hk => by
        rcases hk with hk | hk
        · exact hw' i' (by simp [hi']) j hj hk
        · subst hk
          have := (F.wt hj hpi).1 rfl
          have := hlt i' hi'
          omega) Cn1 h3
    have hee : ∀ j, Kn j → ent' j = ent j := fun j hk => by
      rw [k3 j (.inl hk), if_neg (fun h => hki (by rw [← h]; exact hk))]
    refine ⟨nx', rs', ent', k1, ⟨fun j o d hk => k2.yes j o d ?_, fun d hd => k2.no d fun j o hk => hd j o ?_⟩, hee, by rw [k4, put_env], fun h => k5 (h2 h), fun i' hi' o' ho' => ?_⟩
    · rcases hk with hk | hk
      · exact .inl (.inl hk)
      · rcases List.mem_cons.1 hk with hk | hk
        · exact .inl (.inr hk)
        · exact .inr hk
    · rcases hk with (hk | hk) | hk
      · exact .inl hk
      · exact .inr (by rw [hk]; simp)
      · exact .inr (by simp [hk])
    · rcases List.mem_cons.1 hi' with rfl | hi'
      · rw [ho] at ho'; cases ho'
        refine ⟨e, rs.loc, ?_, hg.mono (fun j hj => (hee j (hdep j hj)).symm), (h1.nx k5).per⟩
        rw [k3 i' (.inr rfl), if_pos rfl]
      · have := k6 i' hi' o' ho'
        rw [put_env] at this
        exact this

/-- What stands when some of the operations have come up: all of the phases ahead of number p, and some of its own. -/
structure PInv (so : Option (Nat → Prop)) (N : Nat) (P : Program) (T : Tab) (C : CTab) (π : List Nat) (ρ0 : Rho) (own0 : Nat → Owner) (w0 : World) (ops : Array Oper) (pl : Plan) (late : List Nat) (p : Nat) (nx : Bool) (ent : Nat → Option Ent) (rsC : RS) (H : Heap) (listed : Array Bool) (rsA : RS)
    (ρ : Rho) (own : Nat → Owner) (a : Act) (w : World) : Prop where
  sim : RSim N π ρ own ops (fun j => listed.getD j false = true) rsA H a w
  guar : Guar ρ0 own0 w0 ρ own w
  env : rsC.env = rsA.env
  size : listed.size = ops.size
  closed : ∀ i, listed.getD i false = true → ∀ j, Wt ops i j → listed.getD j false = true
  lst : ∀ i, listed.getD i false = true → Known pl p i
  effs : ∀ i k, i < ops.size → findPl 0 pl i = some (k, true) → k < p → listed.getD i false = true
  act : Canon ops (fun j => listed.getD j false = true) ent rsA
  canon : Canon ops (Known pl p) ent rsC
  hs : ∀ (i : Nat) (o : Oper) (q : Nat), ops[i]? = some o → findPl 0 pl i = some (q, false) → q ≤ p → listed.getD i false = false →
    ∃ e loc, ent i = some e ∧ Good ops ent loc i o ∧ HSK so (memN (i + 100000) late) (kOf (memN i late) (nx && !noHp o.op)) P T C ops.toList H rsA.env.boxes loc rsA.env.tmps o e

def Cont (P : Program) (T : Tab) (C : CTab) (pv : Nat → Bool) (so : Option (Nat → Prop)) (ops : List Oper) (pl : Plan) (late : List Nat) (Qp : Value → Heap → Prop) (K : RS → Heap → Prop) (p : Nat) (nx : Bool) (rs : RS) (H : Heap) : Prop :=
  match pl[p]? with
  | some (_, none) => K rs H
  | some (_, some i) => (match nth ops i with
    | some o => opF P T C pv ops o rs H (fun rs'' H' => (match nx with
      | true => (match memN (i + 200000) late with
        | true => phasesF P T C pv so ops late Qp K (pl.drop (p + 1)) false rs'' H'
        | false => ExtO so H H' ∧ phasesF P T C pv so ops late Qp K (pl.drop (p + 1)) true rs'' H')
      | false => phasesF P T C pv so ops late Qp K (pl.drop (p + 1)) false rs'' H')) Qp
    | none => False)
  | none => False

/-- The next phase's own operations are walked. -/
theorem phase_start (F : PF ops pl late) {Qp : Value → Heap → Prop} {K : RS → Heap → Prop} {p : Nat} {nx : Bool} {rs : RS} {ent : Nat → Option Ent} {Kn : Nat → Prop} (hp : p < pl.length)
    (hK : ∀ j, Kn j → ∃ q fx, findPl 0 pl j = some (q, fx) ∧ q + fx.toNat ≤ p ∧ (fx = false → q < p)) (hK' : ∀ j q fx, findPl 0 pl j = some (q, fx) → q + fx.toNat ≤ p → (fx = false → q < p) → Kn j)
    (Cn : Canon ops Kn ent rs) (h : phasesF P T C pv so ops.toList late Qp K (pl.drop p) nx rs H) :
    ∃ nx' rs' ent', Cont P T C pv so ops.toList pl late Qp K p nx' rs' H ∧ Canon ops (Known pl p) ent' rs' ∧ (∀ j, Kn j → ent' j = ent j) ∧ rs'.env = rs.env ∧ (nx = true → nx' = true) ∧
      ∀ i o, ops[i]? = some o → findPl 0 pl i = some (p, false) → ∃ e loc, ent' i = some e ∧ Good ops ent' loc i o ∧ HSK so (memN (i + 100000) late) (kOf (memN i late) (nx' && !noHp o.op)) P T C ops.toList H rs.env.boxes loc rs.env.tmps o e := by
  have hpl : pl[p]? = some pl[p] := List.getElem?_eq_getElem hp
  rw [List.drop_eq_getElem_cons hp] at h
  generalize hqe : pl[p] = qe at h hpl
  obtain ⟨q, e⟩ := qe
  obtain ⟨hs, hq⟩ := F.quiet hpl
  have hin : ∀ j, findPl 0 pl j = some (p, false) → j ∈ q := fun j hj => by
    obtain ⟨_, q', e', h1, h2, _⟩ := F.at_ hj
    rw [hpl] at h1; cases h1
    exact h2 rfl
  simp only [phasesF] at h
  obtain ⟨nx', rs', ent', k1, k2, k3, k4, k5, k6⟩ := headsL_spec F q nx rs ent Kn _ (fun i hi => by
      obtain ⟨h1, h2⟩ := hq i hi
      refine ⟨h1, fun hk => ?_, p, h2⟩
      obtain ⟨q', fx, a1, a2, a3⟩ := hK i hk
      rw [h2] at a1; cases a1
      exact absurd (a3 rfl) (Nat.lt_irrefl p)) hs (fun i hi j hj => by
      obtain ⟨h1, h2⟩ := hq i hi
      obtain ⟨_, p', fx', a1, a2⟩ := F.wt hj h2
      by_cases hc : fx' = false ∧ p' = p
      · obtain ⟨rfl, rfl⟩ := hc
        exact .inr (hin j a1)
      · exact .inl (hK' j p' fx' a1 a2 (fun h => by
          subst h
          have : p' ≠ p := fun e => hc ⟨rfl, e⟩
          simp at a2
          omega))) (fun i hi j hj hk => by
      obtain ⟨h1, h2⟩ := hq i hi
      obtain ⟨q', fx, a1, a2, a3⟩ := hK j hk
      obtain ⟨_, p', fx', b1, b2⟩ := F.wt hj a1
      rw [h2] at b1; cases b1
      cases fx with
      | false => have := a3 rfl; simp at b2; omega
      | true => simp at a2 b2; omega) Cn h
  refine ⟨nx', rs', ent', ?_, ⟨fun j o d hk => k2.yes j o d ?_, fun d hd => k2.no d fun j o hk => hd j o ?_⟩, k3, k4, k5, fun i o ho hi => k6 i (hin i hi) o ho⟩
  · unfold Cont
    rw [hpl]
    cases e <;> exact k1
  · obtain ⟨q', fx, a1, a2⟩ := hk
    by_cases hc : fx = false ∧ q' = p
    · obtain ⟨rfl, rfl⟩ := hc
      exact .inr (hin j a1)
    · exact .inl (hK' j q' fx a1 a2 (fun h => by
        subst h
        have : q' ≠ p := fun e => hc ⟨rfl, e⟩
        simp at a2
        omega))
  · rcases hk with hk | hk
    · obtain ⟨q', fx, a1, a2, _⟩ := hK j hk
      exact ⟨q', fx, a1, a2⟩
    · exact ⟨p, false, (hq j hk).2, Nat.le_refl _⟩

theorem phases_sound (hT : TOK P T) (hC : COK P C) (hn0 : NoPriv own0) (hg : gOK N ops.toList = true) (F : PF ops pl late) {Qp : Value → Heap → Prop} {K : RS → Heap → Prop} {Q' : Exit → Act → World → Prop}
    (hK : ∀ rs' H' π' ρ' own' a' w' D, K rs' H' → RSim N π' ρ' own' ops D rs' H' a' w' → Guar ρ0 own0 w0 ρ' own' w' → Q' .normal a' w')
    (hp : ∀ v H' ρ' own' v' a' w', Qp v H' → VRel ρ' v v' → a'.defers = [] → a'.tmps.size = N → BW [] ρ' own' [] H' w' → Guar ρ0 own0 w0 ρ' own' w' → Q' (.panic [⟨v', false, false⟩]) a' w') :
    ∀ (d p : Nat) (nx : Bool) (ent : Nat → Option Ent) (rsC : RS) (H : Heap) (listed : Array Bool) (rsA : RS) (π : List Nat) (ρ : Rho) (own : Nat → Owner) (a : Act) (w : World), cntU listed ops.size = d →
      PInv so N P T C π ρ0 own0 w0 ops pl late p nx ent rsC H listed rsA ρ own a w → Cont P T C pv so ops.toList pl late Qp K p nx rsC H → wpAny P .any ops Q' d listed a w := by
  intro d
  induction d with
  | zero =>
    intro p nx ent rsC H listed rsA π ρ own a w hcnt I hc
    have hall := cntU_zero ops.size hcnt
    have hL : ∀ j, j < ops.size → listed.getD j false = true := fun j hj => by
      have := hall j hj
      have hjl : j < listed.size := by rw [I.size]; exact hj
      simp [hjl] at this ⊢; exact this
    have hk : K rsC H := by
      unfold Cont at hc
      split at hc
      · exact hc
      · rename_i q i hpl
        obtain ⟨h1, h2, _, _⟩ := F.eff hpl
        obtain ⟨q', fx, a1, a2⟩ := I.lst i (hL i h1)
        rw [h2] at a1; cases a1
        simp at a2
        omega
      · exact hc.elim
    have heq : ∀ d, lk rsA.loc d = lk rsC.loc d := fun d => by
      by_cases hex : ∃ (j : Nat) (o : Oper), ops[j]? = some o ∧ o.dst = some d
      · obtain ⟨j, o, h1, h2⟩ := hex
        have hj := hL j (Array.getElem?_eq_some_iff.1 h1).1
        rw [I.act.yes j o d hj h1 h2, I.canon.yes j o d (I.lst j hj) h1 h2]
      · rw [I.act.no d (fun j o _ h1 h2 => hex ⟨j, o, h1, h2⟩), I.canon.no d (fun j o _ h1 h2 => hex ⟨j, o, h1, h2⟩)]
    refine ⟨?_, hK rsC H π ρ own a w _ hk (rsim_congr I.sim I.env heq) I.guar⟩
    rcases hr : Region.ready .any ops listed with _ | ⟨i, r⟩
    · rfl
    · exfalso
      have : i ∈ Region.ready .any ops listed := by rw [hr]; simp
      obtain ⟨h1, o, h2, _⟩ := mem_ready.1 this
      have := hall i (Array.getElem?_eq_some_iff.1 h2).1
      rw [this] at h1; cases h1
  | succ d ih =>
    intro p nx ent rsC H listed rsA π ρ own a w hcnt I hc
    have hsz := I.size
    have tt : ∀ j, j < ops.size → listed.getD j true = true → listed.getD j false = true := fun j hj h => by
      have : j < listed.size := by omega
      simp [this] at h ⊢; exact h
    obtain ⟨i0, hi0, hu0, hlow⟩ := min_unl (listed := listed) (fun i => match findPl 0 pl i with
      | some (p, fx) => (2 * p + fx.toNat) * (ops.size + 1) + i
      | none => 0) ops.size (by omega)
    have hr0 : i0 ∈ Region.ready .any ops listed := by
      refine mem_ready.2 ⟨hu0, ops[i0], by simp [hi0], fun e he hb => ?_⟩
      obtain ⟨p', fx', hp'⟩ := F.tot i0 ops[i0] (by simp [hi0])
      obtain ⟨hlt, p'', fx'', hp'', hle⟩ := F.dep i0 ops[i0] p' fx' (by simp [hi0]) hp' e he hb
      have hjs : e.on < ops.size := by
        obtain ⟨_, q1, e1, hat, hq0, hq1⟩ := F.at_ hp''
        cases fx'' with
        | false => exact ((F.quiet hat).2 _ (hq0 rfl)).1
        | true =>
          have := hq1 rfl
          subst this
          exact (F.eff hat).1
      refine tt _ hjs ?_
      cases hq : listed.getD e.on true with
      | true => rfl
      | false =>
        exfalso
        have hr := hlow e.on hjs hq
        simp only [hp', hp''] at hr
        by_cases hab : 2 * p'' + fx''.toNat < 2 * p' + fx'.toNat
        · have hm : (2 * p'' + fx''.toNat + 1) * (ops.size + 1) ≤ (2 * p' + fx'.toNat) * (ops.size + 1) := Nat.mul_le_mul_right _ hab
          rw [Nat.add_mul] at hm
          omega
        · cases fx' with
          | true => cases fx'' <;> simp at hab hle <;> omega
          | false =>
            have := hlt rfl
            cases fx'' with
            | true => simp at hab hle; omega
            | false =>
              have : p'' = p' := by simp at hab hle; omega
              subst this
              simp at hr
              omega
    refine ⟨fun h => (by rw [h] at hr0; cases hr0), fun i hi => ?_⟩
    obtain ⟨hun, o, ho, hall⟩ := mem_ready.1 hi
    have hunf : listed.getD i false = false := getD_both hun
    have hisz : i < ops.size := (Array.getElem?_eq_some_iff.1 ho).1
    have waits : ∀ j, Wt ops i j → listed.getD j false = true := fun j h => by
      obtain ⟨oj, hoj, e, he, hb, hon⟩ := Region.waitsFor_spec h
      rw [ho] at hoj; cases hoj
      have := hall e he hb
      rw [hon] at this; exact this
    have reached : ∀ j, Reach ops i j → listed.getD j false = true := fun j h => by
      induction h with
      | one h => exact waits _ h
      | more _ h' ih => exact I.closed _ ih _ h'
    have waited : ∀ j, Wt ops j i → ¬ listed.getD j false = true := fun j h hj => by
      have := I.closed j hj i h
      rw [hunf] at this; cases this
    have hset : ∀ j, (listed.setIfInBounds i true).getD j false = true → listed.getD j false = true ∨ j = i := fun j hj => by
      by_cases hij : i = j
      · exact .inr hij.symm
      · rw [getD_set_ne false hij] at hj; exact .inl hj
    have hseti : (listed.setIfInBounds i true).getD i false = true := by
      have : i < listed.size := by omega
      simp [this]
    have hset' : ∀ j, (listed.getD j false = true ∨ j = i) → (listed.setIfInBounds i true).getD j false = true := fun j hj => by
      rcases hj with hj | rfl
      · exact getD_set_true hj
      · exact hseti
    have hclosed : ∀ j, (listed.setIfInBounds i true).getD j false = true → ∀ k, Wt ops j k → (listed.setIfInBounds i true).getD k false = true := fun j hj k hk => by
      rcases hset j hj with hj | rfl
      · exact hset' k (.inl (I.closed j hj k hk))
      · exact hset' k (.inl (waits k hk))
    have hcnt' : cntU (listed.setIfInBounds i true) ops.size = d := by have := cntU_set hun ops.size hisz; omega
    have hguard : ∀ j wt, o.guard = some (j, wt) → listed.getD j false = true := fun j wt hgd => by
      obtain ⟨hji, dj, hdj, _⟩ := (gOK_spec hg ho).2 j wt hgd
      rw [dstOf_eq] at hdj
      cases hoj : ops[j]? with
      | none => rw [hoj] at hdj; cases hdj
      | some oj =>
        have hdj' : oj.dst = some dj := by rw [hoj] at hdj; exact hdj
        rcases F.hit i j o oj dj ho hoj hdj' (guard_looks hgd (by rw [hoj]; exact hdj')) with ⟨_, hwt⟩ | ⟨hlt, _⟩
        · exact waits j hwt
        · omega
    have gA : Good ops ent rsA.loc i o := good_of_canon F I.act ho waits waited
    -- what was put is what stands
    have actPut : ∀ (bx' : List (List Value)) (e : Ent) (ent' : Nat → Option Ent), ent' i = some e → (∀ j, listed.getD j false = true → ent' j = ent j) →
        Canon ops (fun j => (listed.setIfInBounds i true).getD j false = true) ent' (RS.put ⟨rsA.loc, ⟨rsA.env.tmps, bx'⟩⟩ o.dst e) := fun bx' e ent' h1 h2 => by
      have := I.act.put F ho (by rw [hunf]; simp) bx' e
      refine ⟨fun j oj d' hj hoj hd => ?_, fun d' hd => this.no d' fun j oj hj => hd j oj (hset' j hj)⟩
      rw [this.yes j oj d' (hset j hj) hoj hd]
      by_cases hji : j = i
      · subst hji; simp [h1]
      · rw [if_neg hji]
        rcases hset j hj with h | h
        · exact (h2 j h).symm
        · exact absurd h hji
    obtain ⟨q, fx, hfind⟩ := F.tot i o ho
    cases fx with
    | false =>
      have hqp : q ≤ p := by
        rcases F.tight i o q ho hfind with h | ⟨e, he, hb, p', fx', h1, h2⟩
        · omega
        · obtain ⟨q', fx'', a1, a2⟩ := I.lst e.on (hall e he hb)
          rw [h1] at a1; cases a1
          omega
      obtain ⟨e, loc, e1, e2, e3⟩ := I.hs i o q ho hfind hqp hunf
      have hhs := (HSK_congr (e2.agree gA) e3).hs
      have hstep := HS_sound (K' := wpAny P .any ops Q' d (listed.setIfInBounds i true)) (Q' := Q') hT hC hn0 hg I.sim I.guar ho (by rw [hunf]; simp) hguard hhs
        (D' := fun j => (listed.setIfInBounds i true).getD j false = true) (fun j hj => getD_set_true hj) (fun ρ' own' a' w' k1 k2 =>
          ih p nx ent rsC H (listed.setIfInBounds i true) _ π ρ' own' a' w' hcnt' ⟨k1, k2, by rw [put_env]; exact I.env, by simp [hsz], hclosed, fun j hj => by
              rcases hset j hj with hj | rfl
              · exact I.lst j hj
              · exact ⟨q, false, hfind, by simpa using hqp⟩, fun j k hj h1 h2 => hset' j (.inl (I.effs j k hj h1 h2)), actPut rsA.env.boxes e ent e1 (fun _ _ => rfl), I.canon, fun j oj qj hoj h1 h2 h3 => by
              rw [put_env]
              refine I.hs j oj qj hoj h1 h2 ?_
              cases hq : listed.getD j false with
              | false => rfl
              | true => rw [hset' j (.inl hq)] at h3; cases h3⟩ hc)
      unfold wpOp
      simp only [ho]
      split
      · rename_i hw; rw [if_pos hw] at hstep; exact .inl hstep
      · rename_i hw; rw [if_neg hw] at hstep; exact hstep
    | true =>
      have hge : p ≤ q := Nat.le_of_not_lt fun h => by
        have := I.effs i q hisz hfind h
        rw [hunf] at this; cases this
      obtain ⟨hql, q1, e1, hat, _, he1⟩ := F.at_ hfind
      have he1 := he1 rfl
      subst he1
      have hle : q ≤ p := Nat.le_of_not_lt fun h => by
        obtain ⟨_, _, _, hch⟩ := F.eff hat
        rcases hch with h0 | hch
        · omega
        · have hq1 : q - 1 < pl.length := by omega
          have hat' : pl[q - 1]? = some pl[q - 1] := List.getElem?_eq_getElem hq1
          generalize pl[q - 1] = x at hat'
          obtain ⟨q2, e2⟩ := x
          cases e2 with
          | none => have := F.last hat'; omega
          | some j =>
            obtain ⟨hj, hjf, _, _⟩ := F.eff hat'
            obtain ⟨q', fx', a1, a2⟩ := I.lst j (waits j (hch j hj hjf))
            rw [hjf] at a1; cases a1
            simp at a2
            omega
      have hqp : q = p := Nat.le_antisymm hle hge
      subst hqp
      have hiK : ¬ Known pl q i := fun ⟨q', fx', a1, a2⟩ => by
        rw [hfind] at a1; cases a1
        simp at a2
        omega
      have gC : Good ops ent rsC.loc i o := good_of_canon F I.canon ho (fun j hj => I.lst j (waits j hj)) (fun j hj ⟨q', fx', a1, a2⟩ => by
        obtain ⟨_, p', fx'', b1, b2⟩ := F.wt hj a1
        rw [hfind] at b1; cases b1
        simp at b2
        omega)
      unfold Cont at hc
      rw [hat] at hc
      simp only at hc
      rw [nth_eq, show ops.toList[i]? = some o by simpa using ho] at hc
      simp only at hc
      have hcA := opF_congr (rsA := rsA) I.env (gC.agree gA) hc
      obtain ⟨_, _, hlt1, _⟩ := F.eff hat
      have hstep := opF_sound (D := fun j => listed.getD j false = true) (D' := fun j => (listed.setIfInBounds i true).getD j false = true) (K' := wpAny P .any ops Q' d (listed.setIfInBounds i true)) (Q' := Q') (by rw [hunf]; simp) (fun j hj => getD_set_true hj) hT hC hn0 hg I.sim I.guar ho hguard hcA
        (fun rs' H' π' ρ' own' a' w' k1 k2 k3 => by
          obtain ⟨e, bx', rfl, hbx, hk⟩ := k1
          have Cn1 := I.canon.put F ho hiK bx' e
          have hk' : ∃ nx0, (memN (i + 200000) late = false → nx0 = nx ∧ (nx = true → ExtO so H H')) ∧ phasesF P T C pv so ops.toList late Qp K (pl.drop (q + 1)) nx0 (RS.put ⟨rsC.loc, ⟨rsA.env.tmps, bx'⟩⟩ o.dst e) H' := by
            cases nx with
            | true =>
              simp only at hk
              cases hm : memN (i + 200000) late with
              | true => rw [hm] at hk; exact ⟨false, fun h => (by cases h), hk⟩
              | false => rw [hm] at hk; exact ⟨true, fun _ => ⟨rfl, fun _ => hk.1⟩, hk.2⟩
            | false => exact ⟨false, fun _ => ⟨rfl, fun h => (by cases h)⟩, hk⟩
          obtain ⟨nx0, hext, hk⟩ := hk'
          rw [I.env] at Cn1
          obtain ⟨nx', rs'', ent', m1, m2, m3, m4, m5, m6⟩ := phase_start F hlt1 (Kn := fun j => Known pl q j ∨ j = i) (fun j hj => by
              rcases hj with ⟨q', fx', a1, a2⟩ | rfl
              · exact ⟨q', fx', a1, by omega, fun h => by subst h; simp at a2; omega⟩
              · exact ⟨q, true, hfind, by simp, fun h => by cases h⟩) (fun j q' fx' a1 a2 a3 => by
              cases fx' with
              | false => exact .inl ⟨q', false, a1, by have := a3 rfl; simp; omega⟩
              | true =>
                by_cases hq' : q' = q
                · subst hq'
                  obtain ⟨_, q3, e3, c1, _, c3⟩ := F.at_ a1
                  rw [hat] at c1; cases c1
                  exact .inr (Option.some.inj (c3 rfl)).symm
                · exact .inl ⟨q', true, a1, by simp at a2 ⊢; omega⟩) Cn1 hk
          have hent : ∀ j, Known pl q j → ent' j = ent j := fun j hj => by
            rw [m3 j (.inl hj), if_neg (fun h => hiK (by rw [← h]; exact hj))]
          have henti : ent' i = some e := by rw [m3 i (.inr rfl), if_pos rfl]
          refine ih (q + 1) nx' ent' rs'' H' (listed.setIfInBounds i true) _ π' ρ' own' a' w' hcnt' ⟨k2, k3, by rw [m4, put_env, put_env], by simp [hsz], hclosed, fun j hj => ?_, fun j k hj h1 h2 => ?_, actPut bx' e ent' henti (fun j hj => hent j (I.lst j hj)), m2, fun j oj qj hoj h1 h2 h3 => ?_⟩ m1
          · rcases hset j hj with hj | rfl
            · obtain ⟨q', fx', a1, a2⟩ := I.lst j hj
              exact ⟨q', fx', a1, by omega⟩
            · exact ⟨q, true, hfind, by simp⟩
          · by_cases hkq : k = q
            · subst hkq
              obtain ⟨_, q3, e3, c1, _, c3⟩ := F.at_ h1
              rw [hat] at c1; cases c1
              exact hset' j (.inr (Option.some.inj (c3 rfl)).symm)
            · exact hset' j (.inl (I.effs j k hj h1 (by omega)))
          · rw [put_env]
            by_cases hqj : qj = q + 1
            · subst hqj
              have := m6 j oj hoj h1
              rw [put_env] at this
              exact this
            · have hju : listed.getD j false = false := by
                cases hq : listed.getD j false with
                | false => rfl
                | true => rw [hset' j (.inl hq)] at h3; cases h3
              obtain ⟨e', loc, b1, b2, b3⟩ := I.hs j oj qj hoj h1 (by omega) hju
              have hlate : memN j late = true := by
                cases hq : memN j late with
                | true => rfl
                | false =>
                  have := reached j (F.ord j i qj q (Array.getElem?_eq_some_iff.1 hoj).1 hisz h1 hq hfind (by omega))
                  rw [hju] at this; cases this
              have hkj : Known pl q j := ⟨qj, false, h1, by simp; omega⟩
              refine ⟨e', loc, by rw [hent j hkj]; exact b1, b2.mono (fun k hk => ?_), ?_⟩
              · obtain ⟨_, p', fx', c1, c2⟩ := F.wt hk h1
                exact (hent k ⟨p', fx', c1, by omega⟩).symm
              · rw [hlate] at b3 ⊢
                have hmono : ∀ (n : Bool), (nx0 = nx) → (nx && !n) = true → (nx' && !n) = true := fun n h0 h => by
                  subst h0
                  cases n with
                  | true => simp at h
                  | false => simp at h ⊢; exact m5 h
                have hk12 : kOf true (nx && !noHp oj.op) = 1 ∨ kOf true (nx && !noHp oj.op) = 2 := by cases (nx && !noHp oj.op) <;> simp [kOf]
                have fin : (kOf true (nx && !noHp oj.op) = 1 → ExtO so H H') → ((nx && !noHp oj.op) = true → (nx' && !noHp oj.op) = true) → HSK so (memN (j + 100000) late) (kOf true (nx' && !noHp oj.op)) P T C ops.toList H' bx' loc rsA.env.tmps oj e' := fun hxt hmn => by
                  cases hst : isStore o.op with
                  | false => exact HSK.nx hmn (b3.ext hk12 (hbx hst) hxt)
                  | true =>
                    rcases F.store i o q j qj ho hfind hst hlate h1 (by omega) with hr | hr
                    · have := reached j hr
                      rw [hju] at this; cases this
                    · rw [hr] at b3 ⊢
                      exact HSK.nx hmn (b3.extS hk12 hxt)
                cases hm : memN (i + 200000) late with
                | true =>
                  cases hno : noHp oj.op with
                  | true => rw [hno] at fin; simpa using fin (fun h => by simp [kOf] at h) (fun h => by simp at h)
                  | false =>
                    have := reached j (F.all i q j qj hfind hisz hm hlate h1 (by omega) ⟨oj, hoj, hno⟩)
                    rw [hju] at this; cases this
                | false =>
                  obtain ⟨h0, hext⟩ := hext hm
                  exact fin (fun h => hext (by
                    cases nx with
                    | true => rfl
                    | false => simp [kOf] at h)) (hmono _ h0))
        (fun v H' ρ' own' v' w' k1 k2 k3 k4 => hp v H' ρ' own' v' a w' k1 k2 I.sim.defers I.sim.size k3 k4)
      unfold wpOp
      simp only [ho]
      split
      · rename_i hw; rw [if_pos hw] at hstep; exact .inl hstep
      · rename_i hw; rw [if_neg hw] at hstep; exact hstep
end
end Go.Am
