/- The abstract machine: tables that are held against the program's own types by a Bool, and functions. No condition but those Bools. -/
import Derived.Test.YtajcbdamgaofcaaDoorAmSound
set_option linter.unusedVariables false
set_option linter.unusedSimpArgs false
namespace Go.Am

def vEq : Value → Value → Bool
  | .bool a, .bool b => a == b
  | .int k a, .int k' b => decide (k = k') && decide (a = b)
  | .float .f64 a, .float .f64 b => decide (a = b)
  | .string a, .string b => decide (a.data.size = 0) && decide (b.data.size = 0)
  | .slice none 0 0, .slice none 0 0 => true
  | .pointer none, .pointer none => true
  | .nilFunc, .nilFunc => true
  | .nilIface, .nilIface => true
  | .map none, .map none => true
  | _, _ => false
theorem vEq_spec {u v : Value} (h : vEq u v = true) : u = v := by
  unfold vEq at h
  split at h <;> first | rfl | (simp at h; done) | skip
  · simp at h; rw [h]
  · simp at h; rw [h.1, h.2]
  · simp at h; rw [h]
  · rename_i a b
    simp only [Bool.and_eq_true, decide_eq_true_eq] at h
    have ha : a = b := by
      obtain ⟨a⟩ := a
      obtain ⟨b⟩ := b
      congr 1
      apply Array.ext
      · simp only at h; omega
      · intro i h1 _; simp only at h; omega
    rw [ha]
def vsEq : List Value → List Value → Bool
  | [], [] => true
  | u :: l, v :: m => vEq u v && vsEq l m
  | _, _ => false
theorem vsEq_spec : ∀ {l m : List Value}, vsEq l m = true → l = m
  | [], [], _ => rfl
  | [], _ :: _, h => by simp [vsEq] at h
  | _ :: _, [], h => by simp [vsEq] at h
  | u :: l, v :: m, h => by
    simp only [vsEq, Bool.and_eq_true] at h
    rw [vEq_spec h.1, vsEq_spec h.2]

def zEq : Value → Value → Bool
  | .agg a, .agg b => vsEq a.toList b.toList && allOK b.toList
  | .agg _, _ => false
  | u, v => vEq u v && constOK v
theorem zEq_spec {u v : Value} (h : zEq u v = true) : u = v ∧ constV v = some v := by
  unfold zEq at h
  split at h
  · rename_i a b
    simp only [Bool.and_eq_true] at h
    refine ⟨by rw [Array.ext' (vsEq_spec h.1)], by simp [constV, h.2]⟩
  · cases h
  · rename_i hna
    simp only [Bool.and_eq_true] at h
    have e := vEq_spec h.1
    subst e
    refine ⟨rfl, ?_⟩
    cases u <;> first | exact absurd rfl (hna _) | (simp [constOK] at h; done) | simp [constV, h.2]
def kdB (P : Program) (k : Kd) (d : TypeDesc) : Bool :=
  match k, d with
  | .scalar, .interface _ => false
  | .scalar, _ => true
  | .bool, .bool => true
  | .string, .string => true
  | .iface, .interface _ => true
  | .func, .func _ _ _ => true
  | .slice e, .slice e' => decide (e = e')
  | .array n e, .array n' e' => decide (n = n') && decide (e = e')
  | .map kk z, .map kt e => keyB P kt kk && (match P.info? e with | some ti => (match ti.zero with | some z' => zEq z' z | none => false) | none => false)
  | .struct fs, .struct fields => decide (fields.toList.map (fun f => (f.offset, P.cellsOf f.type, ((P.underlying f.type).map aggD).getD false)) = fs) && fields.all fun f => (P.info? f.type).isSome && (P.underlying f.type).isSome
  | _, _ => false
def rowB (P : Program) (t : TypeId) (i : TI) : Bool :=
  match P.info? t, P.underlying t with
  | some ti, some d => (match ti.zero with
    | some z => decide (ti.size = i.size) && decide (ti.bytes = i.bytes) && vsEq z.cells.toList i.zero && decide (i.zero.length = i.size) && allOK i.zero && (aggD d == i.agg) && kdB P i.kd d
    | none => false)
  | _, _ => false
theorem rowB_spec {P : Program} {t : TypeId} {i : TI} (h : rowB P t i = true) : Row P t i := by
  unfold rowB at h
  split at h
  · rename_i ti d h1 h2
    split at h
    · rename_i z hz
      simp only [Bool.and_eq_true, decide_eq_true_eq, beq_iff_eq] at h
      obtain ⟨⟨⟨⟨⟨⟨a1, a2⟩, a3⟩, a4⟩, a5⟩, a6⟩, a7⟩ := h
      refine ⟨⟨ti, z, h1, a1, a2, hz, vsEq_spec a3⟩, a4, a5, d, h2, a6, ?_⟩
      unfold kdB at a7
      split at a7
      · cases a7
      · rename_i hk hd
        rw [hk]
        exact fun ms e => hd ms e
      · rename_i hk; rw [hk]
      · rename_i hk; rw [hk]
      · rename_i hk; rw [hk]; exact ⟨_, rfl⟩
      · rename_i hk; rw [hk]; exact ⟨_, _, _, rfl⟩
      · rename_i hk; rw [hk]; simp at a7; rw [a7]
      · rename_i hk; rw [hk]; simp at a7; rw [a7.1, a7.2]
      · rename_i kk z0 kt e hk
        rw [hk]
        simp only [Bool.and_eq_true] at a7
        obtain ⟨k1, k2⟩ := a7
        split at k2
        · rename_i ti' hti
          split at k2
          · rename_i z' hz'
            obtain ⟨q1, q2⟩ := zEq_spec k2
            subst q1
            exact ⟨q2, kt, e, ti', rfl, keyB_ok k1, hti, hz'⟩
          · cases k2
        · cases k2
      · rename_i fs fields hk
        rw [hk]
        simp only [Bool.and_eq_true, decide_eq_true_eq] at a7
        exact ⟨fields, rfl, a7.1, fun f hf => by
          have := Array.all_eq_true'.1 a7.2 f hf
          simpa using this⟩
      · cases a7
    · cases h
  · cases h
theorem lk_mem {α : Type} : ∀ {l : List (Nat × α)} {k : Nat} {x : α}, lk l k = some x → (k, x) ∈ l
  | [], k, x, h => by cases h
  | (i, y) :: r, k, x, h => by
    rw [lk_put] at h
    split at h
    · rename_i hk; cases h; subst hk; exact List.mem_cons_self
    · exact List.mem_cons_of_mem _ (lk_mem h)
theorem tok_of {P : Program} {tbl : List (Nat × TI)} (h : (tbl.all fun x => rowB P x.1 x.2) = true) : TOK P (lk tbl) := fun t i hi => rowB_spec (List.all_eq_true.1 h _ (lk_mem hi))

def cvT (l : List (Nat × Cv)) : CTab := fun t => match lk l t with
  | some c => c
  | none => .no
def cvB (P : Program) (t : TypeId) (c : Cv) : Bool :=
  match c, P.underlying t with
  | .int k, some (.int k') => decide (k = k')
  | .float, some (.float .f64) => true
  | .no, _ => true
  | _, _ => false
theorem cok_of {P : Program} {l : List (Nat × Cv)} (h : (l.all fun x => cvB P x.1 x.2) = true) : COK P (cvT l) := fun t => by
  unfold cvT
  cases hl : lk l t with
  | none => exact ⟨fun k e => (by cases e), fun e => (by cases e)⟩
  | some c =>
    have := List.all_eq_true.1 h _ (lk_mem hl)
    unfold cvB at this
    refine ⟨fun k e => ?_, fun e => ?_⟩
    · simp only at e; subst e
      simp only at this
      split at this
      · rename_i hk hu; cases hk; simp at this; rw [hu, this]
      · rename_i hk _; cases hk
      · rename_i hk; cases hk
      · cases this
    · simp only at e; subst e
      simp only at this
      split at this
      · rename_i hk _; cases hk
      · rename_i hu; exact hu
      · rename_i hk; cases hk
      · cases this

def bodyOf (fn : Func) : Code := fn.body.getD .skip
/-- The program and its tables. -/
structure Ctx (P : Program) (T : Tab) (C : CTab) : Prop where
  tok : TOK P T
  cok : COK P C
  mixed : P.follows .mixedOrders = true

theorem EC_fn {P : Program} {T : Tab} {C : CTab} (X : Ctx P T C) {f : FuncId} {fn : Func} (pv : Nat → Bool) (hf : P.funcs[f]? = some fn) (hb : fn.body.isSome = true) (hnm : (fn.name == "runtime.NumGoroutine") = false)
    {args : List Value} {H : Heap} {R : AEnd → Heap → Prop} (hal : Nat.ble (lenN args) fn.ntmps = true) (h : wpF P T C pv fn.ntmps (bodyOf fn) (retQ T fn.results.toList R) ⟨argsT 0 args, []⟩ H) : EC P f args H R := by
  obtain ⟨c, hc⟩ := Option.isSome_iff_exists.1 hb
  have hbo : bodyOf fn = c := by unfold bodyOf; rw [hc]; rfl
  rw [hbo] at h
  exact EC_of_wpF X.tok X.cok X.mixed hf hc hnm rfl (by rw [← lenN_eq]; exact Nat.ble_eq ▸ hal) h
/-- A loop, by what holds at every round's head. -/
theorem loop_ind {P : Program} {T : Tab} {C : CTab} (X : Ctx P T C) (pv : Nat → Bool) {N : Nat} {c : Code} {Q : AExit → Env → Heap → Prop} {E : Env} {H : Heap} (I : Nat → Env → Heap → Prop) {n : Nat} {E0 : Env} (h : I n E0 H) (hE : wk E0 E)
    (step : ∀ n E H, I n E H → wpF P T C pv N c (AExit.then (fun E' H' => ∃ m E'', m < n ∧ wk E'' E' ∧ I m E'' H') Q) E H) : LoopF P N c Q E H :=
  loopF_ind X.tok X.cok X.mixed I step h hE
end Go.Am
