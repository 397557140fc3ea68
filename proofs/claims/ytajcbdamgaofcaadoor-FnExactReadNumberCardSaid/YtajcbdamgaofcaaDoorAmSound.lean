/- The abstract machine: an order of a region's operations is one in which an operation comes ahead of another, or behind it. No condition. The abstract machine is sound: what 'wpF' says of code holds of every world that stands for its state. Conditions: the tables say what the program's own types are (TOK, COK); drawn orders are the model's wide ones. -/
import Derived.Test.YtajcbdamgaofcaaDoorAmPhase
import Derived.LoopN
set_option linter.unusedVariables false
set_option linter.unusedSimpArgs false
namespace Go.Am

theorem cntU_le {listed : Array Bool} : ∀ k, cntU listed k ≤ k
  | 0 => Nat.le_refl _
  | k + 1 => by
    have := cntU_le (listed := listed) k
    simp only [cntU]
    split <;> omega

/-- An order in which operations may come up. -/
inductive Sched (ops : Array Oper) : Array Bool → List Nat → Prop
  | nil {listed : Array Bool} (h : Region.ready .any ops listed = []) : Sched ops listed []
  | cons {listed : Array Bool} {i : Nat} {l : List Nat} (h : i ∈ Region.ready .any ops listed) (t : Sched ops (listed.setIfInBounds i true) l) : Sched ops listed (i :: l)

section
variable {P : Program} {ops ops' : Array Oper} {Q : Exit → Act → World → Prop}
theorem Sched.wp {listed : Array Bool} {l : List Nat} (h : Sched ops listed l) : ∀ (f : Nat) (a : Act) (w : World), wpAny P .any ops Q f listed a w → wpOps P ops Q l a w := by
  induction h with
  | nil h =>
    intro f a w hw
    simp only [wpOps]
    cases f with
    | zero => exact hw.2
    | succ f => exact hw.1 h
  | cons h t ih =>
    intro f a w hw
    cases f with
    | zero => rw [hw.1] at h; cases h
    | succ f =>
      rw [wpOps_cons]
      exact wpOp_mono (fun a w => ih f a w) (hw.2 _ h)
theorem sched_go : ∀ (fuel t : Nat) (listed : Array Bool), cntU listed ops.size ≤ fuel → listed.size = ops.size → Sched ops listed (Region.linearise.go .any ops fuel t listed []) := by
  intro fuel
  induction fuel with
  | zero =>
    intro t listed hc hs
    simp only [Region.linearise.go, List.reverse_nil]
    refine .nil ?_
    rcases hr : Region.ready .any ops listed with _ | ⟨i, r⟩
    · rfl
    · exfalso
      have : i ∈ Region.ready .any ops listed := by rw [hr]; simp
      obtain ⟨h1, o, h2, _⟩ := mem_ready.1 this
      have := cntU_zero (listed := listed) ops.size (by omega) i (Array.getElem?_eq_some_iff.1 h2).1
      rw [this] at h1; cases h1
  | succ fuel ih =>
    intro t listed hc hs
    simp only [Region.linearise.go]
    change Sched ops listed (match (Region.ready .any ops listed)[t % (Region.ready .any ops listed).length]? with
      | some i => Region.linearise.go .any ops fuel (t / (Region.ready .any ops listed).length) (listed.setIfInBounds i true) [i]
      | none => [].reverse)
    cases hi : (Region.ready .any ops listed)[t % (Region.ready .any ops listed).length]? with
    | none =>
      refine .nil ?_
      cases hr : Region.ready .any ops listed with
      | nil => rfl
      | cons x xs =>
        rw [hr] at hi
        have hlt : t % (x :: xs).length < (x :: xs).length := Nat.mod_lt _ (by simp)
        simp at hi
        simp at hlt
        omega
    | some i =>
      simp only []
      rw [linearise_go_acc, List.reverse_singleton, List.singleton_append]
      have hm := List.mem_of_getElem? hi
      obtain ⟨h1, o, h2, _⟩ := mem_ready.1 hm
      have hc1 := cntU_set (listed := listed) h1 ops.size (Array.getElem?_eq_some_iff.1 h2).1
      exact .cons hm (ih _ _ (by omega) (by simpa using hs))

/-! one operation waits for another besides -/
theorem addL_len : ∀ (l : List Oper) (x y : Nat), (addL l x y).length = l.length
  | [], _, _ => rfl
  | _ :: _, 0, _ => rfl
  | _ :: r, x + 1, y => by simp [addL, addL_len r x y]
theorem addL_get : ∀ (l : List Oper) (x y i : Nat), (addL l x y)[i]? = (l[i]?).map fun o => if i = x then { o with after := o.after.push ⟨y, .phase⟩ } else o
  | [], _, _, i => by simp [addL]
  | o :: r, 0, y, 0 => by simp [addL]
  | o :: r, 0, y, i + 1 => by simp [addL]
  | o :: r, x + 1, y, 0 => by simp [addL]
  | o :: r, x + 1, y, i + 1 => by simp [addL, addL_get r x y i]
theorem addE_get (ops : Array Oper) (x y i : Nat) : (addE ops x y)[i]? = (ops[i]?).map fun o => if i = x then { o with after := o.after.push ⟨y, .phase⟩ } else o := by
  show (⟨addL ops.toList x y⟩ : Array Oper)[i]? = _
  rw [List.getElem?_toArray, addL_get, Array.getElem?_toList]
theorem addE_size (ops : Array Oper) (x y : Nat) : (addE ops x y).size = ops.size := by
  show (addL ops.toList x y).length = _
  rw [addL_len]; simp
theorem ready_add {x y i : Nat} {listed : Array Bool} : i ∈ Region.ready .any (addE ops x y) listed ↔ i ∈ Region.ready .any ops listed ∧ (i = x → listed.getD y false = true) := by
  rw [mem_ready, mem_ready]
  constructor
  · rintro ⟨h1, o, h2, h3⟩
    rw [addE_get] at h2
    cases hq : ops[i]? with
    | none => rw [hq] at h2; cases h2
    | some o' =>
      rw [hq] at h2
      have h2 := Option.some.inj h2
      dsimp only at h2
      by_cases hix : i = x
      · rw [if_pos hix] at h2
        subst h2
        exact ⟨⟨h1, o', rfl, fun e he hb => h3 e (by simp [he]) hb⟩, fun _ => h3 ⟨y, .phase⟩ (by simp) rfl⟩
      · rw [if_neg hix] at h2
        subst h2
        exact ⟨⟨h1, o', rfl, h3⟩, fun h => absurd h hix⟩
  · rintro ⟨⟨h1, o, h2, h3⟩, h4⟩
    refine ⟨h1, _, by rw [addE_get, h2]; rfl, fun e he hb => ?_⟩
    dsimp only at he
    by_cases hix : i = x
    · rw [if_pos hix] at he
      rcases Array.mem_push.1 he with he | he
      · exact h3 e he hb
      · subst he; exact h4 hix
    · rw [if_neg hix] at he; exact h3 e he hb
theorem getD_set_self {listed : Array Bool} {i : Nat} (h : i < listed.size) : (listed.setIfInBounds i true).getD i false = true := by simp [h]
/-- Behind the other the wait is no wait. -/
theorem Sched.done {x y : Nat} {listed : Array Bool} {l : List Nat} (h : Sched ops listed l) (hy : listed.getD y false = true) : Sched (addE ops x y) listed l := by
  induction h with
  | @nil listed h =>
    refine .nil ?_
    rcases hr : Region.ready .any (addE ops x y) listed with _ | ⟨i, r⟩
    · rfl
    · have : i ∈ Region.ready .any (addE ops x y) listed := by rw [hr]; simp
      have := (ready_add.1 this).1
      rw [h] at this; cases this
  | @cons listed i l h t ih =>
    exact .cons (ready_add.2 ⟨h, fun _ => hy⟩) (ih (getD_set_true hy))
theorem Sched.split {x y : Nat} (hxy : x ≠ y) {listed : Array Bool} {l : List Nat} (h : Sched ops listed l) (hx : x < listed.size) (hy : y < listed.size) (ux : listed.getD x false = false) (uy : listed.getD y false = false) :
    Sched (addE ops x y) listed l ∨ Sched (addE ops y x) listed l := by
  induction h with
  | @nil listed h =>
    refine .inl (.nil ?_)
    rcases hr : Region.ready .any (addE ops x y) listed with _ | ⟨i, r⟩
    · rfl
    · have : i ∈ Region.ready .any (addE ops x y) listed := by rw [hr]; simp
      have := (ready_add.1 this).1
      rw [h] at this; cases this
  | @cons listed i l h t ih =>
    by_cases hix : i = x
    · subst hix
      refine .inr (.cons (ready_add.2 ⟨h, fun e => absurd e hxy⟩) ?_)
      exact t.done (getD_set_self hx)
    · by_cases hiy : i = y
      · subst hiy
        refine .inl (.cons (ready_add.2 ⟨h, fun e => absurd e hix⟩) ?_)
        exact t.done (getD_set_self hy)
      · rcases ih (by simpa using hx) (by simpa using hy) (by rw [getD_set_ne false hix]; exact ux) (by rw [getD_set_ne false hiy]; exact uy) with r | r
        · exact .inl (.cons (ready_add.2 ⟨h, fun e => absurd e hix⟩) r)
        · exact .inr (.cons (ready_add.2 ⟨h, fun e => absurd e hiy⟩) r)

/-- Operations that differ in what they wait for alone. -/
def Alike (ops ops' : Array Oper) : Prop := ∀ i : Nat, (ops[i]?).map (fun o : Oper => { o with after := #[] }) = (ops'[i]?).map fun o : Oper => { o with after := #[] }
theorem Alike.refl (ops : Array Oper) : Alike ops ops := fun _ => rfl
theorem Alike.add {x y : Nat} (h : Alike ops ops') : Alike (addE ops x y) ops' := fun i => by
  rw [← h i, addE_get]
  cases ops[i]? with
  | none => rfl
  | some o =>
    simp only [Option.map_some]
    split <;> rfl
theorem Alike.dst (h : Alike ops ops') (j : Nat) : (ops[j]?).bind (·.dst) = (ops'[j]?).bind (·.dst) := by
  have := h j
  cases h1 : ops[j]? <;> cases h2 : ops'[j]? <;> rw [h1, h2] at this <;> simp at this ⊢
  exact this.1
theorem Alike.yielded (h : Alike ops ops') (t : Array Value) : Go.yielded ops t = Go.yielded ops' t := by
  funext j
  unfold Go.yielded
  rw [h.dst]
theorem Alike.wpOps (h : Alike ops ops') : ∀ (l : List Nat) (a : Act) (w : World), Go.wpOps P ops Q l a w → Go.wpOps P ops' Q l a w
  | [], a, w, k => k
  | i :: r, a, w, k => by
    rw [wpOps_cons] at k ⊢
    have hh := h i
    unfold wpOp at k ⊢
    cases h1 : ops[i]? with
    | none =>
      cases h2 : ops'[i]? with
      | none => rw [h1] at k; exact h.wpOps r a w k
      | some o => rw [h1, h2] at hh; cases hh
    | some o =>
      cases h2 : ops'[i]? with
      | none => rw [h1, h2] at hh; cases hh
      | some o' =>
        rw [h1, h2] at hh
        rw [h1] at k
        simp only at k ⊢
        obtain ⟨d, op, ty, pos, af, gu⟩ := o
        obtain ⟨d', op', ty', pos', af', gu'⟩ := o'
        simp only [Option.map_some, Option.some.injEq, Oper.mk.injEq] at hh
        obtain ⟨rfl, rfl, rfl, rfl, _, rfl⟩ := hh
        rw [← h.yielded]
        have hw : Region.wanted (⟨d, op, ty, pos, af', gu⟩ : Oper) (Go.yielded ops a.tmps) = Region.wanted (⟨d, op, ty, pos, af, gu⟩ : Oper) (Go.yielded ops a.tmps) := rfl
        rw [hw]
        split
        · rename_i hwant
          rw [if_pos hwant] at k
          rcases k with k | k
          · refine .inl ?_
            have k2 := Oper.wp_mono (fun a w => h.wpOps r a w) k
            exact k2
          · exact .inr k
        · rename_i hwant
          rw [if_neg hwant] at k
          exact h.wpOps r _ _ k
end
end Go.Am

set_option linter.unusedVariables false
namespace Go.Am

section
variable {P : Program} {T : Tab} {C : CTab} {pv : Nat → Bool} {N : Nat}

/-- The post of a walk. -/
def post (N : Nat) (ρ0 : Rho) (own0 : Nat → Owner) (w0 : World) (Q : AExit → Env → Heap → Prop) (e : Exit) (a' : Act) (w' : World) : Prop :=
  ∃ e' π' ρ' own' E' H', XRel ρ' e' e ∧ Q e' E' H' ∧ Guar ρ0 own0 w0 ρ' own' w' ∧ Sim N π' ρ' own' E' H' a' w'

theorem post_normal {ρ0 : Rho} {own0 : Nat → Owner} {w0 : World} {Q : AExit → Env → Heap → Prop} {a' : Act} {w' : World} (h : post N ρ0 own0 w0 Q .normal a' w') :
    ∃ π' ρ' own' E' H', Q .normal E' H' ∧ Guar ρ0 own0 w0 ρ' own' w' ∧ Sim N π' ρ' own' E' H' a' w' := by
  obtain ⟨e', π', ρ', own', E', H', h1, h2, h3, h4⟩ := h
  cases e' with
  | normal => exact ⟨π', ρ', own', E', H', h2, h3, h4⟩
  | exit id => exact h1.elim
  | ret => exact h1.elim
  | pan v => exact h1.elim

theorem Base.of_heap {π : List Nat} {ρ : Rho} {own : Nat → Owner} {bx : List (List Value)} {H : Heap} {a : Act} {w w' : World} (b : Base N π ρ own bx H a w) (h : w'.heap = w.heap) : Base N π ρ own bx H a w' :=
  { toBW := b.toBW.of_heap h, defers := b.defers, size := b.size }
theorem Sim.of_heap {π : List Nat} {ρ : Rho} {own : Nat → Owner} {E : Env} {H : Heap} {a : Act} {w w' : World} (b : Sim N π ρ own E H a w) (h : w'.heap = w.heap) : Sim N π ρ own E H a w' :=
  { toBase := b.toBase.of_heap h, tmp := b.tmp }

theorem leaf_sound {so : Option (Nat → Prop)} {ρ0 ρ : Rho} {own0 own : Nat → Owner} {w0 w : World} {π : List Nat} {H : Heap} {a : Act} (hT : TOK P T) (hC : COK P C) (hn0 : NoPriv own0) {ops0 : Array Oper} {Q : AExit → Env → Heap → Prop} {E : Env} (g : Guar ρ0 own0 w0 ρ own w) (S : Sim N π ρ own E H a w)
    (pl : Plan) (late : List Nat) (ops : Array Oper) (hal : Alike ops ops0) (hsz : ops.size = ops0.size) (hok : (gOK N ops.toList && planOK ops pl late) = true) (h : phasesF P T C pv so ops.toList late (fun v H' => Q (.pan v) ⟨[], []⟩ H') (fun rs H' => Q .normal rs.flush H') pl false ⟨[], E⟩ H)
    (l : _) (hl : Sched ops (Array.replicate ops0.size false) l) : wpOps P ops0 (post N ρ0 own0 w0 Q) l a { w with drawn := w.drawn + 1 } := by
  simp only [Bool.and_eq_true] at hok
  obtain ⟨hg, hok⟩ := hok
  refine hal.wpOps l a _ ?_
  refine hl.wp ops.size a _ ?_
  rw [← hsz]
  have F := planOK_spec hok
  have hw1 : Same w ({ w with drawn := w.drawn + 1 } : World) := rfl
  have hun : ∀ j, (Array.replicate ops.size false).getD j false = true → False := fun j hj => by
    rw [getD_replicate_false] at hj; cases hj
  have S0 : RSim N π ρ own ops (fun j => (Array.replicate ops.size false).getD j false = true) ⟨[], E⟩ H a { w with drawn := w.drawn + 1 } := start_sim (S.of_heap hw1.heap)
  obtain ⟨nx', rs', ent', m1, m2, m3, m4, m5, m6⟩ := phase_start (ops := ops) F F.pos (Kn := fun _ => False) (ent := fun _ => none) (fun j hj => hj.elim) (fun j q fx h1 h2 h3 => by
    cases fx with
    | false => have := h3 rfl; omega
    | true => simp at h2) ⟨fun j o d hk => hk.elim, fun d _ => rfl⟩ (by rw [List.drop_zero]; exact h)
  have main := phases_sound (ops := ops) (N := N) (T := T) (C := C) (pv := pv) (ρ0 := ρ0) (own0 := own0) (w0 := w0) (P := P) hT hC hn0 hg F (Q' := post N ρ0 own0 w0 Q)
    (fun rs' H' π' ρ' own' a' w' D k1 k2 k3 => ⟨.normal, π', ρ', own', rs'.flush, H', trivial, k1, k3, flush_sim k2⟩)
    (fun v H' ρ' own' v' a' w' k1 k2 k3 k4 k5 k6 => ⟨.pan v, [], ρ', own', ⟨[], []⟩, H', k2, k1, k6, { toBW := k5, defers := k3, size := k4, tmp := fun k v h => by cases h }⟩)
    _ 0 nx' ent' rs' H (Array.replicate ops.size false) ⟨[], E⟩ π ρ own a { w with drawn := w.drawn + 1 } rfl
    ⟨S0, g.of_heap hw1, m4, by simp, fun i hi => (hun i hi).elim, fun i hi => (hun i hi).elim, fun i k _ _ h => by omega, ⟨fun j o d hk => (hun j hk).elim, fun d _ => rfl⟩, m2, fun i o q ho h1 h2 _ => by
      have : q = 0 := by omega
      subst this
      exact m6 i o ho h1⟩ m1
  have hle := cntU_le (listed := Array.replicate ops.size false) ops.size
  have := wpAny_more' main (ops.size - cntU (Array.replicate ops.size false) ops.size)
  rw [show cntU (Array.replicate ops.size false) ops.size + (ops.size - cntU (Array.replicate ops.size false) ops.size) = ops.size by omega] at this
  exact this
theorem tree_sound {ρ0 ρ : Rho} {own0 own : Nat → Owner} {w0 w : World} {π : List Nat} {H : Heap} {a : Act} (hT : TOK P T) (hC : COK P C) (hn0 : NoPriv own0) {ops0 : Array Oper} {Q : AExit → Env → Heap → Prop} {E : Env} (g : Guar ρ0 own0 w0 ρ own w) (S : Sim N π ρ own E H a w) :
    ∀ (t : DT) (ops : Array Oper), Alike ops ops0 → ops.size = ops0.size → DT.ok N ops t = true → treeF P T C pv (fun v H' => Q (.pan v) ⟨[], []⟩ H') (fun rs H' => Q .normal rs.flush H') E H ops t →
      ∀ l, Sched ops (Array.replicate ops0.size false) l → wpOps P ops0 (post N ρ0 own0 w0 Q) l a { w with drawn := w.drawn + 1 }
  | .leaf pl late, ops, hal, hsz, hok, h, l, hl => leaf_sound hT hC hn0 g S pl late ops hal hsz hok h l hl
  | .leafS pl late, ops, hal, hsz, hok, h, l, hl => by
    simp only [treeF] at h
    obtain ⟨s, h⟩ := h
    exact leaf_sound hT hC hn0 g S pl late ops hal hsz hok h l hl
  | .split x y c d, ops, hal, hsz, hok, h, l, hl => by
    simp only [DT.ok, Bool.and_eq_true, decide_eq_true_eq] at hok
    obtain ⟨⟨⟨⟨hne, hx⟩, hy⟩, h1⟩, h2⟩ := hok
    simp only [treeF] at h
    rcases hl.split hne (by simpa [hsz] using hx) (by simpa [hsz] using hy) (getD_replicate_false _ _) (getD_replicate_false _ _) with k | k
    · exact tree_sound hT hC hn0 g S c (addE ops x y) hal.add (by rw [addE_size]; exact hsz) h1 h.1 l k
    · exact tree_sound hT hC hn0 g S d (addE ops y x) hal.add (by rw [addE_size]; exact hsz) h2 h.2 l k

theorem region_sound (hT : TOK P T) (hC : COK P C) (hm : P.follows .mixedOrders = true) {id : Nat} {ops : Array Oper} {d : Bool} {Q : AExit → Env → Heap → Prop} {E : Env} {H : Heap} (h : wpF P T C pv N (.region id ops d) Q E H) : W P N (.region id ops d) Q E H := by
  intro ρ0 own0 w0 π ρ own a w hn0 g S
  simp only [wpF] at h
  split at h
  · rename_i hg
    refine wp_region_list ?_
    have S0 : RSim N π ρ own ops (· < 0) ⟨[], E⟩ H a w := start_sim S
    exact opsF_sound (ops := ops) (N := N) (T := T) (C := C) (pv := pv) hT hC hn0 hg
      (fun rs' H' π' ρ' own' a' w' k1 k2 k3 => ⟨.normal, π', ρ', own', rs'.flush, H', trivial, k1, k3, flush_sim k2⟩)
      (fun v H' ρ' own' v' a' w' k1 k2 k3 k4 k5 k6 => ⟨.pan v, [], ρ', own', ⟨[], []⟩, H', k2, k1, k6, { toBW := k5, defers := k3, size := k4, tmp := fun k v h => by cases h }⟩)
      ops.toList 0 ⟨[], E⟩ H π ρ own a w (fun j => by simp) (by simp) h S0 g
  · rename_i hg
    obtain ⟨t, hok, h⟩ := h
    refine wp_region_draw fun t' => ?_
    simp only [Region.schedule, hm, Bool.true_or, if_true]
    have hsch := sched_go (ops := ops) ops.size t' (Array.replicate ops.size false) (cntU_le ops.size) (by simp)
    exact tree_sound hT hC hn0 g S t ops (Alike.refl ops) rfl hok h _ hsch
  · exact h.elim

theorem wpF_sound (hT : TOK P T) (hC : COK P C) (hm : P.follows .mixedOrders = true) : ∀ (c : Code) (Q : AExit → Env → Heap → Prop) (E : Env) (H : Heap), wpF P T C pv N c Q E H → W P N c Q E H
  | .skip, Q, E, H, h => fun ρ0 own0 w0 π ρ own a w hn0 g S => wp_skip ⟨.normal, π, ρ, own, E, H, trivial, h, g, S⟩
  | .region id ops d, Q, E, H, h => region_sound hT hC hm h
  | .seq x y, Q, E, H, h => fun ρ0 own0 w0 π ρ own a w hn0 g S => by
    refine wp_seq (Go.wp_mono (wpF_sound hT hC hm x _ E H h ρ0 own0 w0 π ρ own a w hn0 g S) fun e a' w' ⟨e', π', ρ', own', E', H', k1, k2, k3, k4⟩ => ?_)
    cases e' with
    | normal =>
      cases e <;> first | exact k1.elim | skip
      exact wpF_sound hT hC hm y Q E' H' k2 ρ0 own0 w0 π' ρ' own' a' w' hn0 k3 k4
    | exit i =>
      cases e <;> first | exact k1.elim | skip
      exact ⟨.exit i, π', ρ', own', E', H', k1, k2, k3, k4⟩
    | ret =>
      cases e <;> first | exact k1.elim | skip
      exact ⟨.ret, π', ρ', own', E', H', k1, k2, k3, k4⟩
    | pan v =>
      cases e <;> first | exact k1.elim | skip
      exact ⟨.pan v, π', ρ', own', E', H', k1, k2, k3, k4⟩
  | .cond c x y, Q, E, H, h => fun ρ0 own0 w0 π ρ own a w hn0 g S => by
    simp only [wpF] at h
    split at h
    · rename_i t hc
      have hev : a.eval c = .bool t := by
        cases c with
        | tmp k =>
          have := S.tmp k _ hc
          show a.tmps.getD k undef = _
          generalize a.tmps.getD k undef = u at this
          cases this with
          | pub q => cases q; rfl
        | const v => cases hc; rfl
        | global g => cases hc
        | func f => cases hc
      refine wp_cond hev ?_
      cases t with
      | true => exact wpF_sound hT hC hm x Q E H (h.1 rfl) ρ0 own0 w0 π ρ own a w hn0 g S
      | false => exact wpF_sound hT hC hm y Q E H (h.2 rfl) ρ0 own0 w0 π ρ own a w hn0 g S
    · exact h.elim
  | .block id c, Q, E, H, h => fun ρ0 own0 w0 π ρ own a w hn0 g S => by
    refine wp_block (Go.wp_mono (wpF_sound hT hC hm c _ E H h ρ0 own0 w0 π ρ own a w hn0 g S) fun e a' w' ⟨e', π', ρ', own', E', H', k1, k2, k3, k4⟩ => ?_)
    cases e' with
    | normal =>
      cases e <;> first | exact k1.elim | skip
      exact ⟨.normal, π', ρ', own', E', H', trivial, k2, k3, k4⟩
    | exit i =>
      cases e <;> first | exact k1.elim | skip
      obtain rfl : i = _ := k1
      simp only [Exit.inBlock]
      simp only [AExit.inBlock] at k2
      split at k2
      · rename_i hq
        rw [if_pos (Nat.eq_of_beq_eq_true hq)]
        exact ⟨.normal, π', ρ', own', E', H', trivial, k2, k3, k4⟩
      · rename_i hq
        rw [if_neg (fun e => by subst e; simp at hq)]
        exact ⟨.exit i, π', ρ', own', E', H', rfl, k2, k3, k4⟩
    | ret =>
      cases e <;> first | exact k1.elim | skip
      exact ⟨.ret, π', ρ', own', E', H', k1, k2, k3, k4⟩
    | pan v =>
      cases e <;> first | exact k1.elim | skip
      exact ⟨.pan v, π', ρ', own', E', H', k1, k2, k3, k4⟩
  | .loop c, Q, E, H, h => h.run
  | .exit i, Q, E, H, h => fun ρ0 own0 w0 π ρ own a w hn0 g S => wp_exit ⟨.exit i, π, ρ, own, E, H, rfl, h, g, S⟩
  | .ret, Q, E, H, h => fun ρ0 own0 w0 π ρ own a w hn0 g S => wp_ret ⟨.ret, π, ρ, own, E, H, trivial, h, g, S⟩
  | .rangeFunc .., Q, E, H, h => h.elim
  | .scope _, Q, E, H, h => h.elim
  | .label _, Q, E, H, h => h.elim
  | .goto _, Q, E, H, h => h.elim
  | .refuse _, Q, E, H, h => h.elim

/-! Knowing less. -/
theorem wkB_spec : ∀ (b b' : List (List Value)), wkB b b' → ∃ t, b' = b ++ t
  | [], b', _ => ⟨b', rfl⟩
  | x :: r, [], h => h.elim
  | x :: r, y :: s, h => by
    obtain ⟨rfl, h⟩ := h
    obtain ⟨t, rfl⟩ := wkB_spec r s h
    exact ⟨t, rfl⟩
theorem wkT_spec {ts : List (Nat × Value)} {m : Nat} : ∀ (l : List (Nat × Value)), wkT ts m l → ∀ k v, lkT l k = some v → lkT ts k = some v ∧ privLt m v
  | [], _, k, v, h => by cases h
  | (i, x) :: r, h, k, v, hk => by
    obtain ⟨h1, h2, h3⟩ := h
    unfold lkT at hk
    rw [lk_put] at hk
    by_cases hki : k = i
    · subst hki
      rw [if_pos rfl] at hk
      split at hk
      · cases hk
      · rename_i u hu hc
        cases hc; cases hk
        exact ⟨h1, h2⟩
      · cases hk
    · rw [if_neg hki] at hk
      exact wkT_spec r h3 k v hk
theorem Sim.weaken {π : List Nat} {ρ : Rho} {own : Nat → Owner} {E E' : Env} {H : Heap} {a : Act} {w : World} (S : Sim N π ρ own E' H a w) (h : wk E E') : Sim N (π.take E.boxes.length) ρ own E H a w := by
  obtain ⟨h1, h2⟩ := h
  obtain ⟨t, ht⟩ := wkB_spec _ _ h2
  have hlen := S.len
  rw [ht] at hlen
  simp at hlen
  refine { defers := S.defers, size := S.size, hrel := S.hrel, len := ?_, box := fun k cs hk => ?_, tmp := fun k v hk => ?_ }
  · simp; omega
  · have hkl : k < E.boxes.length := (List.getElem?_eq_some_iff.1 hk).1
    obtain ⟨B, D, Te, e1, e2, e3, e4⟩ := S.box k cs (by rw [ht, List.getElem?_append_left hkl]; exact hk)
    exact ⟨B, D, Te, by rw [List.getElem?_take, if_pos hkl]; exact e1, e2, e3, e4⟩
  · obtain ⟨k1, k2⟩ := wkT_spec _ h1 k v hk
    have := S.tmp k v k1
    generalize a.tmps.getD k undef = u at this ⊢
    cases this with
    | pub q => exact .pub q
    | @priv k' o B hB =>
      have hlt : k' < E.boxes.length := by
        have : Nat.blt k' (lenN E.boxes) = true := k2
        rw [lenN_eq] at this
        exact Nat.blt_eq ▸ this
      exact .priv (by rw [List.getElem?_take, if_pos hlt]; exact hB)

theorem rounds_mono {c : Code} {Q : Exit → Act → World → Prop} : ∀ (n : Nat) (a : Act) (w : World), Code.rounds P c Q n a w → Code.rounds P c Q (n + 1) a w
  | 0, a, w, h => h.elim
  | n + 1, a, w, h => by
    rw [rounds_succ] at h ⊢
    refine Go.wp_mono h fun e a' w' he => ?_
    cases e with
    | normal => exact rounds_mono n a' w' he
    | _ => exact he
theorem rounds_le {c : Code} {Q : Exit → Act → World → Prop} {n m : Nat} (h : n ≤ m) {a : Act} {w : World} (hr : Code.rounds P c Q n a w) : Code.rounds P c Q m a w := by
  obtain ⟨d, rfl⟩ := Nat.exists_eq_add_of_le h
  clear h
  induction d with
  | zero => exact hr
  | succ d ih => exact rounds_mono _ _ _ ih

/-- A loop, by what holds at every round's head and a number that goes down. -/
theorem loopF_ind (hT : TOK P T) (hC : COK P C) (hm : P.follows .mixedOrders = true) {c : Code} {Q : AExit → Env → Heap → Prop} (I : Nat → Env → Heap → Prop)
    (step : ∀ n E H, I n E H → wpF P T C pv N c (AExit.then (fun E' H' => ∃ m E'', m < n ∧ wk E'' E' ∧ I m E'' H') Q) E H)
    {n : Nat} {E0 E : Env} {H : Heap} (h : I n E0 H) (hE : wk E0 E) : LoopF P N c Q E H where
  run := fun ρ0 own0 w0 π ρ own a w hn0 g S => by
    have key : ∀ n E H π ρ own a w, I n E H → Guar ρ0 own0 w0 ρ own w → Sim N π ρ own E H a w → Code.rounds P c (post N ρ0 own0 w0 Q) (n + 1) a w := by
      intro n
      induction n using Nat.strongRecOn with
      | _ n ih =>
        intro E H π ρ own a w hI g S
        rw [rounds_succ]
        refine Go.wp_mono (wpF_sound hT hC hm c _ E H (step n E H hI) ρ0 own0 w0 π ρ own a w hn0 g S) fun e a' w' ⟨e', π', ρ', own', E', H', k1, k2, k3, k4⟩ => ?_
        cases e' with
        | normal =>
          cases e <;> first | exact k1.elim | skip
          obtain ⟨m, E'', hlt, hwk, hI'⟩ := k2
          exact rounds_le (by omega) (ih m hlt E'' H' _ ρ' own' a' w' hI' k3 (k4.weaken hwk))
        | exit i =>
          cases e <;> first | exact k1.elim | skip
          exact ⟨.exit i, π', ρ', own', E', H', k1, k2, k3, k4⟩
        | ret =>
          cases e <;> first | exact k1.elim | skip
          exact ⟨.ret, π', ρ', own', E', H', k1, k2, k3, k4⟩
        | pan v =>
          cases e <;> first | exact k1.elim | skip
          exact ⟨.pan v, π', ρ', own', E', H', k1, k2, k3, k4⟩
    exact wp_loop_rounds _ (key n E0 H _ ρ own a w h g (S.weaken hE))

/-! Functions. -/
theorem argsT_lk : ∀ (l : List Value) (k i : Nat) (v : Value), lkT (argsT k l) i = some v → k ≤ i ∧ l[i - k]? = some v
  | [], k, i, v, h => by cases h
  | x :: r, k, i, v, h => by
    unfold lkT at h
    simp only [argsT] at h
    rw [lk_put] at h
    by_cases hik : i = k
    · subst hik
      rw [if_pos rfl] at h
      split at h
      · cases h
      · rename_i u hu hc; cases hc; cases h; simp
      · cases h
    · rw [if_neg hik] at h
      obtain ⟨h1, h2⟩ := argsT_lk r (k + 1) i v h
      refine ⟨by omega, ?_⟩
      rw [show i - k = (i - (k + 1)) + 1 by omega]
      simpa using h2

def resOne (tmps : Array Value) : ResultVar → Sem Value
  | .tmp t => pure (tmps.getD t undef)
  | .cell x t => do loadVar t (← asAddr (tmps.getD x undef))
theorem results_eq (fn : Func) (tmps : Array Value) : results fn tmps = (do
    let vs ← fn.results.mapM (resOne tmps)
    pure (if h : vs.size = 1 then vs[0] else .tuple vs)) := by
  have : (fun r => (match r with
      | .tmp t => pure (tmps.getD t undef)
      | .cell x t => do loadVar t (← asAddr (tmps.getD x undef)) : Sem Value)) = resOne tmps := funext fun r => by cases r <;> rfl
  rw [← this]; rfl
theorem resVal_sound (hT : TOK P T) {π : List Nat} {ρ : Rho} {own : Nat → Owner} {E : Env} {H : Heap} {a : Act} {w : World} (S : Sim N π ρ own E H a w) {r : ResultVar} {v : Value} (h : resVal T H E r = some v) :
    ∃ v', (resOne a.tmps r).run P w = .ok v' w ∧ VRel ρ v v' := by
  cases r with
  | tmp t =>
    simp only [resVal] at h
    split at h
    · rename_i u hu
      split at h
      · rename_i hp
        cases h
        exact ⟨_, rfl, isPub_rel (S.tmp t _ hu) hp⟩
      · cases h
    · cases h
  | cell x t =>
    simp only [resVal] at h
    split at h
    · rename_i k o sp i hx hi
      split at h
      · rename_i u hu
        split at h
        · rename_i hp
          cases h
          have hx' := S.tmp x _ hx
          generalize hy : a.tmps.getD x undef = y at hx'
          cases hx' with
          | pub q => cases q
          | priv hk =>
            obtain ⟨v', g1, g2⟩ := loadA_sound (P := P) S.toBase (hT _ _ hi) (.priv hk) v (.inl hu)
            refine ⟨v', ?_, isPub_rel g2 hp⟩
            simp only [resOne, hy, asAddr, pure_bind]
            simpa [Instr.loadAt, Instr.sureAddr] using g1
        · cases h
      · cases h
    · cases h

theorem resVals_sound (hT : TOK P T) {π : List Nat} {ρ : Rho} {own : Nat → Owner} {E : Env} {H : Heap} {a : Act} {w : World} (S : Sim N π ρ own E H a w) : ∀ (rs : List ResultVar) (vs : List Value), resVals T H E rs = some vs →
    ∃ vs', (rs.mapM (resOne a.tmps)).run P w = .ok vs' w ∧ VRels ρ vs vs'
  | [], vs, h => by cases h; exact ⟨[], rfl, .nil⟩
  | r :: rs, vs, h => by
    simp only [resVals] at h
    split at h
    · rename_i v us hv hus
      cases h
      obtain ⟨v', g1, g2⟩ := resVal_sound hT S hv
      obtain ⟨us', g3, g4⟩ := resVals_sound hT S rs us hus
      refine ⟨v' :: us', ?_, .cons g2 g4⟩
      simp only [List.mapM_cons, Sem.run_bind, g1, g3, Result.andThen_ok, Sem.run_pure]
    · cases h

theorem EC_of_wpF (hT : TOK P T) (hC : COK P C) (hm : P.follows .mixedOrders = true) {f : FuncId} {fn : Func} {c : Code} (hf : P.funcs[f]? = some fn) (hb : fn.body = some c) (hnm : (fn.name == "runtime.NumGoroutine") = false) (hN : fn.ntmps = N)
    {args : List Value} {H : Heap} {R : AEnd → Heap → Prop} (hal : args.length ≤ N) (h : wpF P T C pv N c (retQ T fn.results.toList R) ⟨argsT 0 args, []⟩ H) : EC P f args H R where
  run := fun ρ own w cargs hr hnp hargs => by
    have hrun : (callFunc f cargs.toArray).run P w = .ok (.enter f cargs.toArray) w := by
      have hbn : fn.body.isNone = false := by rw [hb]; rfl
      simp only [callFunc, Sem.run_bind, run_program, Result.andThen_ok, hf, hnm, hbn]
      rfl
    unfold CallRun
    rw [hrun]
    refine calls_of_wp hf hb ?_
    have hcl : cargs.length = args.length := hargs.length.symm
    have S0 : Sim N [] ρ own ⟨argsT 0 args, []⟩ H { tmps := cargs.toArray ++ Array.replicate (fn.ntmps - cargs.toArray.size) undef, defers := [] } w := by
      refine { defers := rfl, size := ?_, hrel := hr, len := rfl, box := fun k cs h => by simp at h, tmp := fun k v hk => ?_ }
      · simp; omega
      · obtain ⟨_, h2⟩ := argsT_lk args 0 k v hk
        obtain ⟨v', g1, g2⟩ := hargs.get _ v h2
        simp at g1
        have hlt : k < cargs.length := (List.getElem?_eq_some_iff.1 g1).1
        have hget : (cargs.toArray ++ Array.replicate (fn.ntmps - cargs.toArray.size) undef).getD k undef = v' := by
          rw [Array.getD_eq_getD_getElem?, Array.getElem?_append_left (by simpa using hlt)]
          simp [g1]
        rw [hget]; exact .pub g2
    refine Go.wp_mono (wpF_sound hT hC hm c _ _ H h ρ own w [] ρ own _ w hnp (Guar.refl _ _ _) S0) fun e a' w' ⟨e', π', ρ', own', E', H', k1, k2, k3, k4⟩ => ?_
    have fin : Guar ρ own w ρ' (eraseP own') w' := ⟨k3.le, k3.ext, k3.size, fun B hB hn => by
      obtain ⟨q1, q2⟩ := k3.keep B hB hn
      refine ⟨q1, ?_⟩
      unfold eraseP
      split
      · rename_i k hk; rw [hk] at q2; exact absurd q2.symm (hnp B k)
      · exact q2⟩
    have retcase : (match resVals T H' E' fn.results.toList with | some vs => R (.ret (tupV vs)) H' | none => False) →
        a'.defers = [] ∧ ∃ v, (results fn a'.tmps).run P w' = .ok v w' ∧ ∃ r H'' ρ'' own'', R r H'' ∧ ERel ρ'' r (.returned v) ∧ HRel ρ'' own'' H'' w' ∧ NoPriv own'' ∧ Guar ρ own w ρ'' own'' w' := fun k2 => by
      refine ⟨k4.defers, ?_⟩
      split at k2
      · rename_i vs hvs
        obtain ⟨vs', g1, g2⟩ := resVals_sound hT k4 _ vs hvs
        refine ⟨tupV vs', ?_, .ret (tupV vs), H', ρ', eraseP own', k2, ?_, k4.hrel.erase, eraseP_noPriv _, fin⟩
        · rw [results_eq]
          simp only [Sem.run_bind]
          rw [Array.mapM_eq_mapM_toList]
          simp only [Sem.run_map]
          rw [g1]
          simp only [Result.andThen_ok, Sem.run_pure]
          congr 1
          cases vs' with
          | nil => rfl
          | cons x r => cases r with
            | nil => rfl
            | cons y r => simp [tupV]
        · show VRel ρ' (tupV vs) (tupV vs')
          cases g2 with
          | nil => exact .tuple .nil
          | cons hx ht => cases ht with
            | nil => exact hx
            | cons hy ht => exact .tuple (.cons hx (.cons hy ht))
      · exact k2.elim
    cases e' with
    | normal =>
      cases e <;> first | exact k1.elim | skip
      exact retcase k2
    | ret =>
      cases e <;> first | exact k1.elim | skip
      exact retcase k2
    | exit i => exact k2.elim
    | pan v =>
      cases e <;> first | exact k1.elim | skip
      rename_i chain
      refine ⟨k4.defers, .pan v, H', ρ', eraseP own', k2, ?_, k4.hrel.erase, eraseP_noPriv _, fin⟩
      simp only [XRel] at k1
      split at k1 <;> first | exact k1.elim | skip
      · rename_i hq _; cases hq
      · rename_i hq _; cases hq
      · rename_i hq _; cases hq
      · rename_i v0 v1 hq hch
        cases hq; cases hch
        exact k1
end
end Go.Am
