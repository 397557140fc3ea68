/- Verify: what both sides' functions over one step and one span compute. Conditions: codes as the laws let them in. Verify: spans. Conditions: codes as the laws let them in. -/
import Derived.Test.YthcnnificgbmhaaCode
import Derived.Test.YthcnnificgbmhaaGval
set_option linter.unusedVariables false
set_option linter.unusedSimpArgs false
namespace Go.Proofs.Ythcnnificgbmhaa
open Go.Am

def stepLen (s : Step) (k : Int) : Int := if k = 0 then s.n else s.len
def stepField (s : Step) (k : Int) : Int := if k = 0 then s.a else if k = 1 then s.b else s.c
theorem l5operandLen_pc (H : Heap) (s : Step) (k : Int) : PC Try.prog 34 [stepV s, .int .i64 k] H (.int .i64 (stepLen s k)) := by
  refine EC_fn ctx (fun _ => true) Try.func34 rfl rfl rfl ?_
  (repeat' first | refine pbool ?_ | refine pint ?_ | refine ⟨fun _ => ?_, fun _ => ?_⟩ | fail) <;> simp_all [stepLen]
theorem l5stepField_pc (H : Heap) (s : Step) (k : Int) : PC Try.prog 33 [stepV s, .int .i64 k] H (.int .i64 (stepField s k)) := by
  refine EC_fn ctx (fun _ => true) Try.func33 rfl rfl rfl ?_
  (repeat' first | refine pbool ?_ | refine pint ?_ | refine ⟨fun _ => ?_, fun _ => ?_⟩ | fail) <;> simp_all [stepField]
/-- A step writes a cell. -/
def hitsB (s : Step) (cell : Int) : Bool := decide (s.dst ≤ cell ∧ cell < s.dst + s.len)
def wroteB (steps : List Step) (n : Nat) (cell : Int) : Bool := (steps.take n).any fun s => hitsB s cell
theorem any_take_succ {α : Type} {f : α → Bool} {xs : List α} {k : Nat} (hk : k < xs.length) (h : (xs.take k).any f = false) (h' : f xs[k] = false) : (xs.take (k + 1)).any f = false := by
  rw [List.take_succ_eq_append_getElem hk, List.any_append, h]; simp [h']
theorem any_take_true {α : Type} {f : α → Bool} {xs : List α} {k n : Nat} (hk : k < xs.length) (hkn : k < n) (h' : f xs[k] = true) : (xs.take n).any f = true := by
  rw [List.any_eq_true]
  exact ⟨xs[k], by rw [List.mem_take_iff_getElem]; exact ⟨k, by omega, rfl⟩, h'⟩
theorem l5wrote_pc (H : Heap) (p q r : Option Addr) (c : Code') (hc : RdC H p q r c) (n : Nat) (cell : Int) (hn : n ≤ c.steps.length) (hl : c.steps.length ≤ 1048576) (hb : ∀ s ∈ c.steps.take n, 0 ≤ s.dst ∧ s.dst ≤ 50000 ∧ 1 ≤ s.len ∧ s.len ≤ 1000) :
    PC Try.prog 57 [cV p q r c, .int .i64 n, .int .i64 cell] H (.bool (wroteB c.steps n cell)) := by
  refine EC_fn ctx (fun _ => true) Try.func57 rfl rfl rfl ?_
  refine loop_ind ctx (fun _ => true) (fun m E K => ∃ k, k ≤ n ∧ m = n - k ∧ E = ⟨[(1, .int .i64 n), (2, .int .i64 cell), (3, .pointer (some ⟨0, 0, some 0⟩)), (7, .int .i64 k)], [[sv p c.ins, sv q c.steps, sv r c.outs, .int .i64 c.peak]]⟩ ∧ K = H ∧ (c.steps.take k).any (fun s => hitsB s cell) = false)
    ⟨0, Nat.zero_le _, rfl, rfl, rfl, rfl⟩ (by (refine ⟨?_, ?_⟩ <;> repeat' first | exact trivial | exact congrArg (fun x => some (Value.int .i64 x)) (wrap_nat (by omega)) | exact sv_eq (by simp; done) | exact rfl | refine ⟨?_, ?_⟩ | fail)) ?_
  rintro m E K ⟨k, hk, rfl, rfl, rfl, ho⟩
  refine ⟨fun hlt => ?_, fun hge => ?_⟩
  · have hlt : k < n := by simpa using hlt
    have hks : k < c.steps.length := by omega
    obtain ⟨b, o, rfl, _, f1, _, f3, _⟩ := hc.steps.stepF (List.getElem?_eq_getElem hks)
    have hbk := hb c.steps[k] (by rw [List.mem_take_iff_getElem]; exact ⟨k, by omega, rfl⟩)
    have hw : IntKind.i64.wrap (c.steps[k].dst + c.steps[k].len) = c.steps[k].dst + c.steps[k].len := wrap_i64 (by omega) (by omega)
    refine ⟨.leaf [([0, 1, 2, 3, 4, 5, 6, 7, 8, 9, 10, 11, 12, 13, 14, 15, 16, 17, 18, 19, 20, 21, 22, 23, 24], none)] [], by kernel_rfl, ⟨by omega, by omega⟩, _, f3, fun _ => ⟨by omega, by omega⟩, _, fun _ => f3, fun _ => ⟨by omega, by omega⟩, _, fun _ => f1, fun hf => pbool ?_, fun hf => ?_⟩
    · rw [hw] at hf
      exact (any_take_true (f := fun s => hitsB s cell) hks hlt (by simp at hf; simp [hitsB]; omega)).symm
    · rw [hw] at hf
      exact ⟨n - (k + 1), ⟨[(1, .int .i64 n), (2, .int .i64 cell), (3, .pointer (some ⟨0, 0, some 0⟩)), (7, .int .i64 ((k + 1 : Nat) : Int))], [[sv p c.ins, sv (some ⟨b, o, none⟩) c.steps, sv r c.outs, .int .i64 c.peak]]⟩, by omega, by (refine ⟨?_, ?_⟩ <;> repeat' first | exact trivial | exact congrArg (fun x => some (Value.int .i64 x)) (wrap_nat (by omega)) | exact sv_eq (by simp; done) | exact rfl | refine ⟨?_, ?_⟩ | fail), k + 1, by omega, rfl, rfl, rfl, any_take_succ hks ho (by simp at hf; simp [hitsB]; omega)⟩
  · have hk : k = n := by simp at hge; omega
    subst hk
    exact pbool ho.symm

/-! a step's form -/
def stepVal (s : Step) : Val := ⟨s.op, s.len, 0, 0, s.c, 0⟩
def restB (s : Step) (k : Int) : Bool := decide (k < opnd s.op) || decide (stepField s k = 0) || (decide (k = 2) && placeB s.op) || (decide (k = 0) && decide (s.op = 0))
def formB (ins : List Int) (s : Step) : Bool :=
  decide (0 ≤ s.op ∧ s.op ≤ 13) && okLen s.len && (restB s 0 && restB s 1 && restB s 2) &&
  (if s.op = 0 then decide (s.n = 0 ∧ 0 ≤ s.a ∧ s.a < ins.length ∧ (ins[s.a.toNat]?).getD 0 = s.len) else if s.op = 1 then decide (s.n = 0) else fitsB (stepVal s) s.n s.len s.len)
theorem opnd_range (op : Int) : 0 ≤ opnd op ∧ opnd op ≤ 3 := by unfold opnd; split; omega; split; omega; split <;> omega
theorem form_head {ins : List Int} {s : Step} (h : ¬ (0 ≤ s.op ∧ s.op ≤ 13 ∧ okLen s.len = true)) : formB ins s = false := by
  unfold formB
  cases hq : okLen s.len with
  | false => simp
  | true =>
    rw [show decide (0 ≤ s.op ∧ s.op ≤ 13) = false by simp [hq] at h ⊢; omega]
    simp
theorem form_rest {ins : List Int} {s : Step} {k : Int} (h0 : 0 ≤ k) (hk : k < 3) (h : restB s k = false) : formB ins s = false := by
  unfold formB
  have : k = 0 ∨ k = 1 ∨ k = 2 := by omega
  rcases this with rfl | rfl | rfl <;> rw [h] <;> simp
theorem l5form_pc (H : Heap) (p q r : Option Addr) (c : Code') (hc : RdC H p q r c) (s : Step) (hl : c.ins.length ≤ 1048576) :
    PC Try.prog 31 [cV p q r c, stepV s] H (.bool (formB c.ins s)) := by
  refine EC_fn ctx (fun _ => true) Try.func31 rfl rfl rfl ?_
  refine ⟨fun h => pbool ?_, fun h1 => ⟨_, l1operands_pc H _, ?_, fun v K hR => by cases hR.1⟩⟩
  · rw [form_head (by simp [okLen] at h ⊢; omega)]
  rintro _ K ⟨hx, rfl⟩
  cases hx
  have hhd : (0 ≤ s.op ∧ s.op ≤ 13) ∧ 1 ≤ s.len ∧ s.len ≤ 1000 := by simp at h1; omega
  have hr := opnd_range s.op
  refine loop_ind ctx (fun _ => true) (fun m E K' => ∃ k : Int, opnd s.op ≤ k ∧ k ≤ 3 ∧ m = (3 - k).toNat ∧ E = ⟨[(2, .pointer (some ⟨0, 0, some 0⟩)), (3, .pointer (some ⟨1, 0, some 0⟩)), (6, .int .i64 k)], [[sv p c.ins, sv q c.steps, sv r c.outs, .int .i64 c.peak], stepcells s]⟩ ∧ K' = K ∧ ∀ j, opnd s.op ≤ j → j < k → restB s j = true)
    ⟨opnd s.op, Int.le_refl _, hr.2, rfl, rfl, rfl, fun j h1 h2 => by omega⟩ (by (refine ⟨?_, ?_⟩ <;> repeat' first | exact trivial | exact congrArg (fun x => some (Value.int .i64 x)) (wrap_nat (by omega)) | exact sv_eq (by simp; done) | exact rfl | refine ⟨?_, ?_⟩ | fail)) ?_
  rintro m E K' ⟨k, hk0, hk3, rfl, rfl, rfl, hok⟩
  refine ⟨fun hlt => ?_, fun hge => ?_⟩
  · have hlt : k < 3 := by simpa using hlt
    refine ⟨_, l5stepField_pc K' s k, ?_, fun v K hR => by cases hR.1⟩
    rintro _ K ⟨hx, rfl⟩
    cases hx
    refine ⟨fun hf => pbool ?_, fun hf => ?_⟩
    · rw [form_rest (by omega) hlt (by simp [restB, placeB] at hf ⊢; omega)]
    · have hw : IntKind.i64.wrap (k + 1) = k + 1 := wrap_i64 (by omega) (by omega)
      refine ⟨(3 - (k + 1)).toNat, ⟨[(2, .pointer (some ⟨0, 0, some 0⟩)), (3, .pointer (some ⟨1, 0, some 0⟩)), (6, .int .i64 (k + 1))], [[sv p c.ins, sv q c.steps, sv r c.outs, .int .i64 c.peak], stepcells s]⟩, by omega, ⟨⟨rfl, rfl, rfl, rfl, congrArg (fun x => some (Value.int .i64 x)) hw, trivial, trivial⟩, by (refine ⟨?_, ?_⟩ <;> repeat' first | exact trivial | exact congrArg (fun x => some (Value.int .i64 x)) (wrap_nat (by omega)) | exact sv_eq (by simp; done) | exact rfl | refine ⟨?_, ?_⟩ | fail)⟩, k + 1, by omega, by omega, rfl, rfl, rfl, fun j h1 h2 => ?_⟩
      by_cases hj : j = k
      · subst hj; simp [restB, placeB] at hf ⊢; omega
      · exact hok j h1 (by omega)
  have hk : k = 3 := by simp at hge; omega
  subst hk
  have hrest : (restB s 0 && restB s 1 && restB s 2) = true := by
    have key : ∀ j : Int, 0 ≤ j → j < 3 → restB s j = true := fun j h1 h2 => by
      by_cases hj : opnd s.op ≤ j
      · exact hok j hj h2
      · simp [restB]; omega
    rw [key 0 (by omega) (by omega), key 1 (by omega) (by omega), key 2 (by omega) (by omega)]; rfl
  have hfm : formB c.ins s = (if s.op = 0 then decide (s.n = 0 ∧ 0 ≤ s.a ∧ s.a < c.ins.length ∧ (c.ins[s.a.toNat]?).getD 0 = s.len) else if s.op = 1 then decide (s.n = 0) else fitsB (stepVal s) s.n s.len s.len) := by
    unfold formB
    rw [hrest, show decide (0 ≤ s.op ∧ s.op ≤ 13) = true by simp; omega, show okLen s.len = true by simp [okLen]; omega]
    simp
  rw [hfm]
  refine ⟨fun h0 => ?_, fun h0 => ⟨fun h1' => pbool ?_, fun h1' => ⟨_, l1fits_pc K' (stepVal s) s.n s.len s.len ?_ ?_ ?_, ?_, fun v K hR => by cases hR.1⟩⟩⟩
  · have h0 : s.op = 0 := by simpa using h0
    rw [if_pos h0]
    rcases hc.ins.sh with hp | ⟨b', o', hp⟩ <;> subst hp <;> refine ⟨.leaf [([0, 1, 2, 3, 4, 5, 6, 7, 8, 9, 10, 11, 12, 13, 14, 15, 16, 17, 18, 19, 20, 21, 22, 23, 24, 25, 26, 27], none)] [], by kernel_rfl, fun hx => ?_, .int .i64 ((c.ins[s.a.toNat]?).getD 0), fun hx => ?_, pbool ?_⟩
    · simp at hx
      obtain ⟨_, _, hq, _⟩ := hc.ins.cell (List.getElem?_eq_getElem (show s.a.toNat < c.ins.length by omega))
      cases hq
    · simp at hx
      obtain ⟨_, _, hq, _⟩ := hc.ins.cell (List.getElem?_eq_getElem (show s.a.toNat < c.ins.length by omega))
      cases hq
    · rw [Bool.eq_iff_iff]; simp; omega
    · simp at hx; omega
    · simp at hx
      have hlt : s.a.toNat < c.ins.length := by omega
      obtain ⟨p', o', hq, hc'⟩ := hc.ins.cell (List.getElem?_eq_getElem hlt)
      cases hq
      rw [List.getElem?_eq_getElem hlt]
      exact hc'
    · rw [Bool.eq_iff_iff]; simp; omega
  · have h0 : ¬ s.op = 0 := by simpa using h0
    have h1' : s.op = 1 := by simpa using h1'
    rw [if_neg h0, if_pos h1', Bool.eq_iff_iff]; simp
  · have h0 : ¬ s.op = 0 := by simpa using h0
    show 1 ≤ s.op
    omega
  · show s.op ≤ 13
    omega
  · show okLen s.len = true
    simp [okLen]; omega
  · rintro _ K ⟨hx, rfl⟩
    cases hx
    have h0 : ¬ s.op = 0 := by simpa using h0
    have h1' : ¬ s.op = 1 := by simpa using h1'
    exact pbool (by rw [if_neg h0, if_neg h1'])

theorem fieldsOk_pc (H : Heap) (p : Option Addr) (ins : List Int) (hc : Rd dInt H p ins) (s : Step) (hl : ins.length ≤ 1048576) :
    PC Try.prog 47 [stepV s, sv p ins] H (.bool (formB ins s)) := by
  refine EC_fn ctx (fun _ => true) Try.func47 rfl rfl rfl ?_
  refine ⟨_, fun _ => lenOk_pc H _, fun h => pbool ?_, fun h1 => ⟨_, operands_pc H _, ?_, fun v K hR => by cases hR.1⟩⟩
  · rw [form_head (by rintro ⟨x, y, z⟩; simp [z] at h; omega)]
  rintro _ K ⟨hx, rfl⟩
  cases hx
  have hhd : (0 ≤ s.op ∧ s.op ≤ 13) ∧ 1 ≤ s.len ∧ s.len ≤ 1000 := by simp [okLen] at h1; omega
  have hok : okLen s.len = true := by simp [okLen]; omega
  have hr := opnd_range s.op
  have hfm : formB ins s = ((restB s 0 && restB s 1 && restB s 2) && (if s.op = 0 then decide (s.n = 0 ∧ 0 ≤ s.a ∧ s.a < ins.length ∧ (ins[s.a.toNat]?).getD 0 = s.len) else if s.op = 1 then decide (s.n = 0) else fitsB (stepVal s) s.n s.len s.len)) := by
    unfold formB
    rw [show decide (0 ≤ s.op ∧ s.op ≤ 13) = true by simp; omega, hok]
    simp
  rw [hfm]
  refine ⟨fun h0 => ?_, fun h0 => ⟨_, fun _ => hasPlace_pc K _, fun h => pbool ?_, fun h => ⟨_, fits_all K (stepVal s) s.n s.len s.len hok, ?_, fun v K hR => by cases hR.1⟩⟩⟩
  · have h0 : s.op = 0 := by simpa using h0
    have ho : opnd s.op = 0 := by rw [h0]; rfl
    rw [if_pos h0]
    rcases hc.sh with hp | ⟨b', o', hp⟩ <;> subst hp <;> refine ⟨.leaf [([0, 1, 2, 3, 4, 5, 6, 7, 8, 9, 10, 11, 12, 13, 14, 15, 16, 17, 18, 19, 20, 21, 22, 23, 24, 25, 26, 27, 28, 29, 30, 31, 32, 33, 34, 35], none)] [], by kernel_rfl, fun hx => ?_, .int .i64 ((ins[s.a.toNat]?).getD 0), fun hx => ?_, pbool ?_⟩
    · simp at hx
      obtain ⟨_, _, hq, _⟩ := hc.cell (List.getElem?_eq_getElem (show s.a.toNat < ins.length by omega))
      cases hq
    · simp at hx
      obtain ⟨_, _, hq, _⟩ := hc.cell (List.getElem?_eq_getElem (show s.a.toNat < ins.length by omega))
      cases hq
    · rw [Bool.eq_iff_iff]; simp [restB, h0, stepField, placeB, show opnd 0 = 0 from rfl]; omega
    · simp at hx; omega
    · simp at hx
      have hlt : s.a.toNat < ins.length := by omega
      obtain ⟨p', o', hq, hc'⟩ := hc.cell (List.getElem?_eq_getElem hlt)
      cases hq
      rw [List.getElem?_eq_getElem hlt]
      exact hc'
    · rw [Bool.eq_iff_iff]; simp [restB, h0, stepField, placeB, show opnd 0 = 0 from rfl]; omega
  · have h0 : ¬ s.op = 0 := by simpa using h0
    rw [if_neg h0]
    symm; rw [Bool.eq_false_iff]
    intro e
    by_cases h1' : s.op = 1
    · have ho : opnd s.op = 0 := by rw [h1']; rfl
      rw [if_pos h1'] at e
      simp [restB, ho, stepField, placeB, h1'] at e h
      omega
    · have ho : 1 ≤ opnd s.op := by unfold opnd; rw [if_neg (by omega)]; split; omega; split <;> omega
      rw [if_neg h1'] at e
      simp only [Bool.and_eq_true] at e
      have e1 := e.1.1.2
      have e2 := e.1.2
      simp [restB, stepField] at e1 e2 h
      cases hp : placeB s.op with
      | true => simp [hp] at h; omega
      | false => simp [hp] at h e2; omega
  · rintro _ K ⟨hx, rfl⟩
    cases hx
    have h0 : ¬ s.op = 0 := by simpa using h0
    rw [if_neg h0]
    refine pbool ?_
    have hh : headB (stepVal s) = true := by
      show (decide (1 ≤ s.op ∧ s.op ≤ 13) && okLen s.len) = true
      rw [hok]; simp; omega
    rw [hh, Bool.true_and]
    by_cases h1' : s.op = 1
    · have ho : opnd 1 = 0 := rfl
      rw [if_pos h1']
      have hf : fitsB (stepVal s) s.n s.len s.len = true := by
        unfold fitsB stepVal
        simp [h1', show eachB 1 = false from rfl]
      rw [hf, Bool.eq_iff_iff]
      simp [restB, ho, stepField, placeB, h1'] at h ⊢
      omega
    · have ho : 1 ≤ opnd s.op := by unfold opnd; rw [if_neg (by omega)]; split; omega; split <;> omega
      rw [if_neg h1']
      have hrest : (restB s 0 && restB s 1 && restB s 2) = true := by
        simp [restB, stepField] at h ⊢
        cases hp : placeB s.op with
        | true => simp [hp] at h ⊢; omega
        | false => simp [hp] at h ⊢; omega
      rw [hrest, Bool.true_and]
end Go.Proofs.Ythcnnificgbmhaa

set_option linter.unusedVariables false
namespace Go.Proofs.Ythcnnificgbmhaa
open Go.Am

def spanB (peak : Int) (steps : List Step) (n : Nat) (off size : Int) : Bool :=
  decide (1 ≤ size ∧ size ≤ 1000 ∧ 0 ≤ off ∧ off ≤ peak - size) && (List.range size.toNat).all fun i : Nat => wroteB steps n (off + i)
/-- A step whose form and place are right. -/
def okStep (s : Step) : Prop := 0 ≤ s.dst ∧ s.dst ≤ 50000 ∧ 1 ≤ s.len ∧ s.len ≤ 1000
theorem l5spanOK_pc (H : Heap) (p q r : Option Addr) (c : Code') (hc : RdC H p q r c) (n : Nat) (off size : Int) (hn : n ≤ c.steps.length) (hl : c.steps.length ≤ 1048576) (hb : ∀ s ∈ c.steps.take n, okStep s) (hp0 : 0 ≤ c.peak) (hp : c.peak ≤ 50000) :
    PC Try.prog 35 [cV p q r c, .int .i64 n, .int .i64 off, .int .i64 size] H (.bool (spanB c.peak c.steps n off size)) := by
  refine EC_fn ctx (fun _ => true) Try.func35 rfl rfl rfl ?_
  refine ⟨fun h => pbool ?_, fun h => ?_⟩
  · symm; rw [Bool.eq_false_iff]
    intro e
    simp only [spanB, Bool.and_eq_true, decide_eq_true_eq] at e
    have hw : IntKind.i64.wrap (c.peak - size) = c.peak - size := wrap_i64 (by omega) (by omega)
    rw [hw] at h
    simp at h
    omega
  have hs : 1 ≤ size ∧ size ≤ 1000 := by simp at h; omega
  have hw : IntKind.i64.wrap (c.peak - size) = c.peak - size := wrap_i64 (by omega) (by omega)
  rw [hw] at h
  have h : (1 ≤ size ∧ size ≤ 1000) ∧ 0 ≤ off ∧ off ≤ c.peak - size := by simp at h; omega
  refine loop_ind ctx (fun _ => true) (fun m E K => ∃ k : Nat, k ≤ size.toNat ∧ m = size.toNat - k ∧ E = ⟨[(1, .int .i64 n), (2, .int .i64 off), (3, .int .i64 size), (4, .pointer (some ⟨0, 0, some 0⟩)), (9, .int .i64 k)], [[sv p c.ins, sv q c.steps, sv r c.outs, .int .i64 c.peak]]⟩ ∧ K = H ∧ (List.range k).all (fun i : Nat => wroteB c.steps n (off + i)) = true)
    ⟨0, Nat.zero_le _, rfl, rfl, rfl, rfl⟩ (by (refine ⟨?_, ?_⟩ <;> repeat' first | exact trivial | exact congrArg (fun x => some (Value.int .i64 x)) (wrap_nat (by omega)) | exact sv_eq (by simp; done) | exact rfl | refine ⟨?_, ?_⟩ | fail)) ?_
  rintro m E K ⟨k, hk, rfl, rfl, rfl, ho⟩
  refine ⟨fun hlt => ?_, fun hge => ?_⟩
  · have hlt : k < size.toNat := by simp at hlt; omega
    have hw2 : IntKind.i64.wrap (off + k) = off + k := wrap_i64 (by omega) (by omega)
    have hcall := l5wrote_pc K p q r c hc n (off + k) hn hl hb
    rw [← hw2] at hcall
    refine ⟨_, hcall, ?_, fun v K hR => by cases hR.1⟩
    rintro _ K ⟨hx, rfl⟩
    cases hx
    rw [hw2]
    refine ⟨fun hf => pbool ?_, fun hf => ?_⟩
    · unfold spanB
      rw [range_all_false (f := fun i : Nat => wroteB c.steps n (off + i)) hlt (by simpa using hf)]; simp
    · exact ⟨size.toNat - (k + 1), ⟨[(1, .int .i64 n), (2, .int .i64 off), (3, .int .i64 size), (4, .pointer (some ⟨0, 0, some 0⟩)), (9, .int .i64 ((k + 1 : Nat) : Int))], [[sv p c.ins, sv q c.steps, sv r c.outs, .int .i64 c.peak]]⟩, by omega, by (refine ⟨?_, ?_⟩ <;> repeat' first | exact trivial | exact congrArg (fun x => some (Value.int .i64 x)) (wrap_nat (by omega)) | exact sv_eq (by simp; done) | exact rfl | refine ⟨?_, ?_⟩ | fail), k + 1, by omega, rfl, rfl, rfl, range_all_succ ho (by simpa using hf)⟩
  · have hk : k = size.toNat := by simp at hge; omega
    subst hk
    refine pbool ?_
    unfold spanB
    rw [ho]
    simp; omega
theorem within_pc (H : Heap) (s : Span) (peak : Int) (hp0 : 0 ≤ peak) (hp : peak ≤ 50000) (hs : s.len ≤ 9223372036854775807) :
    PC Try.prog 45 [spanV s, .int .i64 peak] H (.bool (decide (0 ≤ s.off ∧ 0 ≤ s.len ∧ s.off ≤ peak - s.len))) := by
  refine EC_fn ctx (fun _ => true) Try.func45 rfl rfl rfl ?_
  refine pbool ?_
  rw [Bool.eq_iff_iff]
  by_cases h : 0 ≤ s.len
  · rw [wrap_i64 (x := peak - s.len) (by omega) (by omega)]
    simp; omega
  · simp; omega
def meetsB (s t : Span) : Bool := decide (s.off < t.off + t.len ∧ t.off < s.off + s.len)
theorem meets_pc (H : Heap) (s t : Span) (h1 : 0 ≤ s.off ∧ s.off ≤ 100000 ∧ 0 ≤ s.len ∧ s.len ≤ 100000) (h2 : 0 ≤ t.off ∧ t.off ≤ 100000 ∧ 0 ≤ t.len ∧ t.len ≤ 100000) :
    PC Try.prog 49 [spanV s, spanV t] H (.bool (meetsB s t)) := by
  refine EC_fn ctx (fun _ => true) Try.func49 rfl rfl rfl ?_
  refine pbool ?_
  rw [Bool.eq_iff_iff, wrap_i64 (x := t.off + t.len) (by omega) (by omega), wrap_i64 (x := s.off + s.len) (by omega) (by omega)]
  simp [meetsB]
def readsL (s : Step) : List Span := ([⟨s.a, s.n⟩, ⟨s.b, s.len⟩, ⟨s.c, s.len⟩] : List Span).take (opnd s.op).toNat
theorem reads_ec (H : Heap) (s : Step) : EC Try.prog 48 [stepV s] H fun r H' => ∃ b, r = .ret (sv (some ⟨b, 0, none⟩) (readsL s)) ∧ Ext H H' ∧ Rd dSpan H' (some ⟨b, 0, none⟩) (readsL s) := by
  have hr := opnd_range s.op
  refine EC_fn ctx (fun _ => true) Try.func48 rfl rfl rfl ?_
  have hb : Rd dSpan (H.push (.cells (flat dSpan [⟨s.a, s.n⟩, ⟨s.b, s.len⟩, ⟨s.c, s.len⟩]) dSpan.sz true)) (some ⟨H.next, 0, none⟩) [⟨s.a, s.n⟩, ⟨s.b, s.len⟩, ⟨s.c, s.len⟩] := Rd.push _ _
  have hsub := hb.sub (l := 0) (n := (opnd s.op).toNat) (by simp; omega)
  refine ⟨.leaf [([0, 1, 2, 3, 4, 5, 6, 7, 8, 9, 10, 11, 12, 13, 14, 16, 17, 18], some 15), ([19, 20], none)] [16, 17, 18], by kernel_rfl, opnd s.op |> Value.int .i64, fun H' => operands_pc H' _, ⟨by omega, by omega, by omega, hb.ez (by simp)⟩, H.next, ?_, Ext.push _ _, hsub⟩
  have hl : (readsL s).length = (opnd s.op).toNat := by simp [readsL]; omega
  exact ret_sv hl
end Go.Proofs.Ythcnnificgbmhaa
