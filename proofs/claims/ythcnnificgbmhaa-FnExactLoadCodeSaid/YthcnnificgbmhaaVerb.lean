/- The library's searches in slices that the program calls. Conditions: the slice reads; the test only computes. Verify, the reference's side. Conditions: the code's slices read. -/
import Derived.Test.YthcnnificgbmhaaVers
set_option linter.unusedVariables false
set_option linter.unusedSimpArgs false
namespace Go.Proofs.Ythcnnificgbmhaa
open Go.Am

/-- The first place at which a test says yes, or -1. -/
def idxB {α : Type} (f : α → Bool) (xs : List α) : Int := match xs.findIdx? f with
  | some i => i
  | none => -1
theorem idxB_hit {α : Type} {f : α → Bool} {xs : List α} {k : Nat} (hk : k < xs.length) (h0 : (xs.take k).any f = false) (h : f xs[k] = true) : idxB f xs = k := by
  unfold idxB
  have : xs.findIdx? f = some k := by
    rw [List.findIdx?_eq_some_iff_getElem]
    refine ⟨hk, h, fun j hj => ?_⟩
    rw [List.any_eq_false] at h0
    exact h0 xs[j] (by rw [List.mem_take_iff_getElem]; exact ⟨j, by omega, rfl⟩)
  rw [this]
theorem idxB_none {α : Type} {f : α → Bool} {xs : List α} (h : xs.any f = false) : idxB f xs = -1 := by
  unfold idxB
  have : xs.findIdx? f = none := by
    rw [List.findIdx?_eq_none_iff]
    intro x hx
    rw [List.any_eq_false] at h
    simpa using h x hx
  rw [this]
theorem idxB_any {α : Type} (f : α → Bool) (xs : List α) : decide (idxB f xs ≥ 0) = xs.any f := by
  unfold idxB
  cases h : xs.findIdx? f with
  | none =>
    rw [List.findIdx?_eq_none_iff] at h
    have : xs.any f = false := by rw [List.any_eq_false]; intro x hx; simp [h x hx]
    rw [this]; rfl
  | some i =>
    rw [List.findIdx?_eq_some_iff_getElem] at h
    obtain ⟨h1, h2, _⟩ := h
    have : xs.any f = true := by rw [List.any_eq_true]; exact ⟨_, List.getElem_mem h1, h2⟩
    rw [this]; simp

theorem indexFuncInt_pc (H : Heap) (a : Option Addr) (xs : List Int) (h : Rd dInt H a xs) (hl : xs.length ≤ 1048576) (f : FuncId) (cap : List Value) (g : Int → Bool) (hf : ∀ x, PC Try.prog f (.int .i64 x :: cap) H (.bool (g x))) :
    PC Try.prog 60 [sv a xs, .func (.func f) #[] cap.toArray] H (.int .i64 (idxB g xs)) := by
  refine EC_fn ctx (fun _ => true) Try.func60 rfl rfl rfl ?_
  refine loop_ind ctx (fun _ => true) (fun m E K => ∃ k, k ≤ xs.length ∧ m = xs.length - k ∧ E = ⟨[(0, sv a xs), (1, .func (.func f) #[] cap.toArray), (7, .int .i64 xs.length), (8, .int .i64 k)], []⟩ ∧ K = H ∧ (xs.take k).any g = false)
    ⟨0, Nat.zero_le _, rfl, rfl, rfl, rfl⟩ (by (refine ⟨?_, ?_⟩ <;> repeat' first | exact trivial | exact congrArg (fun x => some (Value.int .i64 x)) (wrap_nat (by omega)) | exact sv_eq (by simp; done) | exact rfl | refine ⟨?_, ?_⟩ | fail)) ?_
  rintro m E K ⟨k, hk, rfl, rfl, rfl, ho⟩
  refine ⟨fun hlt => ?_, fun hge => ?_⟩
  · have hlt : k < xs.length := by simpa using hlt
    obtain ⟨b, o, rfl, hc⟩ := h.cell (List.getElem?_eq_getElem hlt)
    refine ⟨⟨by omega, by omega⟩, _, hc, _, hf xs[k], ?_, fun v K hR => by cases hR.1⟩
    rintro _ K ⟨hx, rfl⟩
    cases hx
    refine ⟨fun hg => pint ?_, fun hg => ?_⟩
    · rw [idxB_hit hlt ho hg]
    · exact ⟨xs.length - (k + 1), ⟨[(0, sv (some ⟨b, o, none⟩) xs), (1, .func (.func f) #[] cap.toArray), (7, .int .i64 xs.length), (8, .int .i64 ((k + 1 : Nat) : Int))], []⟩, by omega, by (refine ⟨?_, ?_⟩ <;> repeat' first | exact trivial | exact congrArg (fun x => some (Value.int .i64 x)) (wrap_nat (by omega)) | exact sv_eq (by simp; done) | exact rfl | refine ⟨?_, ?_⟩ | fail), k + 1, by omega, rfl, rfl, rfl, any_take_succ hlt ho hg⟩
  · have hk : k = xs.length := by simp at hge; omega
    subst hk
    rw [List.take_of_length_le (Nat.le_refl _)] at ho
    exact pint (by rw [idxB_none ho])

theorem indexFuncSpan_pc (H : Heap) (a : Option Addr) (xs : List Span) (h : Rd dSpan H a xs) (hl : xs.length ≤ 1048576) (f : FuncId) (cap : List Value) (g : Span → Bool) (hf : ∀ x ∈ xs, PC Try.prog f (spanV x :: cap) H (.bool (g x))) :
    PC Try.prog 65 [sv a xs, .func (.func f) #[] cap.toArray] H (.int .i64 (idxB g xs)) := by
  refine EC_fn ctx (fun _ => true) Try.func65 rfl rfl rfl ?_
  refine loop_ind ctx (fun _ => true) (fun m E K => ∃ k, k ≤ xs.length ∧ m = xs.length - k ∧ E = ⟨[(0, sv a xs), (1, .func (.func f) #[] cap.toArray), (7, .int .i64 xs.length), (8, .int .i64 k)], []⟩ ∧ K = H ∧ (xs.take k).any g = false)
    ⟨0, Nat.zero_le _, rfl, rfl, rfl, rfl⟩ (by (refine ⟨?_, ?_⟩ <;> repeat' first | exact trivial | exact congrArg (fun x => some (Value.int .i64 x)) (wrap_nat (by omega)) | exact sv_eq (by simp; done) | exact rfl | refine ⟨?_, ?_⟩ | fail)) ?_
  rintro m E K ⟨k, hk, rfl, rfl, rfl, ho⟩
  refine ⟨fun hlt => ?_, fun hge => ?_⟩
  · have hlt : k < xs.length := by simpa using hlt
    obtain ⟨b, o, rfl, hc⟩ := h.span (List.getElem?_eq_getElem hlt)
    refine ⟨⟨by omega, by omega⟩, spanV xs[k], hc, _, hf xs[k] (List.getElem_mem hlt), ?_, fun v K hR => by cases hR.1⟩
    rintro _ K ⟨hx, rfl⟩
    cases hx
    refine ⟨fun hg => pint ?_, fun hg => ?_⟩
    · rw [idxB_hit hlt ho hg]
    · exact ⟨xs.length - (k + 1), ⟨[(0, sv (some ⟨b, o, none⟩) xs), (1, .func (.func f) #[] cap.toArray), (7, .int .i64 xs.length), (8, .int .i64 ((k + 1 : Nat) : Int))], []⟩, by omega, by (refine ⟨?_, ?_⟩ <;> repeat' first | exact trivial | exact congrArg (fun x => some (Value.int .i64 x)) (wrap_nat (by omega)) | exact sv_eq (by simp; done) | exact rfl | refine ⟨?_, ?_⟩ | fail), k + 1, by omega, rfl, rfl, rfl, any_take_succ hlt ho hg⟩
  · have hk : k = xs.length := by simp at hge; omega
    subst hk
    rw [List.take_of_length_le (Nat.le_refl _)] at ho
    exact pint (by rw [idxB_none ho])
theorem indexBool_pc (H : Heap) (a : Option Addr) (xs : List Bool) (h : Rd dBool H a xs) (hl : xs.length ≤ 1048576) (w : Bool) :
    PC Try.prog 61 [sv a xs, .bool w] H (.int .i64 (idxB (fun x => w == x) xs)) := by
  refine EC_fn ctx (fun _ => true) Try.func61 rfl rfl rfl ?_
  refine loop_ind ctx (fun _ => true) (fun m E K => ∃ k, k ≤ xs.length ∧ m = xs.length - k ∧ E = ⟨[(0, sv a xs), (1, .bool w), (7, .int .i64 xs.length), (8, .int .i64 k)], []⟩ ∧ K = H ∧ (xs.take k).any (fun x => w == x) = false)
    ⟨0, Nat.zero_le _, rfl, rfl, rfl, rfl⟩ (by (refine ⟨?_, ?_⟩ <;> repeat' first | exact trivial | exact congrArg (fun x => some (Value.int .i64 x)) (wrap_nat (by omega)) | exact sv_eq (by simp; done) | exact rfl | refine ⟨?_, ?_⟩ | fail)) ?_
  rintro m E K ⟨k, hk, rfl, rfl, rfl, ho⟩
  refine ⟨fun hlt => ?_, fun hge => ?_⟩
  · have hlt : k < xs.length := by simpa using hlt
    obtain ⟨b, o, rfl, hc⟩ := h.cell (List.getElem?_eq_getElem hlt)
    refine ⟨⟨by omega, by omega⟩, _, hc, fun hg => pint ?_, fun hg => ?_⟩
    · rw [idxB_hit (f := fun x => w == x) hlt ho hg]
    · exact ⟨xs.length - (k + 1), ⟨[(0, sv (some ⟨b, o, none⟩) xs), (1, .bool w), (7, .int .i64 xs.length), (8, .int .i64 ((k + 1 : Nat) : Int))], []⟩, by omega, by (refine ⟨?_, ?_⟩ <;> repeat' first | exact trivial | exact congrArg (fun x => some (Value.int .i64 x)) (wrap_nat (by omega)) | exact sv_eq (by simp; done) | exact rfl | refine ⟨?_, ?_⟩ | fail), k + 1, by omega, rfl, rfl, rfl, any_take_succ (f := fun x => w == x) hlt ho hg⟩
  · have hk : k = xs.length := by simp at hge; omega
    subst hk
    rw [List.take_of_length_le (Nat.le_refl _)] at ho
    exact pint (by rw [idxB_none ho])
theorem containsBool_pc (H : Heap) (a : Option Addr) (xs : List Bool) (h : Rd dBool H a xs) (hl : xs.length ≤ 1048576) (w : Bool) :
    PC Try.prog 46 [sv a xs, .bool w] H (.bool (xs.any fun x => w == x)) := by
  refine EC_fn ctx (fun _ => true) Try.func46 rfl rfl rfl ?_
  refine ⟨_, indexBool_pc H a xs h hl w, ?_, fun v K hR => by cases hR.1⟩
  rintro _ K ⟨hx, rfl⟩
  cases hx
  exact pbool (idxB_any _ _)
theorem containsFuncInt_pc (H : Heap) (a : Option Addr) (xs : List Int) (h : Rd dInt H a xs) (hl : xs.length ≤ 1048576) (f : FuncId) (cap : List Value) (g : Int → Bool) (hf : ∀ x, PC Try.prog f (.int .i64 x :: cap) H (.bool (g x))) :
    PC Try.prog 41 [sv a xs, .func (.func f) #[] cap.toArray] H (.bool (xs.any g)) := by
  refine EC_fn ctx (fun _ => true) Try.func41 rfl rfl rfl ?_
  refine ⟨_, indexFuncInt_pc H a xs h hl f cap g hf, ?_, fun v K hR => by cases hR.1⟩
  rintro _ K ⟨hx, rfl⟩
  cases hx
  exact pbool (idxB_any _ _)
theorem containsFuncSpan_pc (H : Heap) (a : Option Addr) (xs : List Span) (h : Rd dSpan H a xs) (hl : xs.length ≤ 1048576) (f : FuncId) (cap : List Value) (g : Span → Bool) (hf : ∀ x ∈ xs, PC Try.prog f (spanV x :: cap) H (.bool (g x))) :
    PC Try.prog 50 [sv a xs, .func (.func f) #[] cap.toArray] H (.bool (xs.any g)) := by
  refine EC_fn ctx (fun _ => true) Try.func50 rfl rfl rfl ?_
  refine ⟨_, indexFuncSpan_pc H a xs h hl f cap g hf, ?_, fun v K hR => by cases hR.1⟩
  rintro _ K ⟨hx, rfl⟩
  cases hx
  exact pbool (idxB_any _ _)
end Go.Proofs.Ythcnnificgbmhaa

set_option linter.unusedVariables false
namespace Go.Proofs.Ythcnnificgbmhaa
open Go.Am

/-- A step's k-th operand. -/
def opB (peak : Int) (steps : List Step) (i : Nat) (s : Step) (k : Int) : Bool :=
  spanB peak steps i (stepField s k) (stepLen s k) && !decide (stepField s k < s.dst + s.len ∧ s.dst < stepField s k + stepLen s k)
def stepB (c : Code') (i : Nat) (s : Step) : Bool :=
  formB c.ins s && decide (0 ≤ s.dst ∧ s.dst ≤ c.peak - s.len) && (List.range (opnd s.op).toNat).all fun k : Nat => opB c.peak c.steps i s k
def stepAt (c : Code') (i : Nat) : Bool := match c.steps[i]? with
  | some s => stepB c i s
  | none => true
def verB (c : Code') : Bool :=
  decide (c.ins.length ≤ 20) && c.ins.all okLen && decide (c.steps.length ≤ 2000) && decide (c.outs.length ≤ 50) && decide (0 ≤ c.peak ∧ c.peak ≤ 50000) && (List.range c.steps.length).all (stepAt c) && c.outs.all fun o => spanB c.peak c.steps c.steps.length o.off o.len

theorem stepAt_get {c : Code'} {i : Nat} {s : Step} (h : c.steps[i]? = some s) : stepAt c i = stepB c i s := by unfold stepAt; rw [h]
theorem stepB_ok {c : Code'} {i : Nat} {s : Step} (hp : c.peak ≤ 50000) (h : stepB c i s = true) : okStep s := by
  simp only [stepB, formB, okLen, Bool.and_eq_true, decide_eq_true_eq] at h
  obtain ⟨⟨⟨⟨⟨_, h1⟩, _⟩, _⟩, h2⟩, _⟩ := h
  exact ⟨by omega, by omega, by omega, by omega⟩
theorem ok_take {c : Code'} {k : Nat} (hp : c.peak ≤ 50000) (hk : k ≤ c.steps.length) (h : (List.range k).all (stepAt c) = true) : ∀ s ∈ c.steps.take k, okStep s := fun s hs => by
  obtain ⟨j, hj, rfl⟩ := List.mem_take_iff_getElem.1 hs
  rw [List.all_eq_true] at h
  have := h j (List.mem_range.2 (by omega))
  rw [stepAt_get (List.getElem?_eq_getElem (by omega))] at this
  exact stepB_ok hp this
abbrev vE0 (p q r : Option Addr) (c : Code') : List Value := [sv p c.ins, sv q c.steps, sv r c.outs, .int .i64 c.peak]
theorem specVerify_pc (H : Heap) (p q r : Option Addr) (c : Code') (hc : RdC H p q r c) (hl1 : c.ins.length ≤ 1048576) (hl2 : c.steps.length ≤ 1048576) (hl3 : c.outs.length ≤ 1048576) :
    PC Try.prog 13 [cV p q r c] H (.bool (verB c)) := by
  refine EC_fn ctx (fun _ => true) Try.func13 rfl rfl rfl ?_
  refine ⟨_, l1insOK_pc H p c.ins hc.ins hl1, ?_, fun v K hR => by cases hR.1⟩
  rintro _ K ⟨hx, rfl⟩
  cases hx
  refine ⟨fun h => pbool ?_, fun h1 => ⟨fun h => pbool ?_, fun h2 => ?_⟩⟩
  · symm; rw [Bool.eq_false_iff]
    intro hv
    simp only [verB, Bool.and_eq_true, decide_eq_true_eq] at hv
    obtain ⟨⟨⟨⟨⟨⟨v1, v2⟩, v3⟩, v4⟩, v5⟩, _⟩, _⟩ := hv
    rw [v2] at h
    simp at h
    omega
  · symm; rw [Bool.eq_false_iff]
    intro hv
    simp only [verB, Bool.and_eq_true, decide_eq_true_eq] at hv
    obtain ⟨⟨⟨⟨⟨⟨v1, v2⟩, v3⟩, v4⟩, v5⟩, _⟩, _⟩ := hv
    simp at h
    omega
  have hpk : 0 ≤ c.peak ∧ c.peak ≤ 50000 := by simp at h2; omega
  have hh : c.ins.length ≤ 20 ∧ c.ins.all okLen = true ∧ c.steps.length ≤ 2000 ∧ c.outs.length ≤ 50 := by
    cases hq : c.ins.all okLen with
    | false => rw [hq] at h1; simp at h1
    | true => rw [hq] at h1; simp at h1; simp; omega
  obtain ⟨g1, g2, g3, g4⟩ := hh
  refine loop_ind ctx (fun _ => true) (fun m E K' => ∃ k, k ≤ c.steps.length ∧ m = c.steps.length - k ∧ E = ⟨[(1, .pointer (some ⟨0, 0, some 0⟩)), (3, .int .i64 k)], [vE0 p q r c]⟩ ∧ K' = K ∧ (List.range k).all (stepAt c) = true)
    ⟨0, Nat.zero_le _, rfl, rfl, rfl, rfl⟩ (by (refine ⟨?_, ?_⟩ <;> repeat' first | exact trivial | exact congrArg (fun x => some (Value.int .i64 x)) (wrap_nat (by omega)) | exact sv_eq (by simp; done) | exact rfl | refine ⟨?_, ?_⟩ | fail)) ?_
  rintro m E K' ⟨k, hk, rfl, rfl, rfl, hok⟩
  refine ⟨fun hlt => ?_, fun hge => ?_⟩
  · have hlt : k < c.steps.length := by simpa using hlt
    have hx := List.getElem?_eq_getElem hlt
    have hot := ok_take hpk.2 hk hok
    obtain ⟨b, o, rfl, hcs⟩ := hc.steps.step hx
    generalize c.steps[k] = s at hx hcs
    have hfalse : stepB c k s = false → verB c = false := fun h => by
      unfold verB
      rw [range_all_false (f := stepAt c) hlt (by rw [stepAt_get hx]; exact h)]; simp
    refine ⟨⟨by omega, by omega⟩, stepV s, hcs, _, l5form_pc K' p _ r c hc s hl1, ?_, fun v K hR => by cases hR.1⟩
    rintro _ K' ⟨hx', rfl⟩
    cases hx'
    refine ⟨fun hf => pbool ?_, fun hf => ?_⟩
    · rw [hfalse ?_]
      rw [Bool.eq_false_iff]
      intro e
      have hs := stepB_ok hpk.2 e
      simp only [stepB, Bool.and_eq_true, decide_eq_true_eq] at e
      obtain ⟨⟨e1, e2⟩, _⟩ := e
      have hw : IntKind.i64.wrap (c.peak - s.len) = c.peak - s.len := wrap_i64 (by have := hs.2.2; omega) (by have := hs.2.2; omega)
      rw [e1, hw] at hf
      simp at hf
      omega
    have hform : formB c.ins s = true := by
      cases hq : formB c.ins s with
      | true => rfl
      | false => rw [hq] at hf; simp at hf
    have hlen : 1 ≤ s.len ∧ s.len ≤ 1000 := by simp only [formB, okLen, Bool.and_eq_true, decide_eq_true_eq] at hform; omega
    have hw : IntKind.i64.wrap (c.peak - s.len) = c.peak - s.len := wrap_i64 (by omega) (by omega)
    rw [hform, hw] at hf
    have hdst : 0 ≤ s.dst ∧ s.dst ≤ c.peak - s.len := by simp at hf; omega
    have hro := opnd_range s.op
    refine loop_ind ctx (fun _ => true) (fun m E K'' => ∃ j : Nat, j ≤ (opnd s.op).toNat ∧ m = (opnd s.op).toNat - j ∧ E = ⟨[(1, .pointer (some ⟨0, 0, some 0⟩)), (3, .int .i64 k), (4, .pointer (some ⟨1, 0, some 0⟩)), (5, .int .i64 j)], [vE0 p (some ⟨b, o, none⟩) r c, stepcells s]⟩ ∧ K'' = K' ∧ (List.range j).all (fun j : Nat => opB c.peak c.steps k s j) = true)
      ⟨0, Nat.zero_le _, rfl, rfl, rfl, rfl⟩ (by (refine ⟨?_, ?_⟩ <;> repeat' first | exact trivial | exact congrArg (fun x => some (Value.int .i64 x)) (wrap_nat (by omega)) | exact sv_eq (by simp; done) | exact rfl | refine ⟨?_, ?_⟩ | fail)) ?_
    rintro m E K'' ⟨j, hj, rfl, rfl, rfl, hoj⟩
    refine ⟨_, l1operands_pc K'' _, ?_, fun v K hR => by cases hR.1⟩
    rintro _ K'' ⟨hx', rfl⟩
    cases hx'
    refine ⟨fun hjl => ?_, fun hjg => ?_⟩
    · have hjl : j < (opnd s.op).toNat := by simp at hjl; omega
      refine ⟨_, l5stepField_pc K'' s j, ?_, fun v K hR => by cases hR.1⟩
      rintro _ K'' ⟨hx', rfl⟩
      cases hx'
      refine ⟨_, l5operandLen_pc K'' s j, ?_, fun v K hR => by cases hR.1⟩
      rintro _ K'' ⟨hx', rfl⟩
      cases hx'
      refine ⟨_, l5spanOK_pc K'' p _ r c hc k (stepField s j) (stepLen s j) (by omega) hl2 hot hpk.1 hpk.2, ?_, fun v K hR => by cases hR.1⟩
      rintro _ K'' ⟨hx', rfl⟩
      cases hx'
      have hbad : opB c.peak c.steps k s j = false → verB c = false := fun h => hfalse (by
        unfold stepB
        rw [range_all_false (f := fun j : Nat => opB c.peak c.steps k s j) hjl h]; simp)
      refine ⟨fun hf => pbool ?_, fun hf => ?_⟩
      · rw [hbad (by unfold opB; rw [show spanB c.peak c.steps k (stepField s j) (stepLen s j) = false by simpa using hf]; rfl)]
      have hsp : spanB c.peak c.steps k (stepField s j) (stepLen s j) = true := by simpa using hf
      have hsp' : 1 ≤ stepLen s j ∧ stepLen s j ≤ 1000 ∧ 0 ≤ stepField s j ∧ stepField s j ≤ c.peak - stepLen s j := by simp only [spanB, Bool.and_eq_true, decide_eq_true_eq] at hsp; exact hsp.1
      have hw1 : IntKind.i64.wrap (s.dst + s.len) = s.dst + s.len := wrap_i64 (by omega) (by omega)
      have hw2 : IntKind.i64.wrap (stepField s j + stepLen s j) = stepField s j + stepLen s j := wrap_i64 (by omega) (by omega)
      refine ⟨fun hm => pbool ?_, fun hm => ?_⟩
      · rw [hw1, hw2] at hm
        rw [hbad (by unfold opB; rw [hsp]; simp at hm ⊢; omega)]
      · rw [hw1, hw2] at hm
        exact ⟨(opnd s.op).toNat - (j + 1), ⟨[(1, .pointer (some ⟨0, 0, some 0⟩)), (3, .int .i64 k), (4, .pointer (some ⟨1, 0, some 0⟩)), (5, .int .i64 ((j + 1 : Nat) : Int))], [vE0 p (some ⟨b, o, none⟩) r c, stepcells s]⟩, by omega, by (refine ⟨?_, ?_⟩ <;> repeat' first | exact trivial | exact congrArg (fun x => some (Value.int .i64 x)) (wrap_nat (by omega)) | exact sv_eq (by simp; done) | exact rfl | refine ⟨?_, ?_⟩ | fail), j + 1, by omega, rfl, rfl, rfl, range_all_succ hoj (by unfold opB; rw [hsp]; simp at hm ⊢; omega)⟩
    · have hje : j = (opnd s.op).toNat := by simp at hjg; omega
      subst hje
      exact ⟨c.steps.length - (k + 1), ⟨[(1, .pointer (some ⟨0, 0, some 0⟩)), (3, .int .i64 ((k + 1 : Nat) : Int))], [vE0 p (some ⟨b, o, none⟩) r c]⟩, by omega, by (refine ⟨?_, ?_⟩ <;> repeat' first | exact trivial | exact congrArg (fun x => some (Value.int .i64 x)) (wrap_nat (by omega)) | exact sv_eq (by simp; done) | exact rfl | refine ⟨?_, ?_⟩ | fail), k + 1, by omega, rfl, rfl, rfl, range_all_succ hok (by rw [stepAt_get hx]; unfold stepB; rw [hform, hoj]; simp; omega)⟩
  have hkk : k = c.steps.length := by simp at hge; omega
  subst hkk
  have hot := ok_take hpk.2 (Nat.le_refl _) hok
  refine loop_ind ctx (fun _ => true) (fun m E K => ∃ k, k ≤ c.outs.length ∧ m = c.outs.length - k ∧ E = ⟨[(1, .pointer (some ⟨0, 0, some 0⟩)), (8, .int .i64 k)], [vE0 p q r c]⟩ ∧ K = K' ∧ (c.outs.take k).all (fun o => spanB c.peak c.steps c.steps.length o.off o.len) = true)
    ⟨0, Nat.zero_le _, rfl, rfl, rfl, rfl⟩ (by (refine ⟨?_, ?_⟩ <;> repeat' first | exact trivial | exact congrArg (fun x => some (Value.int .i64 x)) (wrap_nat (by omega)) | exact sv_eq (by simp; done) | exact rfl | refine ⟨?_, ?_⟩ | fail)) ?_
  rintro m E K ⟨k, hk, rfl, rfl, rfl, hoo⟩
  refine ⟨fun hlt => ?_, fun hge => ?_⟩
  · have hlt : k < c.outs.length := by simpa using hlt
    obtain ⟨b, o, rfl, f0, f1⟩ := hc.outs.spanF (List.getElem?_eq_getElem hlt)
    refine ⟨.leaf [([0, 1, 2, 3, 4, 5, 6, 7, 8, 9, 10, 11, 12, 13, 14, 15, 16, 17], none)] [], by kernel_rfl, ⟨by omega, by omega⟩, _, f0, ⟨by omega, by omega⟩, _, f1, _, l5spanOK_pc K p q _ c hc c.steps.length _ _ (Nat.le_refl _) hl2 hot hpk.1 hpk.2, fun hf => pbool ?_, fun hf => ?_⟩
    · unfold verB
      rw [all_get_false (f := fun o => spanB c.peak c.steps c.steps.length o.off o.len) hlt (by simpa using hf)]; simp
    · exact ⟨c.outs.length - (k + 1), ⟨[(1, .pointer (some ⟨0, 0, some 0⟩)), (8, .int .i64 ((k + 1 : Nat) : Int))], [vE0 p q (some ⟨b, o, none⟩) c]⟩, by omega, by (refine ⟨?_, ?_⟩ <;> repeat' first | exact trivial | exact congrArg (fun x => some (Value.int .i64 x)) (wrap_nat (by omega)) | exact sv_eq (by simp; done) | exact rfl | refine ⟨?_, ?_⟩ | fail), k + 1, by omega, rfl, rfl, rfl, all_take_succ hlt hoo (by simpa using hf)⟩
  · have hkk : k = c.outs.length := by simp at hge; omega
    subst hkk
    rw [List.take_of_length_le (Nat.le_refl _)] at hoo
    refine pbool ?_
    unfold verB
    rw [hok, hoo, g2]
    simp; omega
end Go.Proofs.Ythcnnificgbmhaa
