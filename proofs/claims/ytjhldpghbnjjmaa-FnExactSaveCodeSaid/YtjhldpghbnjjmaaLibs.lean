/- The library's searches in slices that the program calls. Conditions: the slice reads; the test only computes. -/
import Derived.Test.YtjhldpghbnjjmaaVers
set_option linter.unusedVariables false
set_option linter.unusedSimpArgs false
namespace Go.Proofs.Ytjhldpghbnjjmaa
open Go.Am

/-- The first place at which a test says yes, or -1. -/
def idxB {α : Type} (f : α → Bool) (xs : List α) : Int := match xs.findIdx? f with
  | some i => i
  | none => -1
theorem idxB_hit {α : Type} {f : α → Bool} {xs : List α} {k : Nat} (hk : k < xs.length) (h0 : (xs.take k).any f = false) (h : f xs[k] = true) : idxB f xs = k := by
  unfold idxB
  have : xs.findIdx? f = some k := by
    rw [List.findIdx?_eq_some_iff_getElem]
    refine ⟨hk, h, fun j hj => ?_⟩
    rw [List.any_eq_false] at h0
    exact h0 xs[j] (by rw [List.mem_take_iff_getElem]; exact ⟨j, by omega, rfl⟩)
  rw [this]
theorem idxB_none {α : Type} {f : α → Bool} {xs : List α} (h : xs.any f = false) : idxB f xs = -1 := by
  unfold idxB
  have : xs.findIdx? f = none := by
    rw [List.findIdx?_eq_none_iff]
    intro x hx
    rw [List.any_eq_false] at h
    simpa using h x hx
  rw [this]
theorem idxB_any {α : Type} (f : α → Bool) (xs : List α) : decide (idxB f xs ≥ 0) = xs.any f := by
  unfold idxB
  cases h : xs.findIdx? f with
  | none =>
    rw [List.findIdx?_eq_none_iff] at h
    have : xs.any f = false := by rw [List.any_eq_false]; intro x hx; simp [h x hx]
    rw [this]; rfl
  | some i =>
    rw [List.findIdx?_eq_some_iff_getElem] at h
    obtain ⟨h1, h2, _⟩ := h
    have : xs.any f = true := by rw [List.any_eq_true]; exact ⟨_, List.getElem_mem h1, h2⟩
    rw [this]; simp

theorem indexFuncInt_pc (H : Heap) (a : Option Addr) (xs : List Int) (h : Rd dInt H a xs) (hl : xs.length ≤ 1048576) (f : FuncId) (cap : List Value) (g : Int → Bool) (hf : ∀ x, PC Try.prog f (.int .i64 x :: cap) H (.bool (g x))) :
    PC Try.prog 110 [sv a xs, .func (.func f) #[] cap.toArray] H (.int .i64 (idxB g xs)) := by
  refine EC_fn ctx (fun _ => true) Try.func110 rfl rfl rfl ?_
  refine loop_ind ctx (fun _ => true) (fun m E K => ∃ k, k ≤ xs.length ∧ m = xs.length - k ∧ E = ⟨[(0, sv a xs), (1, .func (.func f) #[] cap.toArray), (7, .int .i64 xs.length), (8, .int .i64 k)], []⟩ ∧ K = H ∧ (xs.take k).any g = false)
    ⟨0, Nat.zero_le _, rfl, rfl, rfl, rfl⟩ (by (refine ⟨?_, ?_⟩ <;> repeat' first | exact trivial | exact congrArg (fun x => some (Value.int .i64 x)) (wrap_nat (by omega)) | exact sv_eq (by simp; done) | exact rfl | refine ⟨?_, ?_⟩ | fail)) ?_
  rintro m E K ⟨k, hk, rfl, rfl, rfl, ho⟩
  refine ⟨fun hlt => ?_, fun hge => ?_⟩
  · have hlt : k < xs.length := by simpa using hlt
    obtain ⟨b, o, rfl, hc⟩ := h.cell (List.getElem?_eq_getElem hlt)
    refine ⟨⟨by omega, by omega⟩, _, hc, _, hf xs[k], ?_, fun v K hR => by cases hR.1⟩
    rintro _ K ⟨hx, rfl⟩
    cases hx
    refine ⟨fun hg => pint ?_, fun hg => ?_⟩
    · rw [idxB_hit hlt ho hg]
    · exact ⟨xs.length - (k + 1), ⟨[(0, sv (some ⟨b, o, none⟩) xs), (1, .func (.func f) #[] cap.toArray), (7, .int .i64 xs.length), (8, .int .i64 ((k + 1 : Nat) : Int))], []⟩, by omega, by (refine ⟨?_, ?_⟩ <;> repeat' first | exact trivial | exact congrArg (fun x => some (Value.int .i64 x)) (wrap_nat (by omega)) | exact sv_eq (by simp; done) | exact rfl | refine ⟨?_, ?_⟩ | fail), k + 1, by omega, rfl, rfl, rfl, any_take_succ hlt ho hg⟩
  · have hk : k = xs.length := by simp at hge; omega
    subst hk
    rw [List.take_of_length_le (Nat.le_refl _)] at ho
    exact pint (by rw [idxB_none ho])

theorem indexFuncSpan_pc (H : Heap) (a : Option Addr) (xs : List Span) (h : Rd dSpan H a xs) (hl : xs.length ≤ 1048576) (f : FuncId) (cap : List Value) (g : Span → Bool) (hf : ∀ x ∈ xs, PC Try.prog f (spanV x :: cap) H (.bool (g x))) :
    PC Try.prog 115 [sv a xs, .func (.func f) #[] cap.toArray] H (.int .i64 (idxB g xs)) := by
  refine EC_fn ctx (fun _ => true) Try.func115 rfl rfl rfl ?_
  refine loop_ind ctx (fun _ => true) (fun m E K => ∃ k, k ≤ xs.length ∧ m = xs.length - k ∧ E = ⟨[(0, sv a xs), (1, .func (.func f) #[] cap.toArray), (7, .int .i64 xs.length), (8, .int .i64 k)], []⟩ ∧ K = H ∧ (xs.take k).any g = false)
    ⟨0, Nat.zero_le _, rfl, rfl, rfl, rfl⟩ (by (refine ⟨?_, ?_⟩ <;> repeat' first | exact trivial | exact congrArg (fun x => some (Value.int .i64 x)) (wrap_nat (by omega)) | exact sv_eq (by simp; done) | exact rfl | refine ⟨?_, ?_⟩ | fail)) ?_
  rintro m E K ⟨k, hk, rfl, rfl, rfl, ho⟩
  refine ⟨fun hlt => ?_, fun hge => ?_⟩
  · have hlt : k < xs.length := by simpa using hlt
    obtain ⟨b, o, rfl, hc⟩ := h.span (List.getElem?_eq_getElem hlt)
    refine ⟨⟨by omega, by omega⟩, spanV xs[k], hc, _, hf xs[k] (List.getElem_mem hlt), ?_, fun v K hR => by cases hR.1⟩
    rintro _ K ⟨hx, rfl⟩
    cases hx
    refine ⟨fun hg => pint ?_, fun hg => ?_⟩
    · rw [idxB_hit hlt ho hg]
    · exact ⟨xs.length - (k + 1), ⟨[(0, sv (some ⟨b, o, none⟩) xs), (1, .func (.func f) #[] cap.toArray), (7, .int .i64 xs.length), (8, .int .i64 ((k + 1 : Nat) : Int))], []⟩, by omega, by (refine ⟨?_, ?_⟩ <;> repeat' first | exact trivial | exact congrArg (fun x => some (Value.int .i64 x)) (wrap_nat (by omega)) | exact sv_eq (by simp; done) | exact rfl | refine ⟨?_, ?_⟩ | fail), k + 1, by omega, rfl, rfl, rfl, any_take_succ hlt ho hg⟩
  · have hk : k = xs.length := by simp at hge; omega
    subst hk
    rw [List.take_of_length_le (Nat.le_refl _)] at ho
    exact pint (by rw [idxB_none ho])
theorem indexBool_pc (H : Heap) (a : Option Addr) (xs : List Bool) (h : Rd dBool H a xs) (hl : xs.length ≤ 1048576) (w : Bool) :
    PC Try.prog 111 [sv a xs, .bool w] H (.int .i64 (idxB (fun x => w == x) xs)) := by
  refine EC_fn ctx (fun _ => true) Try.func111 rfl rfl rfl ?_
  refine loop_ind ctx (fun _ => true) (fun m E K => ∃ k, k ≤ xs.length ∧ m = xs.length - k ∧ E = ⟨[(0, sv a xs), (1, .bool w), (7, .int .i64 xs.length), (8, .int .i64 k)], []⟩ ∧ K = H ∧ (xs.take k).any (fun x => w == x) = false)
    ⟨0, Nat.zero_le _, rfl, rfl, rfl, rfl⟩ (by (refine ⟨?_, ?_⟩ <;> repeat' first | exact trivial | exact congrArg (fun x => some (Value.int .i64 x)) (wrap_nat (by omega)) | exact sv_eq (by simp; done) | exact rfl | refine ⟨?_, ?_⟩ | fail)) ?_
  rintro m E K ⟨k, hk, rfl, rfl, rfl, ho⟩
  refine ⟨fun hlt => ?_, fun hge => ?_⟩
  · have hlt : k < xs.length := by simpa using hlt
    obtain ⟨b, o, rfl, hc⟩ := h.cell (List.getElem?_eq_getElem hlt)
    refine ⟨⟨by omega, by omega⟩, _, hc, fun hg => pint ?_, fun hg => ?_⟩
    · rw [idxB_hit (f := fun x => w == x) hlt ho hg]
    · exact ⟨xs.length - (k + 1), ⟨[(0, sv (some ⟨b, o, none⟩) xs), (1, .bool w), (7, .int .i64 xs.length), (8, .int .i64 ((k + 1 : Nat) : Int))], []⟩, by omega, by (refine ⟨?_, ?_⟩ <;> repeat' first | exact trivial | exact congrArg (fun x => some (Value.int .i64 x)) (wrap_nat (by omega)) | exact sv_eq (by simp; done) | exact rfl | refine ⟨?_, ?_⟩ | fail), k + 1, by omega, rfl, rfl, rfl, any_take_succ (f := fun x => w == x) hlt ho hg⟩
  · have hk : k = xs.length := by simp at hge; omega
    subst hk
    rw [List.take_of_length_le (Nat.le_refl _)] at ho
    exact pint (by rw [idxB_none ho])
theorem containsBool_pc (H : Heap) (a : Option Addr) (xs : List Bool) (h : Rd dBool H a xs) (hl : xs.length ≤ 1048576) (w : Bool) :
    PC Try.prog 57 [sv a xs, .bool w] H (.bool (xs.any fun x => w == x)) := by
  refine EC_fn ctx (fun _ => true) Try.func57 rfl rfl rfl ?_
  refine ⟨_, indexBool_pc H a xs h hl w, ?_, fun v K hR => by cases hR.1⟩
  rintro _ K ⟨hx, rfl⟩
  cases hx
  exact pbool (idxB_any _ _)
theorem containsFuncInt_pc (H : Heap) (a : Option Addr) (xs : List Int) (h : Rd dInt H a xs) (hl : xs.length ≤ 1048576) (f : FuncId) (cap : List Value) (g : Int → Bool) (hf : ∀ x, PC Try.prog f (.int .i64 x :: cap) H (.bool (g x))) :
    PC Try.prog 52 [sv a xs, .func (.func f) #[] cap.toArray] H (.bool (xs.any g)) := by
  refine EC_fn ctx (fun _ => true) Try.func52 rfl rfl rfl ?_
  refine ⟨_, indexFuncInt_pc H a xs h hl f cap g hf, ?_, fun v K hR => by cases hR.1⟩
  rintro _ K ⟨hx, rfl⟩
  cases hx
  exact pbool (idxB_any _ _)
theorem containsFuncSpan_pc (H : Heap) (a : Option Addr) (xs : List Span) (h : Rd dSpan H a xs) (hl : xs.length ≤ 1048576) (f : FuncId) (cap : List Value) (g : Span → Bool) (hf : ∀ x ∈ xs, PC Try.prog f (spanV x :: cap) H (.bool (g x))) :
    PC Try.prog 61 [sv a xs, .func (.func f) #[] cap.toArray] H (.bool (xs.any g)) := by
  refine EC_fn ctx (fun _ => true) Try.func61 rfl rfl rfl ?_
  refine ⟨_, indexFuncSpan_pc H a xs h hl f cap g hf, ?_, fun v K hR => by cases hR.1⟩
  rintro _ K ⟨hx, rfl⟩
  cases hx
  exact pbool (idxB_any _ _)
end Go.Proofs.Ytjhldpghbnjjmaa
