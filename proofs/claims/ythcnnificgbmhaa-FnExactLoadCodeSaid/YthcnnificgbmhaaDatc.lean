/- Structs of numbers: how they lie in cells, and the laws' helpers over them. Written by wip/am/gendat.py. Conditions: lists of at most 2^20 elements where one is made. -/
import Derived.Test.YthcnnificgbmhaaDat
set_option linter.unusedVariables false
set_option linter.unusedSimpArgs false
namespace Go.Proofs.Ythcnnificgbmhaa
open Go.Am

structure Step where
  op : Int
  len : Int
  n : Int
  dst : Int
  a : Int
  b : Int
  c : Int
  k : Nat
  deriving DecidableEq, Inhabited
abbrev stepcells (v : Step) : List Value := [.int .i64 v.op, .int .i64 v.len, .int .i64 v.n, .int .i64 v.dst, .int .i64 v.a, .int .i64 v.b, .int .i64 v.c, .float .f64 v.k]
abbrev stepV (v : Step) : Value := .agg #[.int .i64 v.op, .int .i64 v.len, .int .i64 v.n, .int .i64 v.dst, .int .i64 v.a, .int .i64 v.b, .int .i64 v.c, .float .f64 v.k]
def dStep : Enc Step := ⟨8, by decide, stepcells, fun _ => rfl⟩
theorem _root_.Go.Am.Rd.step {H : Heap} {a : Option Addr} {xs : List Step} (h : Rd dStep H a xs) {i : Nat} {x : Step} (hx : xs[i]? = some x) : ∃ b off, a = some ⟨b, off, none⟩ ∧ H.aggAt b (off + i * 8) 8 (stepV x) := h.run hx
theorem _root_.Go.Am.Rd.stepF {H : Heap} {a : Option Addr} {xs : List Step} (h : Rd dStep H a xs) {i : Nat} {x : Step} (hx : xs[i]? = some x) : ∃ b off, a = some ⟨b, off, none⟩ ∧ H.cell? b (off + i * 8) = some (.int .i64 x.op) ∧ H.cell? b (off + i * 8 + 1) = some (.int .i64 x.len) ∧ H.cell? b (off + i * 8 + 2) = some (.int .i64 x.n) ∧ H.cell? b (off + i * 8 + 3) = some (.int .i64 x.dst) ∧ H.cell? b (off + i * 8 + 4) = some (.int .i64 x.a) ∧ H.cell? b (off + i * 8 + 5) = some (.int .i64 x.b) ∧ H.cell? b (off + i * 8 + 6) = some (.int .i64 x.c) ∧ H.cell? b (off + i * 8 + 7) = some (.float .f64 x.k) := by
  obtain ⟨b, off, h1, h2⟩ := h.run hx
  have key := fun j u (hj : (stepcells x)[j]? = some u) => run_cells h2 (show (dStep.enc x)[j]? = some u from hj)
  exact ⟨b, off, h1, key 0 _ rfl, key 1 _ rfl, key 2 _ rfl, key 3 _ rfl, key 4 _ rfl, key 5 _ rfl, key 6 _ rfl, key 7 _ rfl⟩
set_option maxHeartbeats 1000000 in
theorem eqStep_pc (v w : Step) (H : Heap) : PC Try.prog 54 [stepV v, stepV w] H (.bool (decide (v = w))) := by
  refine EC_fn ctx (fun _ => true) Try.func54 rfl rfl rfl ?_
  obtain ⟨a0, a1, a2, a3, a4, a5, a6, a7⟩ := v
  obtain ⟨b0, b1, b2, b3, b4, b5, b6, b7⟩ := w
  refine ⟨fun h => pbool ?_, fun h0 => ?_⟩
  · simp at h; simp [h]
  refine ⟨fun h => pbool ?_, fun h1 => ?_⟩
  · simp at h; simp [h]
  refine ⟨fun h => pbool ?_, fun h2 => ?_⟩
  · simp at h; simp [h]
  refine ⟨fun h => pbool ?_, fun h3 => ?_⟩
  · simp at h; simp [h]
  refine ⟨fun h => pbool ?_, fun h4 => ?_⟩
  · simp at h; simp [h]
  refine ⟨fun h => pbool ?_, fun h5 => ?_⟩
  · simp at h; simp [h]
  refine ⟨fun h => pbool ?_, fun h6 => ?_⟩
  · simp at h; simp [h]
  refine ⟨_, sameFloat_pc a7 b7 H, ?_, fun v K hR => by cases hR.1⟩
  rintro _ H ⟨hv, rfl⟩
  cases hv
  refine ⟨fun h => pbool ?_, fun h7 => ?_⟩
  · simp at h; simp [h]
  refine pbool ?_
  simp at h0 h1 h2 h3 h4 h5 h6 h7
  simp [h0, h1, h2, h3, h4, h5, h6, h7]
theorem eqStepS_pc (H : Heap) (a b : Option Addr) (xs ys : List Step) (h : Rd dStep H a xs) (h' : Rd dStep H b ys) (hl : xs.length < 9223372036854775807) :
    PC Try.prog 20 [sv a xs, sv b ys] H (.bool (decide (xs = ys))) := by
  refine EC_fn ctx (fun _ => true) Try.func20 rfl rfl rfl ?_
  refine ⟨fun hne => pbool ?_, fun heq => ?_⟩
  · have : xs ≠ ys := fun e => by subst e; simp at hne
    simp [this]
  · have hlen : xs.length = ys.length := by simp at heq; omega
    refine loop_ind ctx (fun _ => true) (fun m E K => ∃ k, k ≤ xs.length ∧ m = xs.length - k ∧ E = ⟨[(0, sv a xs), (1, sv b ys), (5, .int .i64 k)], []⟩ ∧ K = H ∧ xs.take k = ys.take k)
      ⟨0, Nat.zero_le _, rfl, rfl, rfl, by simp⟩ (by (refine ⟨?_, ?_⟩ <;> repeat' first | exact trivial | exact congrArg (fun x => some (Value.int .i64 x)) (wrap_nat (by omega)) | exact sv_eq (by simp; done) | exact rfl | refine ⟨?_, ?_⟩ | fail)) ?_
    rintro m E K ⟨k, hk, rfl, rfl, rfl, ht⟩
    refine ⟨fun hlt => ?_, fun hge => ?_⟩
    · have hlt : k < xs.length := by simpa using hlt
      obtain ⟨p, o, rfl, hc⟩ := h.step (List.getElem?_eq_getElem hlt)
      obtain ⟨p', o', rfl, hc'⟩ := h'.step (List.getElem?_eq_getElem (show k < ys.length by omega))
      refine ⟨.leaf [([0, 1, 2, 3, 4, 5, 6, 7, 8, 9], none)] [], by kernel_rfl, ⟨by omega, by omega⟩, stepV xs[k], hc, ⟨by omega, by omega⟩, stepV ys[k], hc', _, eqStep_pc xs[k] ys[k] K, fun hne => pbool ?_, fun heq => ?_⟩
      · have : xs ≠ ys := fun e => by subst e; simp at hne
        simp [this]
      · refine ⟨xs.length - (k + 1), ⟨[(0, sv (some ⟨p, o, none⟩) xs), (1, sv (some ⟨p', o', none⟩) ys), (5, .int .i64 ((k + 1 : Nat) : Int))], []⟩, by omega, by (refine ⟨?_, ?_⟩ <;> repeat' first | exact trivial | exact congrArg (fun x => some (Value.int .i64 x)) (wrap_nat (by omega)) | exact sv_eq (by simp; done) | exact rfl | refine ⟨?_, ?_⟩ | fail), k + 1, by omega, rfl, rfl, rfl, ?_⟩
        rw [List.take_succ_eq_append_getElem hlt, List.take_succ_eq_append_getElem (show k < ys.length by omega), ht]
        simp at heq
        rw [heq]
    · refine pbool ?_
      have hk : k = xs.length := by simp at hge; omega
      subst hk
      rw [List.take_of_length_le (Nat.le_refl _), List.take_of_length_le (by omega)] at ht
      simp [ht]

structure Span where
  off : Int
  len : Int
  deriving DecidableEq, Inhabited
abbrev spancells (v : Span) : List Value := [.int .i64 v.off, .int .i64 v.len]
abbrev spanV (v : Span) : Value := .agg #[.int .i64 v.off, .int .i64 v.len]
def dSpan : Enc Span := ⟨2, by decide, spancells, fun _ => rfl⟩
theorem _root_.Go.Am.Rd.span {H : Heap} {a : Option Addr} {xs : List Span} (h : Rd dSpan H a xs) {i : Nat} {x : Span} (hx : xs[i]? = some x) : ∃ b off, a = some ⟨b, off, none⟩ ∧ H.aggAt b (off + i * 2) 2 (spanV x) := h.run hx
theorem _root_.Go.Am.Rd.spanF {H : Heap} {a : Option Addr} {xs : List Span} (h : Rd dSpan H a xs) {i : Nat} {x : Span} (hx : xs[i]? = some x) : ∃ b off, a = some ⟨b, off, none⟩ ∧ H.cell? b (off + i * 2) = some (.int .i64 x.off) ∧ H.cell? b (off + i * 2 + 1) = some (.int .i64 x.len) := by
  obtain ⟨b, off, h1, h2⟩ := h.run hx
  have key := fun j u (hj : (spancells x)[j]? = some u) => run_cells h2 (show (dSpan.enc x)[j]? = some u from hj)
  exact ⟨b, off, h1, key 0 _ rfl, key 1 _ rfl⟩
set_option maxHeartbeats 1000000 in
theorem eqSpan_pc (v w : Span) (H : Heap) : PC Try.prog 55 [spanV v, spanV w] H (.bool (decide (v = w))) := by
  refine EC_fn ctx (fun _ => true) Try.func55 rfl rfl rfl ?_
  obtain ⟨a0, a1⟩ := v
  obtain ⟨b0, b1⟩ := w
  refine ⟨fun h => pbool ?_, fun h0 => ?_⟩
  · simp at h; simp [h]
  refine ⟨fun h => pbool ?_, fun h1 => ?_⟩
  · simp at h; simp [h]
  refine pbool ?_
  simp at h0 h1
  simp [h0, h1]
theorem eqSpanS_pc (H : Heap) (a b : Option Addr) (xs ys : List Span) (h : Rd dSpan H a xs) (h' : Rd dSpan H b ys) (hl : xs.length < 9223372036854775807) :
    PC Try.prog 21 [sv a xs, sv b ys] H (.bool (decide (xs = ys))) := by
  refine EC_fn ctx (fun _ => true) Try.func21 rfl rfl rfl ?_
  refine ⟨fun hne => pbool ?_, fun heq => ?_⟩
  · have : xs ≠ ys := fun e => by subst e; simp at hne
    simp [this]
  · have hlen : xs.length = ys.length := by simp at heq; omega
    refine loop_ind ctx (fun _ => true) (fun m E K => ∃ k, k ≤ xs.length ∧ m = xs.length - k ∧ E = ⟨[(0, sv a xs), (1, sv b ys), (5, .int .i64 k)], []⟩ ∧ K = H ∧ xs.take k = ys.take k)
      ⟨0, Nat.zero_le _, rfl, rfl, rfl, by simp⟩ (by (refine ⟨?_, ?_⟩ <;> repeat' first | exact trivial | exact congrArg (fun x => some (Value.int .i64 x)) (wrap_nat (by omega)) | exact sv_eq (by simp; done) | exact rfl | refine ⟨?_, ?_⟩ | fail)) ?_
    rintro m E K ⟨k, hk, rfl, rfl, rfl, ht⟩
    refine ⟨fun hlt => ?_, fun hge => ?_⟩
    · have hlt : k < xs.length := by simpa using hlt
      obtain ⟨p, o, rfl, hc⟩ := h.span (List.getElem?_eq_getElem hlt)
      obtain ⟨p', o', rfl, hc'⟩ := h'.span (List.getElem?_eq_getElem (show k < ys.length by omega))
      refine ⟨.leaf [([0, 1, 2, 3, 4, 5, 6, 7, 8, 9], none)] [], by kernel_rfl, ⟨by omega, by omega⟩, spanV xs[k], hc, ⟨by omega, by omega⟩, spanV ys[k], hc', _, eqSpan_pc xs[k] ys[k] K, fun hne => pbool ?_, fun heq => ?_⟩
      · have : xs ≠ ys := fun e => by subst e; simp at hne
        simp [this]
      · refine ⟨xs.length - (k + 1), ⟨[(0, sv (some ⟨p, o, none⟩) xs), (1, sv (some ⟨p', o', none⟩) ys), (5, .int .i64 ((k + 1 : Nat) : Int))], []⟩, by omega, by (refine ⟨?_, ?_⟩ <;> repeat' first | exact trivial | exact congrArg (fun x => some (Value.int .i64 x)) (wrap_nat (by omega)) | exact sv_eq (by simp; done) | exact rfl | refine ⟨?_, ?_⟩ | fail), k + 1, by omega, rfl, rfl, rfl, ?_⟩
        rw [List.take_succ_eq_append_getElem hlt, List.take_succ_eq_append_getElem (show k < ys.length by omega), ht]
        simp at heq
        rw [heq]
    · refine pbool ?_
      have hk : k = xs.length := by simp at hge; omega
      subst hk
      rw [List.take_of_length_le (Nat.le_refl _), List.take_of_length_le (by omega)] at ht
      simp [ht]

end Go.Proofs.Ythcnnificgbmhaa
