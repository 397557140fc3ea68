/- Verify: spans. Conditions: codes as the laws let them in. -/
import Derived.Test.YtjhldpghbnjjmaaVer
set_option linter.unusedVariables false
set_option linter.unusedSimpArgs false
namespace Go.Proofs.Ytjhldpghbnjjmaa
open Go.Am

def spanB (peak : Int) (steps : List Step) (n : Nat) (off size : Int) : Bool :=
  decide (1 ≤ size ∧ size ≤ 1000 ∧ 0 ≤ off ∧ off ≤ peak - size) && (List.range size.toNat).all fun i : Nat => wroteB steps n (off + i)
/-- A step whose form and place are right. -/
def okStep (s : Step) : Prop := 0 ≤ s.dst ∧ s.dst ≤ 50000 ∧ 1 ≤ s.len ∧ s.len ≤ 1000
theorem l5spanOK_pc (H : Heap) (p q r : Option Addr) (c : Code') (hc : RdC H p q r c) (n : Nat) (off size : Int) (hn : n ≤ c.steps.length) (hl : c.steps.length ≤ 1048576) (hb : ∀ s ∈ c.steps.take n, okStep s) (hp0 : 0 ≤ c.peak) (hp : c.peak ≤ 50000) :
    PC Try.prog 48 [cV p q r c, .int .i64 n, .int .i64 off, .int .i64 size] H (.bool (spanB c.peak c.steps n off size)) := by
  refine EC_fn ctx (fun _ => true) Try.func48 rfl rfl rfl ?_
  refine ⟨fun h => pbool ?_, fun h => ?_⟩
  · symm; rw [Bool.eq_false_iff]
    intro e
    simp only [spanB, Bool.and_eq_true, decide_eq_true_eq] at e
    have hw : IntKind.i64.wrap (c.peak - size) = c.peak - size := wrap_i64 (by omega) (by omega)
    rw [hw] at h
    simp at h
    omega
  have hs : 1 ≤ size ∧ size ≤ 1000 := by simp at h; omega
  have hw : IntKind.i64.wrap (c.peak - size) = c.peak - size := wrap_i64 (by omega) (by omega)
  rw [hw] at h
  have h : (1 ≤ size ∧ size ≤ 1000) ∧ 0 ≤ off ∧ off ≤ c.peak - size := by simp at h; omega
  refine loop_ind ctx (fun _ => true) (fun m E K => ∃ k : Nat, k ≤ size.toNat ∧ m = size.toNat - k ∧ E = ⟨[(1, .int .i64 n), (2, .int .i64 off), (3, .int .i64 size), (4, .pointer (some ⟨0, 0, some 0⟩)), (9, .int .i64 k)], [[sv p c.ins, sv q c.steps, sv r c.outs, .int .i64 c.peak]]⟩ ∧ K = H ∧ (List.range k).all (fun i : Nat => wroteB c.steps n (off + i)) = true)
    ⟨0, Nat.zero_le _, rfl, rfl, rfl, rfl⟩ (by (refine ⟨?_, ?_⟩ <;> repeat' first | exact trivial | exact congrArg (fun x => some (Value.int .i64 x)) (wrap_nat (by omega)) | exact sv_eq (by simp; done) | exact rfl | refine ⟨?_, ?_⟩ | fail)) ?_
  rintro m E K ⟨k, hk, rfl, rfl, rfl, ho⟩
  refine ⟨fun hlt => ?_, fun hge => ?_⟩
  · have hlt : k < size.toNat := by simp at hlt; omega
    have hw2 : IntKind.i64.wrap (off + k) = off + k := wrap_i64 (by omega) (by omega)
    have hcall := l5wrote_pc K p q r c hc n (off + k) hn hl hb
    rw [← hw2] at hcall
    refine ⟨_, hcall, ?_, fun v K hR => by cases hR.1⟩
    rintro _ K ⟨hx, rfl⟩
    cases hx
    rw [hw2]
    refine ⟨fun hf => pbool ?_, fun hf => ?_⟩
    · unfold spanB
      rw [range_all_false (f := fun i : Nat => wroteB c.steps n (off + i)) hlt (by simpa using hf)]; simp
    · exact ⟨size.toNat - (k + 1), ⟨[(1, .int .i64 n), (2, .int .i64 off), (3, .int .i64 size), (4, .pointer (some ⟨0, 0, some 0⟩)), (9, .int .i64 ((k + 1 : Nat) : Int))], [[sv p c.ins, sv q c.steps, sv r c.outs, .int .i64 c.peak]]⟩, by omega, by (refine ⟨?_, ?_⟩ <;> repeat' first | exact trivial | exact congrArg (fun x => some (Value.int .i64 x)) (wrap_nat (by omega)) | exact sv_eq (by simp; done) | exact rfl | refine ⟨?_, ?_⟩ | fail), k + 1, by omega, rfl, rfl, rfl, range_all_succ ho (by simpa using hf)⟩
  · have hk : k = size.toNat := by simp at hge; omega
    subst hk
    refine pbool ?_
    unfold spanB
    rw [ho]
    simp; omega
theorem within_pc (H : Heap) (s : Span) (peak : Int) (hp0 : 0 ≤ peak) (hp : peak ≤ 50000) (hs : s.len ≤ 9223372036854775807) :
    PC Try.prog 56 [spanV s, .int .i64 peak] H (.bool (decide (0 ≤ s.off ∧ 0 ≤ s.len ∧ s.off ≤ peak - s.len))) := by
  refine EC_fn ctx (fun _ => true) Try.func56 rfl rfl rfl ?_
  refine pbool ?_
  rw [Bool.eq_iff_iff]
  by_cases h : 0 ≤ s.len
  · rw [wrap_i64 (x := peak - s.len) (by omega) (by omega)]
    simp; omega
  · simp; omega
def meetsB (s t : Span) : Bool := decide (s.off < t.off + t.len ∧ t.off < s.off + s.len)
theorem meets_pc (H : Heap) (s t : Span) (h1 : 0 ≤ s.off ∧ s.off ≤ 100000 ∧ 0 ≤ s.len ∧ s.len ≤ 100000) (h2 : 0 ≤ t.off ∧ t.off ≤ 100000 ∧ 0 ≤ t.len ∧ t.len ≤ 100000) :
    PC Try.prog 60 [spanV s, spanV t] H (.bool (meetsB s t)) := by
  refine EC_fn ctx (fun _ => true) Try.func60 rfl rfl rfl ?_
  refine pbool ?_
  rw [Bool.eq_iff_iff, wrap_i64 (x := t.off + t.len) (by omega) (by omega), wrap_i64 (x := s.off + s.len) (by omega) (by omega)]
  simp [meetsB]
def readsL (s : Step) : List Span := ([⟨s.a, s.n⟩, ⟨s.b, s.len⟩, ⟨s.c, s.len⟩] : List Span).take (opnd s.op).toNat
theorem reads_ec (H : Heap) (s : Step) : EC Try.prog 59 [stepV s] H fun r H' => ∃ b, r = .ret (sv (some ⟨b, 0, none⟩) (readsL s)) ∧ Ext H H' ∧ Rd dSpan H' (some ⟨b, 0, none⟩) (readsL s) := by
  have hr := opnd_range s.op
  refine EC_fn ctx (fun _ => true) Try.func59 rfl rfl rfl ?_
  have hb : Rd dSpan (H.push (.cells (flat dSpan [⟨s.a, s.n⟩, ⟨s.b, s.len⟩, ⟨s.c, s.len⟩]) dSpan.sz true)) (some ⟨H.next, 0, none⟩) [⟨s.a, s.n⟩, ⟨s.b, s.len⟩, ⟨s.c, s.len⟩] := Rd.push _ _
  have hsub := hb.sub (l := 0) (n := (opnd s.op).toNat) (by simp; omega)
  refine ⟨[([0, 1, 2, 3, 4, 5, 6, 7, 8, 9, 10, 11, 12, 13, 14, 16, 17, 18], some 15), ([19, 20], none)], [16, 17, 18], by kernel_rfl, opnd s.op |> Value.int .i64, fun H' => operands_pc H' _, ⟨by omega, by omega, by omega, hb.ez (by simp)⟩, H.next, ?_, Ext.push _ _, hsub⟩
  have hl : (readsL s).length = (opnd s.op).toNat := by simp [readsL]; omega
  exact ret_sv hl
end Go.Proofs.Ytjhldpghbnjjmaa
