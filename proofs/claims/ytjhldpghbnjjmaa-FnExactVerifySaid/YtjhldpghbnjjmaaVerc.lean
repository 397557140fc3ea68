/- Verify, the program's side: what a span's cells hold. Conditions: codes as the laws let them in. -/
import Derived.Test.YtjhldpghbnjjmaaVerb
set_option linter.unusedVariables false
set_option linter.unusedSimpArgs false
namespace Go.Proofs.Ytjhldpghbnjjmaa
open Go.Am

/-- The cells that the first i steps wrote, and of one more step t of its cells. -/
def wrL (steps : List Step) (i : Nat) (peak : Int) (d t : Int) : List Bool := (List.range peak.toNat).map fun j : Nat => wroteB steps i j || decide (d ≤ (j : Int) ∧ (j : Int) < d + t)
@[simp] theorem wrL_len (steps : List Step) (i : Nat) (peak d t : Int) : (wrL steps i peak d t).length = peak.toNat := by simp [wrL]
theorem wrL_get {steps : List Step} {i : Nat} {peak d t : Int} {j : Nat} (h : j < peak.toNat) : (wrL steps i peak d t)[j]'(by simpa using h) = (wroteB steps i j || decide (d ≤ (j : Int) ∧ (j : Int) < d + t)) := by simp [wrL]
def knownB (peak : Int) (W : List Bool) (s : Span) : Bool := decide (0 ≤ s.off ∧ 0 ≤ s.len ∧ s.off ≤ peak - s.len) && !((W.drop s.off.toNat).take s.len.toNat).any fun x => false == x
theorem known_span {steps : List Step} {i : Nat} {peak d : Int} (s : Span) : spanB peak steps i s.off s.len = (decide (1 ≤ s.len ∧ s.len ≤ 1000) && knownB peak (wrL steps i peak d 0) s) := by
  unfold spanB knownB
  by_cases h : 1 ≤ s.len ∧ s.len ≤ 1000 ∧ 0 ≤ s.off ∧ s.off ≤ peak - s.len
  · rw [show decide (1 ≤ s.len ∧ s.len ≤ 1000 ∧ 0 ≤ s.off ∧ s.off ≤ peak - s.len) = true by simpa using h, show decide (1 ≤ s.len ∧ s.len ≤ 1000) = true by simp; omega, show decide (0 ≤ s.off ∧ 0 ≤ s.len ∧ s.off ≤ peak - s.len) = true by simp; omega]
    simp only [Bool.true_and]
    rw [Bool.eq_iff_iff]
    simp only [List.all_eq_true, List.mem_range, Bool.not_eq_true', List.any_eq_false, List.mem_take_iff_getElem, List.getElem_drop]
    constructor
    · rintro hh x ⟨j, hj, rfl⟩
      have hj1 : j < s.len.toNat := by omega
      have := hh j hj1
      rw [wrL_get (by simp at hj; omega)]
      rw [show (((s.off.toNat + j : Nat) : Int)) = s.off + j by omega, this]
      simp
    · intro hh j hj
      have hlt : s.off.toNat + j < peak.toNat := by omega
      have := hh _ ⟨j, by simp; omega, rfl⟩
      rw [wrL_get hlt] at this
      rw [show (((s.off.toNat + j : Nat) : Int)) = s.off + j by omega] at this
      have hd : decide (d ≤ s.off + (j : Int) ∧ s.off + (j : Int) < d + 0) = false := by simp
      rw [hd] at this
      simpa using this
  · rw [show decide (1 ≤ s.len ∧ s.len ≤ 1000 ∧ 0 ≤ s.off ∧ s.off ≤ peak - s.len) = false by simpa using h]
    simp only [Bool.false_and]
    symm
    rw [Bool.eq_false_iff]
    intro e
    simp only [Bool.and_eq_true, decide_eq_true_eq] at e
    omega

/-- What lies in the blocks that the program's closures hold: the code, the slice of what is written, its cells. -/
structure VB (K : Heap) (B : Nat) (p q r : Option Addr) (c : Code') (W : List Bool) : Prop where
  code : K.blk B = some (.cells [sv p c.ins, sv q c.steps, sv r c.outs, .int .i64 c.peak] 4 true)
  hdr : K.blk (B + 2) = some (.cells [sv (some ⟨B + 1, 0, none⟩) W] 1 true)
  cells : K.blk (B + 1) = some (.cells (flat dBool W) 1 true)
theorem cell_of {H : Heap} {b : Nat} {cs : List Value} {esz : Nat} {rw_ : Bool} (h : H.blk b = some (.cells cs esz rw_)) (o : Nat) : H.cell? b o = cs[o]? := by unfold Heap.cell?; rw [h]
theorem known_pc (K : Heap) (B : Nat) (p q r : Option Addr) (c : Code') (W : List Bool) (h : VB K B p q r c W) (hW : W.length = c.peak.toNat) (hp : 0 ≤ c.peak ∧ c.peak ≤ 50000) (s : Span) (hs : s.len ≤ 9223372036854775807) :
    PC Try.prog 55 [spanV s, .pointer (some ⟨B, 0, none⟩), .pointer (some ⟨B + 2, 0, none⟩)] K (.bool (knownB c.peak W s)) := by
  have hR : Rd dBool K (some ⟨B + 1, 0, none⟩) W := Rd.blk h.cells
  refine EC_fn ctx (fun _ => true) Try.func55 rfl rfl rfl ?_
  refine ⟨.int .i64 c.peak, (cell_of h.code 3), _, within_pc K s c.peak hp.1 hp.2 hs, ?_, fun v K hR => by cases hR.1⟩
  rintro _ K ⟨hx, rfl⟩
  cases hx
  refine ⟨sv (some ⟨B + 1, 0, none⟩) W, fun _ => (cell_of h.hdr 0), ?_⟩
  have hin : (0 ≤ s.off ∧ 0 ≤ s.len ∧ s.off ≤ c.peak - s.len) → IntKind.i64.wrap (s.off + s.len) = s.off + s.len := fun hh => wrap_i64 (by omega) (by omega)
  refine ⟨fun hg => ?_, .bool (((W.drop s.off.toNat).take s.len.toNat).any fun x => false == x), fun hg => ?_, ?_⟩
  · have hh : 0 ≤ s.off ∧ 0 ≤ s.len ∧ s.off ≤ c.peak - s.len := by simpa using hg
    rw [hin hh]
    exact ⟨hh.1, by omega, by omega, _, _, h.cells⟩
  · have hh : 0 ≤ s.off ∧ 0 ≤ s.len ∧ s.off ≤ c.peak - s.len := by simpa using hg
    rw [hin hh]
    have hsub := hR.sub (l := s.off.toNat) (n := s.len.toNat) (by omega)
    have hlen : ((W.drop s.off.toNat).take s.len.toNat).length = (s.off + s.len).toNat - s.off.toNat := by simp; omega
    have := containsBool_pc K _ _ hsub (by rw [hlen]; omega) false
    rw [show sv _ _ = _ from congrArg (fun n => Value.slice _ n n) hlen] at this
    exact this
  refine pbool ?_
  unfold knownB
  simp
theorem notLen_pc (H : Heap) (n : Int) : PC Try.prog 53 [.int .i64 n] H (.bool (!okLen n)) := by
  refine EC_fn ctx (fun _ => true) Try.func53 rfl rfl rfl ?_
  refine ⟨_, lenOk_pc H _, ?_, fun v K hR => by cases hR.1⟩
  rintro _ K ⟨hx, rfl⟩
  cases hx
  exact pbool rfl
def badB (peak : Int) (W : List Bool) (s : Span) : Bool := !okLen s.len || !knownB peak W s
theorem bad_pc (K : Heap) (B : Nat) (p q r : Option Addr) (c : Code') (W : List Bool) (h : VB K B p q r c W) (hf : K.blk (B + 3) = some (.cells [.func (.func 55) #[] #[.pointer (some ⟨B, 0, none⟩), .pointer (some ⟨B + 2, 0, none⟩)]] 1 true))
    (hW : W.length = c.peak.toNat) (hp : 0 ≤ c.peak ∧ c.peak ≤ 50000) (s : Span) :
    PC Try.prog 62 [spanV s, .pointer (some ⟨B + 3, 0, none⟩)] K (.bool (badB c.peak W s)) := by
  refine EC_fn ctx (fun _ => true) Try.func62 rfl rfl rfl ?_
  refine ⟨_, lenOk_pc K _, ?_, fun v K hR => by cases hR.1⟩
  rintro _ K ⟨hx, rfl⟩
  cases hx
  refine ⟨.func (.func 55) #[] #[.pointer (some ⟨B, 0, none⟩), .pointer (some ⟨B + 2, 0, none⟩)], fun _ => (cell_of hf 0), ?_⟩
  refine ⟨.bool (knownB c.peak W s), fun hg => known_pc K B p q r c W h hW hp s ?_, ?_⟩
  · have : okLen s.len = true := by simpa using hg
    simp [okLen] at this; omega
  refine pbool ?_
  unfold badB
  simp
end Go.Proofs.Ytjhldpghbnjjmaa
