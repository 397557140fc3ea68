/- Valid graphs: what both sides' functions over one value compute. Conditions: whole numbers of 64 bits. -/
import Derived.Test.YtaaelokodfildaaDat
set_option linter.unusedVariables false
set_option linter.unusedSimpArgs false
namespace Go.Proofs.Ytaaelokodfildaa
open Go.Am


def opnd (op : Int) : Int := if op = 0 ∨ op = 1 then 0 else if op = 2 ∨ op = 3 ∨ op = 4 ∨ op = 5 ∨ op = 7 then 2 else if op = 8 then 3 else 1
def okLen (n : Int) : Bool := decide (1 ≤ n ∧ n ≤ 1000)
def fieldV (v : Val) (k : Int) : Int := if k = 0 then v.a else if k = 1 then v.b else v.c
def eachB (op : Int) : Bool := decide ((2 ≤ op ∧ op ≤ 8) ∨ op = 13)
def placeB (op : Int) : Bool := decide (op = 11 ∨ op = 12)
def fitsB (v : Val) (a b c : Int) : Bool :=
  if eachB v.op then decide (a = v.len ∧ (2 ≤ opnd v.op → b = v.len) ∧ (3 ≤ opnd v.op → c = v.len))
  else if v.op = 9 then decide (v.len = 1) && okLen a
  else if v.op = 11 then decide (v.len = 1) && okLen a && decide (0 ≤ v.c ∧ v.c < a)
  else if v.op = 10 then decide (a = 1)
  else if v.op = 12 then decide (a = 1 ∧ 0 ≤ v.c ∧ v.c < v.len)
  else true

theorem lenOk_pc (H : Heap) (n : Int) : PC Try.prog 43 [.int .i64 n] H (.bool (okLen n)) := by
  refine EC_fn ctx (fun _ => true) Try.func43 rfl rfl rfl ?_
  refine pbool ?_
  simp [okLen]
theorem hasPlace_pc (H : Heap) (n : Int) : PC Try.prog 56 [.int .i64 n] H (.bool (placeB n)) := by
  refine EC_fn ctx (fun _ => true) Try.func56 rfl rfl rfl ?_
  refine pbool ?_
  rw [Bool.eq_iff_iff]; simp [placeB]
theorem l1each_pc (H : Heap) (n : Int) : PC Try.prog 70 [.int .i64 n] H (.bool (eachB n)) := by
  refine EC_fn ctx (fun _ => true) Try.func70 rfl rfl rfl ?_
  refine pbool ?_
  rw [Bool.eq_iff_iff]; simp [eachB]
theorem l1operands_pc (H : Heap) (n : Int) : PC Try.prog 38 [.int .i64 n] H (.int .i64 (opnd n)) := by
  refine EC_fn ctx (fun _ => true) Try.func38 rfl rfl rfl ?_
  (repeat' first | refine pbool ?_ | refine pint ?_ | refine ⟨fun _ => ?_, fun _ => ?_⟩ | fail) <;> simp_all [opnd] <;> omega
theorem operands_pc (H : Heap) (n : Int) : PC Try.prog 55 [.int .i64 n] H (.int .i64 (opnd n)) := by
  refine EC_fn ctx (fun _ => true) Try.func55 rfl rfl rfl ?_
  (repeat' first | refine pbool ?_ | refine pint ?_ | refine ⟨fun _ => ?_, fun _ => ?_⟩ | fail) <;> simp_all [opnd]
theorem l1field_pc (H : Heap) (v : Val) (k : Int) : PC Try.prog 39 [valV v, .int .i64 k] H (.int .i64 (fieldV v k)) := by
  refine EC_fn ctx (fun _ => true) Try.func39 rfl rfl rfl ?_
  (repeat' first | refine pbool ?_ | refine pint ?_ | refine ⟨fun _ => ?_, fun _ => ?_⟩ | fail) <;> simp_all [fieldV]
def headB (v : Val) : Bool := decide (1 ≤ v.op ∧ v.op ≤ 13) && okLen v.len
theorem l1fits_all (H : Heap) (v : Val) (a b c : Int) : PC Try.prog 53 [valV v, .int .i64 a, .int .i64 b, .int .i64 c] H (.bool (headB v && fitsB v a b c)) := by
  refine EC_fn ctx (fun _ => true) Try.func53 rfl rfl rfl ?_
  refine ⟨fun h => pbool ?_, fun h' => ⟨_, l1each_pc H _, ?_, fun v K hR => by cases hR.1⟩⟩
  · rw [show headB v = false by rw [Bool.eq_false_iff]; simp [headB, okLen] at h ⊢; omega]; rfl
  · have hh : headB v = true := by simp [headB, okLen] at h' ⊢; omega
    rw [hh]
    rintro _ K ⟨hv, rfl⟩
    cases hv
    refine ⟨fun h => ⟨_, l1operands_pc K _, ?_, fun v K hR => by cases hR.1⟩, fun h => ?_⟩
    · rintro _ K ⟨hv, rfl⟩
      cases hv
      refine pbool ?_
      rw [fitsB, if_pos h, Bool.eq_iff_iff]
      simp; omega
    · (repeat' first | refine pbool ?_ | refine pint ?_ | refine ⟨fun _ => ?_, fun _ => ?_⟩ | fail) <;> rw [fitsB, if_neg (by simp [h])] <;> rw [Bool.eq_iff_iff] <;> simp_all [okLen] <;> omega
theorem l1fits_pc (H : Heap) (v : Val) (a b c : Int) (h1 : 1 ≤ v.op) (h2 : v.op ≤ 13) (h3 : okLen v.len = true) :
    PC Try.prog 53 [valV v, .int .i64 a, .int .i64 b, .int .i64 c] H (.bool (fitsB v a b c)) := by
  have := l1fits_all H v a b c
  rw [show headB v = true by simp [headB, h3]; omega, Bool.true_and] at this
  exact this
set_option maxHeartbeats 800000 in
theorem fits_all (H : Heap) (v : Val) (a b c : Int) (h3 : okLen v.len = true) :
    PC Try.prog 57 [valV v, .int .i64 a, .int .i64 b, .int .i64 c] H (.bool (headB v && fitsB v a b c)) := by
  refine EC_fn ctx (fun _ => true) Try.func57 rfl rfl rfl ?_
  have hh : headB v = decide (1 ≤ v.op ∧ v.op ≤ 13) := by simp [headB, h3]
  rw [hh]
  repeat' first | refine pbool ?_ | refine ⟨fun _ => ?_, fun _ => ?_⟩ | refine ⟨_, fun _ => lenOk_pc H _, ?_⟩ | fail
  all_goals (simp only [beq_iff_eq, beq_eq_false_iff_ne, ne_eq] at *; try omega)
  all_goals (rw [Bool.eq_iff_iff, fitsB]; simp_all [eachB, opnd, okLen] <;> omega)
theorem fits_pc (H : Heap) (v : Val) (a b c : Int) (h1 : 1 ≤ v.op) (h2 : v.op ≤ 13) (h3 : okLen v.len = true) :
    PC Try.prog 57 [valV v, .int .i64 a, .int .i64 b, .int .i64 c] H (.bool (fitsB v a b c)) := by
  have := fits_all H v a b c h3
  rw [show headB v = true by simp [headB, h3]; omega, Bool.true_and] at this
  exact this
end Go.Proofs.Ytaaelokodfildaa
