/- Valid values, the spec's side. Condition: the graph's slices read. Valid values, the program's side. Condition: the graph's slices read. -/
import Derived.Test.YthcnnificgbmhaaGv
set_option linter.unusedVariables false
set_option linter.unusedSimpArgs false
namespace Go.Proofs.Ythcnnificgbmhaa
open Go.Am

def argOK (i : Int) (v : Val) (k : Int) : Bool := if k < opnd v.op then decide (0 ≤ fieldV v k ∧ fieldV v k < i) else decide (fieldV v k = 0) || (decide (k = 2) && placeB v.op)
def lenAt (vals : List Val) (j : Int) : Int := ((vals[j.toNat]?).map (·.len)).getD 0
def argLen (vals : List Val) (v : Val) (k : Int) : Int := if k < opnd v.op then lenAt vals (fieldV v k) else 0
def inputOK (ins : List Int) (v : Val) : Bool := decide (0 ≤ v.a ∧ v.a < ins.length ∧ v.len = (ins[v.a.toNat]?).getD 0 ∧ v.b = 0 ∧ v.c = 0)
def vokB (g : Graph) (i : Int) (v : Val) : Bool :=
  decide (0 ≤ v.op ∧ v.op ≤ 13) && okLen v.len && (if v.op = 0 then inputOK g.ins v else argOK i v 0 && argOK i v 1 && argOK i v 2 && fitsB v (argLen g.vals v 0) (argLen g.vals v 1) (argLen g.vals v 2))

def lensTo (vals : List Val) (v : Val) (k : Nat) : List Int := (List.range k).map fun j : Nat => argLen vals v j
@[simp] theorem lensTo_len (vals : List Val) (v : Val) (k : Nat) : (lensTo vals v k).length = k := by simp [lensTo]
theorem lensTo_succ (vals : List Val) (v : Val) (k : Nat) : lensTo vals v (k + 1) = lensTo vals v k ++ [argLen vals v k] := by simp [lensTo, List.range_succ]
theorem vok_head {g : Graph} {i : Int} {v : Val} (h : ¬ (0 ≤ v.op ∧ v.op ≤ 13 ∧ okLen v.len = true)) : vokB g i v = false := by
  unfold vokB
  cases hq : okLen v.len with
  | false => simp
  | true =>
    rw [show decide (0 ≤ v.op ∧ v.op ≤ 13) = false by simp [hq] at h ⊢; omega]
    simp
theorem vok_arg {g : Graph} {i : Int} {v : Val} (h0 : v.op ≠ 0) {k : Nat} (hk : k < 3) (h : argOK i v k = false) : vokB g i v = false := by
  unfold vokB
  rw [if_neg h0]
  have : k = 0 ∨ k = 1 ∨ k = 2 := by omega
  rcases this with rfl | rfl | rfl
  · rw [show argOK i v 0 = false from h]; simp
  · rw [show argOK i v 1 = false from h]; simp
  · rw [show argOK i v 2 = false from h]; simp

abbrev vE (i : Nat) (p q r : Option Addr) (g : Graph) (v : Val) (a : Option Addr) (k : Nat) : Env := ⟨[(1, .int .i64 i), (2, .pointer (some ⟨0, 0, some 0⟩)), (5, .pointer (some ⟨1, 0, some 0⟩)), (6, .int .i64 (opnd v.op)), (7, sv a (lensTo g.vals v k)), (8, .int .i64 k)], [[sv p g.ins, sv q g.vals, sv r g.outs], vcells v]⟩
end Go.Proofs.Ythcnnificgbmhaa

set_option linter.unusedVariables false
namespace Go.Proofs.Ythcnnificgbmhaa
open Go.Am

abbrev lenTo (vals : List Val) (v : Val) (j k : Nat) : Value := .int .i64 (if j < k then argLen vals v j else 0)
abbrev iE (i : Nat) (p q r : Option Addr) (g : Graph) (v : Val) (k : Nat) : Env := ⟨[(1, .int .i64 i), (2, .pointer (some ⟨0, 0, some 0⟩)), (5, .pointer (some ⟨1, 0, some 0⟩)), (6, .int .i64 (opnd v.op)), (7, .pointer (some ⟨2, 0, some 0⟩)),
  (74, .agg #[.int .i64 v.a, .int .i64 v.b, .int .i64 v.c]), (75, .int .i64 k)], [[sv p g.ins, sv q g.vals, sv r g.outs], vcells v, [lenTo g.vals v 0 k, lenTo g.vals v 1 k, lenTo g.vals v 2 k]]⟩
end Go.Proofs.Ythcnnificgbmhaa
