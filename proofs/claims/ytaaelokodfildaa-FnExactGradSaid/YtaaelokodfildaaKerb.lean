/- Kernel, both sides. Conditions: lists of at most 2^20 elements. -/
import Derived.Test.YtaaelokodfildaaKeri
set_option linter.unusedVariables false
set_option linter.unusedSimpArgs false
namespace Go.Proofs.Ytaaelokodfildaa
open Go.Am

def kel (v : Val) (xs ys zs : List Nat) (i : Nat) : Nat :=
  if eachB v.op then one v.op ((xs[i]?).getD 0) (if 1 < opnd v.op then (ys[i]?).getD 0 else 0) (if 2 < opnd v.op then (zs[i]?).getD 0 else 0)
  else if v.op = 9 then fsum xs else if v.op = 10 then (xs[0]?).getD 0 else if v.op = 11 then (xs[v.c.toNat]?).getD 0 else if v.op = 12 then (if (i : Int) = v.c then (xs[0]?).getD 0 else 0) else v.k
def kpre (v : Val) (xs ys zs : List Nat) (n : Nat) : List Nat := (List.range n).map (kel v xs ys zs)
@[simp] theorem kpre_len (v : Val) (xs ys zs : List Nat) (n : Nat) : (kpre v xs ys zs n).length = n := by simp [kpre]
theorem kpre_succ (v : Val) (xs ys zs : List Nat) (n : Nat) : kpre v xs ys zs (n + 1) = kpre v xs ys zs n ++ [kel v xs ys zs n] := by simp [kpre, List.range_succ]
def kOK (v : Val) (xs ys zs : List Nat) : Bool := headB v && fitsB v xs.length ys.length zs.length
def kern (v : Val) (xs ys zs : List Nat) : List Nat := if kOK v xs ys zs then kpre v xs ys zs v.len.toNat else []

abbrev kE (a b c : Option Addr) (xs ys zs : List Nat) (v : Val) (o : Option Addr) (k : Nat) : Env := ⟨[(1, sv a xs), (2, sv b ys), (3, sv c zs), (4, .pointer (some ⟨0, 0, some 0⟩)), (9, sv o (kpre v xs ys zs k)), (10, .int .i64 k)], [vcells v]⟩

theorem each_fits {v : Val} {x y z : Int} (he : eachB v.op = true) (h : fitsB v x y z = true) : x = v.len ∧ (2 ≤ opnd v.op → y = v.len) ∧ (3 ≤ opnd v.op → z = v.len) := by
  rw [fitsB, if_pos he] at h; exact of_decide_eq_true h

end Go.Proofs.Ytaaelokodfildaa
