/- Kernel, the program's side. Conditions: lists of at most 2^20 elements. -/
import Derived.Test.YtaaelokodfildaaKerb
set_option linter.unusedVariables false
set_option linter.unusedSimpArgs false
namespace Go.Proofs.Ytaaelokodfildaa
open Go.Am

theorem kpre_eq {v : Val} {xs ys zs rs : List Nat} {n : Nat} (h : rs.length = n) (h' : ∀ i (hi : i < n), rs[i]'(by omega) = kel v xs ys zs i) : rs = kpre v xs ys zs n := by
  apply List.ext_getElem
  · simp [h]
  · intro i h1 h2
    rw [h' i (by omega)]
    simp [kpre]
theorem kel_yes {v : Val} (he : eachB v.op = true) (xs ys zs : List Nat) (i : Nat) : kel v xs ys zs i = one v.op ((xs[i]?).getD 0) (if 1 < opnd v.op then (ys[i]?).getD 0 else 0) (if 2 < opnd v.op then (zs[i]?).getD 0 else 0) := by
  unfold kel; rw [if_pos he]
theorem kel_not {v : Val} (he : eachB v.op = false) (xs ys zs : List Nat) (i : Nat) : kel v xs ys zs i = if v.op = 9 then fsum xs else if v.op = 10 then (xs[0]?).getD 0 else if v.op = 11 then (xs[v.c.toNat]?).getD 0 else if v.op = 12 then (if (i : Int) = v.c then (xs[0]?).getD 0 else 0) else v.k := by
  unfold kel; rw [if_neg (by rw [he]; simp)]
theorem Buf.push (H : Heap) (rs : List Nat) : Buf dFlt (H.push (.cells (flat dFlt rs) dFlt.sz true)) H.next (some ⟨H.next, 0, none⟩) rs := .blk (Nat.le_refl _) (push_blk _ _)
def KR (H : Heap) (v : Val) (xs ys zs : List Nat) (r : AEnd) (H' : Heap) : Prop := ∃ o, r = .ret (sv o (kern v xs ys zs)) ∧ Ext H H' ∧ Buf dFlt H' H.next o (kern v xs ys zs)
theorem KR.push {H : Heap} {v : Val} {xs ys zs rs : List Nat} (h : kern v xs ys zs = rs) : KR H v xs ys zs (.ret (sv (some ⟨H.next, 0, none⟩) rs)) (H.push (.cells (flat dFlt rs) dFlt.sz true)) := by
  unfold KR
  rw [h]; exact ⟨_, rfl, Ext.push _ _, Buf.push _ _⟩

end Go.Proofs.Ytaaelokodfildaa
