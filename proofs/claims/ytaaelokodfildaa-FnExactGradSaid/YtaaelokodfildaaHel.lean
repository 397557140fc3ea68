/- The laws' helpers over floats: copies, equality, marks. Conditions: lists of at most 2^20 elements. -/
import Derived.Test.YtaaelokodfildaaDat
import Derived.Test.YtaaelokodfildaaMrkg
set_option linter.unusedVariables false
set_option linter.unusedSimpArgs false
namespace Go.Proofs.Ytaaelokodfildaa
open Go.Am

/-! marks -/
def markL (k : Int) (n : Nat) : List Nat := (List.range n).map fun i : Nat => fI (k + i)
@[simp] theorem markL_len (k : Int) (n : Nat) : (markL k n).length = n := by simp [markL]
theorem markL_succ (k : Int) (n : Nat) : markL k (n + 1) = markL k n ++ [fI (k + n)] := by simp [markL, List.range_succ]

theorem stor_but {α : Type} (d : Enc α) {H : Heap} {b : Nat} {xs : List α} (h : H.blk b = some (.cells (flat d xs) d.sz true)) {i o : Nat} {l : List Value} (y : α) (hi : i < xs.length) (ho : o = i * d.sz) (hl : l = d.enc y) :
    (H.stor b o l).blk b = some (.cells (flat d (xs.set i y)) d.sz true) ∧ But (some ⟨b, 0, none⟩) H (H.stor b o l) := by
  subst ho; subst hl
  rw [Heap.stor_put h]
  have hb := H.lt _ _ h
  refine ⟨by rw [put_blk _ _ _ _ hb, if_pos rfl, flat_over d xs i y hi], rfl, fun x c hx hc => ?_⟩
  have hne : x ≠ b := fun e => hx 0 (by rw [e])
  rw [put_blk _ _ _ _ hb, if_neg hne]; exact hc

end Go.Proofs.Ytaaelokodfildaa
