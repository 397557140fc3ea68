/- Eval: copies, shapes, operands. Conditions: lists of at most 2^20 elements. -/
import Derived.Test.YtaaelokodfildaaSst
import Derived.Test.YtaaelokodfildaaKerc
import Derived.Test.YtaaelokodfildaaGval
set_option linter.unusedVariables false
set_option linter.unusedSimpArgs false
namespace Go.Proofs.Ytaaelokodfildaa
open Go.Am

theorem _root_.Go.Am.Rd.all_ {α : Type} {d : Enc α} {H : Heap} {a : Option Addr} {xs : List α} (h : Rd d H a xs) (hp : 0 < xs.length) : ∃ b o, a = some ⟨b, o, none⟩ ∧ H.run? b o (xs.length * d.sz) = some (flat d xs) := by
  obtain ⟨b, off, cs, rw_, h1, h2, h3, h4⟩ := h.at_ hp
  refine ⟨b, off, h1, ?_⟩
  unfold Heap.run?
  rw [h2]
  simp only
  rw [if_pos h3, h4]
def CpR (H : Heap) (xs : List Nat) (r : AEnd) (K : Heap) : Prop := ∃ o, r = .ret (sv o xs) ∧ Ext H K ∧ Buf dFlt K H.next o xs
def shapesB (ins : List Int) (xss : List (List Nat)) : Bool := decide (xss.map (fun x : List Nat => (x.length : Int)) = ins)
theorem shapes_len {ins : List Int} {xss : List (List Nat)} (h : ¬ ins.length = xss.length) : shapesB ins xss = false := by
  unfold shapesB
  rw [decide_eq_false_iff_not]
  intro e
  have := congrArg List.length e
  simp at this
  omega
theorem shapes_at {ins : List Int} {xss : List (List Nat)} {k : Nat} (hk : k < ins.length) (hk' : k < xss.length) (h : ¬ (xss[k].length : Int) = ins[k]) : shapesB ins xss = false := by
  unfold shapesB
  rw [decide_eq_false_iff_not]
  intro e
  subst e
  simp at h
theorem shapes_all {ins : List Int} {xss : List (List Nat)} (hl : ins.length = xss.length) (h : ∀ k (hk : k < ins.length) (hk' : k < xss.length), (xss[k].length : Int) = ins[k]) : shapesB ins xss = true := by
  unfold shapesB
  rw [decide_eq_true_eq]
  apply List.ext_getElem
  · simp; omega
  · intro i h1 h2
    simp only [List.getElem_map]
    exact h i h2 (by simpa using h1)
def argsL (v : Val) : List Int := [v.a, v.b, v.c].take (opnd v.op).toNat
theorem opnd3 (op : Int) : 0 ≤ opnd op ∧ opnd op ≤ 3 := by unfold opnd; split; omega; split; omega; split <;> omega
theorem argsL_len (v : Val) : (argsL v).length = (opnd v.op).toNat := by have := opnd3 v.op; simp [argsL]; omega
theorem argsL_get {v : Val} {j : Nat} (h : j < (opnd v.op).toNat) : (argsL v)[j]? = some (fieldV v j) := by
  have := opnd3 v.op
  have hj : j = 0 ∨ j = 1 ∨ j = 2 := by omega
  unfold argsL
  rw [List.getElem?_take, if_pos h]
  rcases hj with rfl | rfl | rfl <;> rfl
theorem operandsOf_ec (H : Heap) (v : Val) : EC Try.prog 47 [valV v] H fun r H' => ∃ b, r = .ret (sv (some ⟨b, 0, none⟩) (argsL v)) ∧ Ext H H' ∧ Rd dInt H' (some ⟨b, 0, none⟩) (argsL v) := by
  have hr := opnd3 v.op
  refine EC_fn ctx (fun _ => true) Try.func47 rfl rfl rfl ?_
  have hb : Rd dInt (H.push (.cells (flat dInt [v.a, v.b, v.c]) dInt.sz true)) (some ⟨H.next, 0, none⟩) [v.a, v.b, v.c] := Rd.push _ _
  have hsub := hb.sub (l := 0) (n := (opnd v.op).toNat) (by simp; omega)
  refine ⟨.leaf [([0, 1, 2, 3, 4, 5, 7, 8, 9], some 6), ([10, 11], none)] [7, 8, 9], by kernel_rfl, opnd v.op |> Value.int .i64, fun H' => operands_pc H' _, ⟨by omega, by omega, by omega, hb.ez (by simp)⟩, H.next, ?_, Ext.push _ _, hsub⟩
  exact ret_sv (argsL_len v)
end Go.Proofs.Ytaaelokodfildaa
