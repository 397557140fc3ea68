/- Arguments of the laws' own types as values of the abstract machine. No condition. -/
import Derived.Test.YtajcbdamgaofcaaDoorDat
import Derived.Test.YtajcbdamgaofcaaDoorAmOpen
import Derived.WalkKit
import Derived.OpenShut
namespace Go.Proofs.YtajcbdamgaofcaaDoor
open Go.ChangeShapes Go.WideShapes Go.ChangeAt Go.RowKit Go.Am
set_option linter.unusedVariables false
set_option linter.unusedSimpArgs false
set_option maxRecDepth 100000
theorem cellsInt : Tryd.prog.cellsOf 3 = 1 := by kernel_rfl
theorem cellsFlt : Tryd.prog.cellsOf 23 = 1 := by kernel_rfl
theorem spot_of {w : World} {r : Reach} {base : Nat} {t e : TypeId} {v : Value} (ht : Tryd.prog.underlying t = some (.slice e)) (h : Cell.okWide Tryd.prog w r base t v) {a : Addr} {l c : Nat} (hv : v = .slice (some a) l c) : a.spot = none := by
  subst hv
  unfold Cell.okWide at h
  rw [ht] at h
  unfold Cell.ok at h
  rw [ht] at h
  exact h.2.2.2.1

/-- Arguments are opened one after the other. -/
def Arg (w : World) (v : Value) (Q : Heap → Value → Prop) : Prop := ∀ ρ H0, HRel ρ ro H0 w → ∃ ρ' H' u, Rho.le ρ ρ' ∧ Ext H0 H' ∧ HRel ρ' ro H' w ∧ VRel ρ' u v ∧ Q H' u
theorem argSl {α : Type} [Inhabited α] {t e : TypeId} {de : Enc α} {G : α → Prop} {w : World} (ht : Tryd.prog.underlying t = some (.slice e)) (hc : Tryd.prog.cellsOf e = de.sz) (he : ElemA Tryd.prog w e de G) {base : Nat} {v : Value} {H : Type} {enc : TypeId × Value → H} {d : DataW H} {ps : List MemPlace}
    (hv : Value.okWide Tryd.prog w .any base t v) (h : DataW.Trod enc Tryd.prog w 0 (fun _ => true) true t v d ps) :
    ∃ xs : List α, (∀ y ∈ xs, G y) ∧ xs.length ≤ 9223372036854775807 ∧ Arg w v fun H u => ∃ a, u = sv a xs ∧ Rd de H a xs := by
  obtain ⟨a, len, cap, rfl⟩ := okWide_slice ht hv
  obtain ⟨fuel, h⟩ := h
  have hs : ∀ a' l c, [Value.slice a len cap] = [.slice (some a') l c] → a'.spot = none := fun a' l c hq => by
    have hv' : Cell.okWide Tryd.prog w .any base t (.slice a len cap) := by unfold Value.okWide at hv; rw [ht] at hv; exact hv
    exact spot_of ht hv' (List.cons.inj hq).1
  obtain ⟨xs, g1, g2, g3⟩ := open_sl (d := de) ht hc he (cs := [.slice a len cap]) h hs
  refine ⟨xs, g1, g2, fun ρ H0 hr => ?_⟩
  obtain ⟨ρ', H', p, h1, h2, h3, h4, h5⟩ := g3 ρ H0 hr
  cases h4 with
  | cons h4 _ => exact ⟨ρ', H', _, h1, h2, h3, h4, p, rfl, h5⟩
theorem argInt {w : World} {base : Nat} {v : Value} {H : Type} {enc : TypeId × Value → H} {d : DataW H} {ps : List MemPlace} (hv : Value.okWide Tryd.prog w .any base 3 v) (h : DataW.Trod enc Tryd.prog w 0 (fun _ => true) true 3 v d ps) :
    ∃ n : Int, -9223372036854775808 ≤ n ∧ n ≤ 9223372036854775807 ∧ Arg w v fun H u => u = .int .i64 n := by
  obtain ⟨a, rfl, _, _, w0⟩ := open_int Tryd.underlying3 hv h
  refine ⟨a, ?_, ?_, fun ρ H0 hr => ⟨ρ, H0, _, Rho.le_refl _, Ext.refl _, hr, .int _ _, rfl⟩⟩
  · simp [Lit.wf, IntKind.min, IntKind.max, IntKind.signed, IntKind.bits] at w0; omega
  · simp [Lit.wf, IntKind.min, IntKind.max, IntKind.signed, IntKind.bits] at w0; omega
end Go.Proofs.YtajcbdamgaofcaaDoor
