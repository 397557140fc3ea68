/- A slice of slices of floats as an argument. No condition. -/
import Derived.Test.YtanlmmfnpncpbaaArg
import Derived.Test.YtanlmmfnpncpbaaAmOpenS
namespace Go.Proofs.Ytanlmmfnpncpbaa
open Go.ChangeShapes Go.WideShapes Go.ChangeAt Go.RowKit Go.Am
set_option linter.unusedVariables false
set_option linter.unusedSimpArgs false
set_option maxRecDepth 100000
theorem cellsFlts : Try.prog.cellsOf 46 = 1 := by kernel_rfl
theorem argSS {w : World} {base : Nat} {v : Value} {H : Type} {enc : TypeId × Value → H} {d : DataW H} {ps : List MemPlace} (hv : Value.okWide Try.prog w .any base 27 v) (h : DataW.Trod enc Try.prog w 0 (fun _ => true) true 27 v d ps) :
    ∃ xss : List (List Nat), xss.length ≤ 9223372036854775807 ∧ (∀ xs ∈ xss, xs.length ≤ 9223372036854775807) ∧ Arg w v fun H u => ∃ (a : Option Addr) (es : List SlE), es.map (·.2) = xss ∧ u = sv a es ∧ RdSS H a es := by
  obtain ⟨a, len, cap, rfl⟩ := okWide_slice Try.underlying27 hv
  obtain ⟨fuel, h⟩ := h
  have hs : ∀ a' l c, [Value.slice a len cap] = [.slice (some a') l c] → a'.spot = none := fun a' l c hq => by
    have hv' : Cell.okWide Try.prog w .any base 27 (.slice a len cap) := by unfold Value.okWide at hv; rw [Try.underlying27] at hv; exact hv
    exact spot_of Try.underlying27 hv' (List.cons.inj hq).1
  obtain ⟨xss, g1, g2, g3⟩ := open_ss Try.underlying27 cellsFlts Try.underlying46 cellsFlt (elem_flt Try.underlying61) (cs := [.slice a len cap]) h hs
  refine ⟨xss, g1, g2, fun ρ H0 hr => ?_⟩
  obtain ⟨ρ', H', p, es, h0, h1, h2, h3, h4, h5⟩ := g3 ρ H0 hr
  cases h4 with
  | cons h4 _ => exact ⟨ρ', H', _, h1, h2, h3, h4, p, es, h0, rfl, h5⟩
theorem argSS_len {es : List SlE} {xss : List (List Nat)} {n : Nat} (h : es.map (·.2) = xss) (hx : xss.length ≤ n) : es.length ≤ n := by
  subst h; simpa using hx
theorem argSS_inn {es : List SlE} {xss : List (List Nat)} {n : Nat} (h : es.map (·.2) = xss) (hx : ∀ xs ∈ xss, xs.length ≤ n) : ∀ e ∈ es, e.2.length ≤ n := by
  subst h
  exact fun e he => hx _ (List.mem_map_of_mem he)
end Go.Proofs.Ytanlmmfnpncpbaa
