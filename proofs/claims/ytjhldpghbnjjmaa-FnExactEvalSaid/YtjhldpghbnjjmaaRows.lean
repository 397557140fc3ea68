/-
  No cell of these rows narrows 'for every input' (looked for: loops, veiled, ifaces, maps, wideKeys, modest, calm, conditions, laid).
  DERIVED. THE GIVEN ROWS OF THIS SEAT. 6 by the template 'for every input the law returns true; each argument reads behind the call as it read before'; 0 by the template 'total and deterministic' (their statements: YtjhldpghbnjjmaaTotals.lean).
  GIVEN WITH THE SEED: the statements are not yours to turn. If you find one false, say at which input.
  Laid BY PROGRAM, IN A SANDBOX (cutbox-rows.mjs): the forced cells as the released guide's own fill.sh prints them over the translation e583bdada44cfb0f… (all of the seat's roots in one cut). By AI agents, Wed Nov 11 2026. No macro, syntax, notation, axiom, sorry.
-/
import Derived.Test.YtjhldpghbnjjmaaChecked
import GoSem.Claim
import GoSem.ClaimJoined
import GoSem.ClaimMapViews
import Derived.JoinedTies
import Derived.KernelRfl
namespace Go.Proofs.Ytjhldpghbnjjmaa
/- THE CELL 'sum', in the pinned program and in every row, IS THE sha256 OF THE DUMP (.gsa) THAT YtjhldpghbnjjmaaProg.lean LOADS. Nothing in Lean hashes anything: it is a label: what it is worth is what the hold of that sum in a sandbox is worth. -/
noncomputable def Try.pinned : Pinned := { name := "ytjhldpghbnjjmaa", sum := "e583bdada44cfb0f2f5c223a8784889de26a8d32420705d96f0cb196a74206d7", checked := Try.checked }
namespace Rows
def none {H : Type} : Left H := { results := [], args := [] }

/-- 'laws.FnExactVerify': WHATEVER THE INPUT: true; the input reads as it did. -/
def fnExactVerifySpec : ChangeSpec := { name := "fnExactVerify", fn := fun _ => fun
  | [d] => { results := [.lit (.bool true)], args := [d] }
  | _ => none }
def fnExactVerifyRow : OpenClaim := { program := "ytjhldpghbnjjmaa", sum := "e583bdada44cfb0f2f5c223a8784889de26a8d32420705d96f0cb196a74206d7", func := "loop.example/s08086/laws.FnExactVerify", spec := "fnExactVerify", unfollowed := true, recurses := true, apart := false }
def FnExactVerifySaid : Prop := fnExactVerifyRow.holds Try.pinned (OpenSpec.ofChange fnExactVerifySpec)

/-- ITS FALSE NEIGHBOUR: 'it returns false'. Refute it at one input. -/
def fnExactVerifyWrong : ChangeSpec := { name := "fnExactVerify", fn := fun _ => fun
  | [d] => { results := [.lit (.bool false)], args := [d] }
  | _ => none }
def FnExactVerifyWrongFalsely : Prop := fnExactVerifyRow.holds Try.pinned (OpenSpec.ofChange fnExactVerifyWrong)

/-- 'laws.FnExactSaveCode': WHATEVER THE INPUT: true; the input reads as it did. -/
def fnExactSaveCodeSpec : ChangeSpec := { name := "fnExactSaveCode", fn := fun _ => fun
  | [d] => { results := [.lit (.bool true)], args := [d] }
  | _ => none }
def fnExactSaveCodeRow : OpenClaim := { program := "ytjhldpghbnjjmaa", sum := "e583bdada44cfb0f2f5c223a8784889de26a8d32420705d96f0cb196a74206d7", func := "loop.example/s08086/laws.FnExactSaveCode", spec := "fnExactSaveCode", inPlace := ["math.Float64bits"], unfollowed := true, recurses := true, apart := false }
def FnExactSaveCodeSaid : Prop := fnExactSaveCodeRow.holds Try.pinned (OpenSpec.ofChange fnExactSaveCodeSpec)

/-- ITS FALSE NEIGHBOUR: 'it returns false'. Refute it at one input. -/
def fnExactSaveCodeWrong : ChangeSpec := { name := "fnExactSaveCode", fn := fun _ => fun
  | [d] => { results := [.lit (.bool false)], args := [d] }
  | _ => none }
def FnExactSaveCodeWrongFalsely : Prop := fnExactSaveCodeRow.holds Try.pinned (OpenSpec.ofChange fnExactSaveCodeWrong)

/-- 'laws.FnExactGrad': WHATEVER THE INPUT: true; the input reads as it did. -/
def fnExactGradSpec : ChangeSpec := { name := "fnExactGrad", fn := fun _ => fun
  | [d1, d2, d3] => { results := [.lit (.bool true)], args := [d1, d2, d3] }
  | _ => none }
def fnExactGradRow : OpenClaim := { program := "ytjhldpghbnjjmaa", sum := "e583bdada44cfb0f2f5c223a8784889de26a8d32420705d96f0cb196a74206d7", func := "loop.example/s08086/laws.FnExactGrad", spec := "fnExactGrad", unfollowed := true, recurses := true, apart := false }
def FnExactGradSaid : Prop := fnExactGradRow.holds Try.pinned (OpenSpec.ofChange fnExactGradSpec)

/-- ITS FALSE NEIGHBOUR: 'it returns false'. Refute it at one input. -/
def fnExactGradWrong : ChangeSpec := { name := "fnExactGrad", fn := fun _ => fun
  | [d1, d2, d3] => { results := [.lit (.bool false)], args := [d1, d2, d3] }
  | _ => none }
def FnExactGradWrongFalsely : Prop := fnExactGradRow.holds Try.pinned (OpenSpec.ofChange fnExactGradWrong)

/-- 'laws.FnExactJvp': WHATEVER THE INPUT: true; the input reads as it did. -/
def fnExactJvpSpec : ChangeSpec := { name := "fnExactJvp", fn := fun _ => fun
  | [d1, d2, d3, d4] => { results := [.lit (.bool true)], args := [d1, d2, d3, d4] }
  | _ => none }
def fnExactJvpRow : OpenClaim := { program := "ytjhldpghbnjjmaa", sum := "e583bdada44cfb0f2f5c223a8784889de26a8d32420705d96f0cb196a74206d7", func := "loop.example/s08086/laws.FnExactJvp", spec := "fnExactJvp", unfollowed := true, recurses := true, apart := false }
def FnExactJvpSaid : Prop := fnExactJvpRow.holds Try.pinned (OpenSpec.ofChange fnExactJvpSpec)

/-- ITS FALSE NEIGHBOUR: 'it returns false'. Refute it at one input. -/
def fnExactJvpWrong : ChangeSpec := { name := "fnExactJvp", fn := fun _ => fun
  | [d1, d2, d3, d4] => { results := [.lit (.bool false)], args := [d1, d2, d3, d4] }
  | _ => none }
def FnExactJvpWrongFalsely : Prop := fnExactJvpRow.holds Try.pinned (OpenSpec.ofChange fnExactJvpWrong)

/-- 'laws.FnExactEval': WHATEVER THE INPUT: true; the input reads as it did. -/
def fnExactEvalSpec : ChangeSpec := { name := "fnExactEval", fn := fun _ => fun
  | [d1, d2] => { results := [.lit (.bool true)], args := [d1, d2] }
  | _ => none }
def fnExactEvalRow : OpenClaim := { program := "ytjhldpghbnjjmaa", sum := "e583bdada44cfb0f2f5c223a8784889de26a8d32420705d96f0cb196a74206d7", func := "loop.example/s08086/laws.FnExactEval", spec := "fnExactEval", inPlace := ["math.Float64frombits"], unfollowed := true, recurses := true, apart := false }
def FnExactEvalSaid : Prop := fnExactEvalRow.holds Try.pinned (OpenSpec.ofChange fnExactEvalSpec)

/-- ITS FALSE NEIGHBOUR: 'it returns false'. Refute it at one input. -/
def fnExactEvalWrong : ChangeSpec := { name := "fnExactEval", fn := fun _ => fun
  | [d1, d2] => { results := [.lit (.bool false)], args := [d1, d2] }
  | _ => none }
def FnExactEvalWrongFalsely : Prop := fnExactEvalRow.holds Try.pinned (OpenSpec.ofChange fnExactEvalWrong)

/-- 'laws.FnExactLoadCode': WHATEVER THE INPUT: true; the input reads as it did. -/
def fnExactLoadCodeSpec : ChangeSpec := { name := "fnExactLoadCode", fn := fun _ => fun
  | [d] => { results := [.lit (.bool true)], args := [d] }
  | _ => none }
def fnExactLoadCodeRow : OpenClaim := { program := "ytjhldpghbnjjmaa", sum := "e583bdada44cfb0f2f5c223a8784889de26a8d32420705d96f0cb196a74206d7", func := "loop.example/s08086/laws.FnExactLoadCode", spec := "fnExactLoadCode", inPlace := ["math.Float64frombits", "math.Float64bits"], unfollowed := true, recurses := true, apart := false }
def FnExactLoadCodeSaid : Prop := fnExactLoadCodeRow.holds Try.pinned (OpenSpec.ofChange fnExactLoadCodeSpec)

/-- ITS FALSE NEIGHBOUR: 'it returns false'. Refute it at one input. -/
def fnExactLoadCodeWrong : ChangeSpec := { name := "fnExactLoadCode", fn := fun _ => fun
  | [d] => { results := [.lit (.bool false)], args := [d] }
  | _ => none }
def FnExactLoadCodeWrongFalsely : Prop := fnExactLoadCodeRow.holds Try.pinned (OpenSpec.ofChange fnExactLoadCodeWrong)

/- THE SECOND FORM. 'bulk': how many values and letters a reading holds, each counted each time it is reached (what is shared counts as often as it is met; a slice's spare places count too). A statement '..UptoSaid' is the law's where the arguments, and the package variables that the reading takes, are together of bulk at most 1048576: NARROWER than '..Said'. Prove '..Said' where nothing that the law and all that it calls make is longer than what came in: it says more and counts as full. Else prove '..UptoSaid'. A law counts once. -/
mutual
def uptoBulk {H : Type} : DataW H → Nat
  | .lit (.string bytes) => bytes.length + 1
  | .lit _ => 1
  | .nil => 1
  | .ptr d => uptoBulk d + 1
  | .slice elems spare => uptoBulkAll elems + uptoBulkAll spare + 1
  | .agg parts => uptoBulkAll parts + 1
  | .iface _ d => uptoBulk d + 1
  | .map entries => uptoBulkEntries entries + 1
  | .held _ => 1
def uptoBulkAll {H : Type} : List (DataW H) → Nat
  | [] => 0
  | d :: r => uptoBulk d + uptoBulkAll r
def uptoBulkEntries {H : Type} : List (Lit × DataW H) → Nat
  | [] => 0
  | x :: r => uptoBulkEntry x + uptoBulkEntries r
def uptoBulkEntry {H : Type} : Lit × DataW H → Nat
  | (.string bytes, d) => bytes.length + uptoBulk d + 1
  | (_, d) => uptoBulk d + 1
 end
def uptoSmall : (H : Type) → List (DataW H) → Bool := fun _ ds => decide (uptoBulkAll ds ≤ 1048576)
def OpenSpec.upto (s : _root_.Go.ChangeSpec) : _root_.Go.OpenSpec := { _root_.Go.OpenSpec.ofChange s with cond := some uptoSmall }

/-- 'laws.FnExactVerify', WHERE WHAT IT READS IS OF BULK AT MOST 1048576: true; the input reads as it did. -/
def fnExactVerifyUptoRow : OpenClaim := { program := "ytjhldpghbnjjmaa", sum := "e583bdada44cfb0f2f5c223a8784889de26a8d32420705d96f0cb196a74206d7", func := "loop.example/s08086/laws.FnExactVerify", spec := "fnExactVerify", unfollowed := true, recurses := true, apart := false, narrowed := true }
def FnExactVerifyUptoSaid : Prop := fnExactVerifyUptoRow.holds Try.pinned (OpenSpec.upto fnExactVerifySpec)

/-- 'laws.FnExactSaveCode', WHERE WHAT IT READS IS OF BULK AT MOST 1048576: true; the input reads as it did. -/
def fnExactSaveCodeUptoRow : OpenClaim := { program := "ytjhldpghbnjjmaa", sum := "e583bdada44cfb0f2f5c223a8784889de26a8d32420705d96f0cb196a74206d7", func := "loop.example/s08086/laws.FnExactSaveCode", spec := "fnExactSaveCode", inPlace := ["math.Float64bits"], unfollowed := true, recurses := true, apart := false, narrowed := true }
def FnExactSaveCodeUptoSaid : Prop := fnExactSaveCodeUptoRow.holds Try.pinned (OpenSpec.upto fnExactSaveCodeSpec)

/-- 'laws.FnExactGrad', WHERE WHAT IT READS IS OF BULK AT MOST 1048576: true; the input reads as it did. -/
def fnExactGradUptoRow : OpenClaim := { program := "ytjhldpghbnjjmaa", sum := "e583bdada44cfb0f2f5c223a8784889de26a8d32420705d96f0cb196a74206d7", func := "loop.example/s08086/laws.FnExactGrad", spec := "fnExactGrad", unfollowed := true, recurses := true, apart := false, narrowed := true }
def FnExactGradUptoSaid : Prop := fnExactGradUptoRow.holds Try.pinned (OpenSpec.upto fnExactGradSpec)

/-- 'laws.FnExactJvp', WHERE WHAT IT READS IS OF BULK AT MOST 1048576: true; the input reads as it did. -/
def fnExactJvpUptoRow : OpenClaim := { program := "ytjhldpghbnjjmaa", sum := "e583bdada44cfb0f2f5c223a8784889de26a8d32420705d96f0cb196a74206d7", func := "loop.example/s08086/laws.FnExactJvp", spec := "fnExactJvp", unfollowed := true, recurses := true, apart := false, narrowed := true }
def FnExactJvpUptoSaid : Prop := fnExactJvpUptoRow.holds Try.pinned (OpenSpec.upto fnExactJvpSpec)

/-- 'laws.FnExactEval', WHERE WHAT IT READS IS OF BULK AT MOST 1048576: true; the input reads as it did. -/
def fnExactEvalUptoRow : OpenClaim := { program := "ytjhldpghbnjjmaa", sum := "e583bdada44cfb0f2f5c223a8784889de26a8d32420705d96f0cb196a74206d7", func := "loop.example/s08086/laws.FnExactEval", spec := "fnExactEval", inPlace := ["math.Float64frombits"], unfollowed := true, recurses := true, apart := false, narrowed := true }
def FnExactEvalUptoSaid : Prop := fnExactEvalUptoRow.holds Try.pinned (OpenSpec.upto fnExactEvalSpec)

/-- 'laws.FnExactLoadCode', WHERE WHAT IT READS IS OF BULK AT MOST 1048576: true; the input reads as it did. -/
def fnExactLoadCodeUptoRow : OpenClaim := { program := "ytjhldpghbnjjmaa", sum := "e583bdada44cfb0f2f5c223a8784889de26a8d32420705d96f0cb196a74206d7", func := "loop.example/s08086/laws.FnExactLoadCode", spec := "fnExactLoadCode", inPlace := ["math.Float64frombits", "math.Float64bits"], unfollowed := true, recurses := true, apart := false, narrowed := true }
def FnExactLoadCodeUptoSaid : Prop := fnExactLoadCodeUptoRow.holds Try.pinned (OpenSpec.upto fnExactLoadCodeSpec)

end Rows
end Go.Proofs.Ytjhldpghbnjjmaa
