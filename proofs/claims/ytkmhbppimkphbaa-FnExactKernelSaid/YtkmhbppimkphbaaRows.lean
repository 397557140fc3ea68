/-
  No cell of these rows narrows 'for every input' (looked for: loops, veiled, ifaces, maps, wideKeys, modest, calm, conditions, laid).
  DERIVED. THE GIVEN ROWS OF THIS SEAT. 8 by the template 'for every input the law returns true; each argument reads behind the call as it read before'; 0 by the template 'total and deterministic' (their statements: YtkmhbppimkphbaaTotals.lean).
  GIVEN WITH THE SEED: the statements are not yours to turn. If you find one false, say at which input.
  Laid BY PROGRAM, IN A SANDBOX (cutbox-rows.mjs): the forced cells as the released guide's own fill.sh prints them over the translation af364c993e368dab… (all of the seat's roots in one cut). By AI agents, Wed Nov 11 2026. No macro, syntax, notation, axiom, sorry.
-/
import Derived.Test.YtkmhbppimkphbaaChecked
import GoSem.Claim
import GoSem.ClaimJoined
import GoSem.ClaimMapViews
import Derived.JoinedTies
import Derived.KernelRfl
namespace Go.Proofs.Ytkmhbppimkphbaa
/- THE CELL 'sum', in the pinned program and in every row, IS THE sha256 OF THE DUMP (.gsa) THAT YtkmhbppimkphbaaProg.lean LOADS. Nothing in Lean hashes anything: it is a label: what it is worth is what the hold of that sum in a sandbox is worth. -/
noncomputable def Try.pinned : Pinned := { name := "ytkmhbppimkphbaa", sum := "af364c993e368dab6c5572c55bf09804d14769ed704ccf3aa029d2804afe49b5", checked := Try.checked }
namespace Rows
def none {H : Type} : Left H := { results := [], args := [] }

/-- 'laws.FnExactConstants': WHATEVER THE INPUT: true; the input reads as it did. -/
def fnExactConstantsSpec : ChangeSpec := { name := "fnExactConstants", fn := fun _ => fun
  | [] => { results := [.lit (.bool true)], args := [] }
  | _ => none }
def fnExactConstantsRow : OpenClaim := { program := "ytkmhbppimkphbaa", sum := "af364c993e368dab6c5572c55bf09804d14769ed704ccf3aa029d2804afe49b5", func := "loop.example/s08086/laws.FnExactConstants", spec := "fnExactConstants", apart := false }
def FnExactConstantsSaid : Prop := fnExactConstantsRow.holds Try.pinned (OpenSpec.ofChange fnExactConstantsSpec)

/-- ITS FALSE NEIGHBOUR: 'it returns false'. Refute it at one input. -/
def fnExactConstantsWrong : ChangeSpec := { name := "fnExactConstants", fn := fun _ => fun
  | [] => { results := [.lit (.bool false)], args := [] }
  | _ => none }
def FnExactConstantsWrongFalsely : Prop := fnExactConstantsRow.holds Try.pinned (OpenSpec.ofChange fnExactConstantsWrong)

/-- 'laws.FnExactSameFloat': WHATEVER THE INPUT: true; the input reads as it did. -/
def fnExactSameFloatSpec : ChangeSpec := { name := "fnExactSameFloat", fn := fun _ => fun
  | [d1, d2] => { results := [.lit (.bool true)], args := [d1, d2] }
  | _ => none }
def fnExactSameFloatRow : OpenClaim := { program := "ytkmhbppimkphbaa", sum := "af364c993e368dab6c5572c55bf09804d14769ed704ccf3aa029d2804afe49b5", func := "loop.example/s08086/laws.FnExactSameFloat", spec := "fnExactSameFloat", inPlace := ["math.Float64bits"], apart := false }
def FnExactSameFloatSaid : Prop := fnExactSameFloatRow.holds Try.pinned (OpenSpec.ofChange fnExactSameFloatSpec)

/-- ITS FALSE NEIGHBOUR: 'it returns false'. Refute it at one input. -/
def fnExactSameFloatWrong : ChangeSpec := { name := "fnExactSameFloat", fn := fun _ => fun
  | [d1, d2] => { results := [.lit (.bool false)], args := [d1, d2] }
  | _ => none }
def FnExactSameFloatWrongFalsely : Prop := fnExactSameFloatRow.holds Try.pinned (OpenSpec.ofChange fnExactSameFloatWrong)

/-- 'laws.FnExactFloatFrom': WHATEVER THE INPUT: true; the input reads as it did. -/
def fnExactFloatFromSpec : ChangeSpec := { name := "fnExactFloatFrom", fn := fun _ => fun
  | [d] => { results := [.lit (.bool true)], args := [d] }
  | _ => none }
def fnExactFloatFromRow : OpenClaim := { program := "ytkmhbppimkphbaa", sum := "af364c993e368dab6c5572c55bf09804d14769ed704ccf3aa029d2804afe49b5", func := "loop.example/s08086/laws.FnExactFloatFrom", spec := "fnExactFloatFrom", inPlace := ["math.Float64frombits"], apart := false }
def FnExactFloatFromSaid : Prop := fnExactFloatFromRow.holds Try.pinned (OpenSpec.ofChange fnExactFloatFromSpec)

/-- ITS FALSE NEIGHBOUR: 'it returns false'. Refute it at one input. -/
def fnExactFloatFromWrong : ChangeSpec := { name := "fnExactFloatFrom", fn := fun _ => fun
  | [d] => { results := [.lit (.bool false)], args := [d] }
  | _ => none }
def FnExactFloatFromWrongFalsely : Prop := fnExactFloatFromRow.holds Try.pinned (OpenSpec.ofChange fnExactFloatFromWrong)

/-- 'laws.FnExactFloatBits': WHATEVER THE INPUT: true; the input reads as it did. -/
def fnExactFloatBitsSpec : ChangeSpec := { name := "fnExactFloatBits", fn := fun _ => fun
  | [d] => { results := [.lit (.bool true)], args := [d] }
  | _ => none }
def fnExactFloatBitsRow : OpenClaim := { program := "ytkmhbppimkphbaa", sum := "af364c993e368dab6c5572c55bf09804d14769ed704ccf3aa029d2804afe49b5", func := "loop.example/s08086/laws.FnExactFloatBits", spec := "fnExactFloatBits", inPlace := ["math.Float64bits"], apart := false }
def FnExactFloatBitsSaid : Prop := fnExactFloatBitsRow.holds Try.pinned (OpenSpec.ofChange fnExactFloatBitsSpec)

/-- ITS FALSE NEIGHBOUR: 'it returns false'. Refute it at one input. -/
def fnExactFloatBitsWrong : ChangeSpec := { name := "fnExactFloatBits", fn := fun _ => fun
  | [d] => { results := [.lit (.bool false)], args := [d] }
  | _ => none }
def FnExactFloatBitsWrongFalsely : Prop := fnExactFloatBitsRow.holds Try.pinned (OpenSpec.ofChange fnExactFloatBitsWrong)

/-- 'laws.FnExactExpFloat': WHATEVER THE INPUT: true; the input reads as it did. -/
def fnExactExpFloatSpec : ChangeSpec := { name := "fnExactExpFloat", fn := fun _ => fun
  | [d] => { results := [.lit (.bool true)], args := [d] }
  | _ => none }
def fnExactExpFloatRow : OpenClaim := { program := "ytkmhbppimkphbaa", sum := "af364c993e368dab6c5572c55bf09804d14769ed704ccf3aa029d2804afe49b5", func := "loop.example/s08086/laws.FnExactExpFloat", spec := "fnExactExpFloat", inPlace := ["math.Float64frombits"], recurses := true, apart := false }
def FnExactExpFloatSaid : Prop := fnExactExpFloatRow.holds Try.pinned (OpenSpec.ofChange fnExactExpFloatSpec)

/-- ITS FALSE NEIGHBOUR: 'it returns false'. Refute it at one input. -/
def fnExactExpFloatWrong : ChangeSpec := { name := "fnExactExpFloat", fn := fun _ => fun
  | [d] => { results := [.lit (.bool false)], args := [d] }
  | _ => none }
def FnExactExpFloatWrongFalsely : Prop := fnExactExpFloatRow.holds Try.pinned (OpenSpec.ofChange fnExactExpFloatWrong)

/-- 'laws.FnFloat': WHATEVER THE INPUT: true; the input reads as it did. -/
def fnFloatSpec : ChangeSpec := { name := "fnFloat", fn := fun _ => fun
  | [d] => { results := [.lit (.bool true)], args := [d] }
  | _ => none }
def fnFloatRow : OpenClaim := { program := "ytkmhbppimkphbaa", sum := "af364c993e368dab6c5572c55bf09804d14769ed704ccf3aa029d2804afe49b5", func := "loop.example/s08086/laws.FnFloat", spec := "fnFloat", inPlace := ["math.Float64bits", "math.Float64frombits"], apart := false }
def FnFloatSaid : Prop := fnFloatRow.holds Try.pinned (OpenSpec.ofChange fnFloatSpec)

/-- ITS FALSE NEIGHBOUR: 'it returns false'. Refute it at one input. -/
def fnFloatWrong : ChangeSpec := { name := "fnFloat", fn := fun _ => fun
  | [d] => { results := [.lit (.bool false)], args := [d] }
  | _ => none }
def FnFloatWrongFalsely : Prop := fnFloatRow.holds Try.pinned (OpenSpec.ofChange fnFloatWrong)

/-- 'laws.FnExactValidGraph': WHATEVER THE INPUT: true; the input reads as it did. -/
def fnExactValidGraphSpec : ChangeSpec := { name := "fnExactValidGraph", fn := fun _ => fun
  | [d] => { results := [.lit (.bool true)], args := [d] }
  | _ => none }
def fnExactValidGraphRow : OpenClaim := { program := "ytkmhbppimkphbaa", sum := "af364c993e368dab6c5572c55bf09804d14769ed704ccf3aa029d2804afe49b5", func := "loop.example/s08086/laws.FnExactValidGraph", spec := "fnExactValidGraph", apart := false }
def FnExactValidGraphSaid : Prop := fnExactValidGraphRow.holds Try.pinned (OpenSpec.ofChange fnExactValidGraphSpec)

/-- ITS FALSE NEIGHBOUR: 'it returns false'. Refute it at one input. -/
def fnExactValidGraphWrong : ChangeSpec := { name := "fnExactValidGraph", fn := fun _ => fun
  | [d] => { results := [.lit (.bool false)], args := [d] }
  | _ => none }
def FnExactValidGraphWrongFalsely : Prop := fnExactValidGraphRow.holds Try.pinned (OpenSpec.ofChange fnExactValidGraphWrong)

/-- 'laws.FnExactKernel': WHATEVER THE INPUT: true; the input reads as it did. -/
def fnExactKernelSpec : ChangeSpec := { name := "fnExactKernel", fn := fun _ => fun
  | [d1, d2, d3, d4] => { results := [.lit (.bool true)], args := [d1, d2, d3, d4] }
  | _ => none }
def fnExactKernelRow : OpenClaim := { program := "ytkmhbppimkphbaa", sum := "af364c993e368dab6c5572c55bf09804d14769ed704ccf3aa029d2804afe49b5", func := "loop.example/s08086/laws.FnExactKernel", spec := "fnExactKernel", inPlace := ["math.Float64frombits"], unfollowed := true, recurses := true, apart := false }
def FnExactKernelSaid : Prop := fnExactKernelRow.holds Try.pinned (OpenSpec.ofChange fnExactKernelSpec)

/-- ITS FALSE NEIGHBOUR: 'it returns false'. Refute it at one input. -/
def fnExactKernelWrong : ChangeSpec := { name := "fnExactKernel", fn := fun _ => fun
  | [d1, d2, d3, d4] => { results := [.lit (.bool false)], args := [d1, d2, d3, d4] }
  | _ => none }
def FnExactKernelWrongFalsely : Prop := fnExactKernelRow.holds Try.pinned (OpenSpec.ofChange fnExactKernelWrong)

/- THE SECOND FORM. 'bulk': how many values and letters a reading holds, each counted each time it is reached (what is shared counts as often as it is met; a slice's spare places count too). A statement '..UptoSaid' is the law's where the arguments, and the package variables that the reading takes, are together of bulk at most 1048576: NARROWER than '..Said'. Prove '..Said' where nothing that the law and all that it calls make is longer than what came in: it says more and counts as full. Else prove '..UptoSaid'. A law counts once. -/
mutual
def uptoBulk {H : Type} : DataW H → Nat
  | .lit (.string bytes) => bytes.length + 1
  | .lit _ => 1
  | .nil => 1
  | .ptr d => uptoBulk d + 1
  | .slice elems spare => uptoBulkAll elems + uptoBulkAll spare + 1
  | .agg parts => uptoBulkAll parts + 1
  | .iface _ d => uptoBulk d + 1
  | .map entries => uptoBulkEntries entries + 1
  | .held _ => 1
def uptoBulkAll {H : Type} : List (DataW H) → Nat
  | [] => 0
  | d :: r => uptoBulk d + uptoBulkAll r
def uptoBulkEntries {H : Type} : List (Lit × DataW H) → Nat
  | [] => 0
  | x :: r => uptoBulkEntry x + uptoBulkEntries r
def uptoBulkEntry {H : Type} : Lit × DataW H → Nat
  | (.string bytes, d) => bytes.length + uptoBulk d + 1
  | (_, d) => uptoBulk d + 1
 end
def uptoSmall : (H : Type) → List (DataW H) → Bool := fun _ ds => decide (uptoBulkAll ds ≤ 1048576)
def OpenSpec.upto (s : _root_.Go.ChangeSpec) : _root_.Go.OpenSpec := { _root_.Go.OpenSpec.ofChange s with cond := some uptoSmall }

/-- 'laws.FnExactConstants', WHERE WHAT IT READS IS OF BULK AT MOST 1048576: true; the input reads as it did. -/
def fnExactConstantsUptoRow : OpenClaim := { program := "ytkmhbppimkphbaa", sum := "af364c993e368dab6c5572c55bf09804d14769ed704ccf3aa029d2804afe49b5", func := "loop.example/s08086/laws.FnExactConstants", spec := "fnExactConstants", apart := false, narrowed := true }
def FnExactConstantsUptoSaid : Prop := fnExactConstantsUptoRow.holds Try.pinned (OpenSpec.upto fnExactConstantsSpec)

/-- 'laws.FnExactSameFloat', WHERE WHAT IT READS IS OF BULK AT MOST 1048576: true; the input reads as it did. -/
def fnExactSameFloatUptoRow : OpenClaim := { program := "ytkmhbppimkphbaa", sum := "af364c993e368dab6c5572c55bf09804d14769ed704ccf3aa029d2804afe49b5", func := "loop.example/s08086/laws.FnExactSameFloat", spec := "fnExactSameFloat", inPlace := ["math.Float64bits"], apart := false, narrowed := true }
def FnExactSameFloatUptoSaid : Prop := fnExactSameFloatUptoRow.holds Try.pinned (OpenSpec.upto fnExactSameFloatSpec)

/-- 'laws.FnExactFloatFrom', WHERE WHAT IT READS IS OF BULK AT MOST 1048576: true; the input reads as it did. -/
def fnExactFloatFromUptoRow : OpenClaim := { program := "ytkmhbppimkphbaa", sum := "af364c993e368dab6c5572c55bf09804d14769ed704ccf3aa029d2804afe49b5", func := "loop.example/s08086/laws.FnExactFloatFrom", spec := "fnExactFloatFrom", inPlace := ["math.Float64frombits"], apart := false, narrowed := true }
def FnExactFloatFromUptoSaid : Prop := fnExactFloatFromUptoRow.holds Try.pinned (OpenSpec.upto fnExactFloatFromSpec)

/-- 'laws.FnExactFloatBits', WHERE WHAT IT READS IS OF BULK AT MOST 1048576: true; the input reads as it did. -/
def fnExactFloatBitsUptoRow : OpenClaim := { program := "ytkmhbppimkphbaa", sum := "af364c993e368dab6c5572c55bf09804d14769ed704ccf3aa029d2804afe49b5", func := "loop.example/s08086/laws.FnExactFloatBits", spec := "fnExactFloatBits", inPlace := ["math.Float64bits"], apart := false, narrowed := true }
def FnExactFloatBitsUptoSaid : Prop := fnExactFloatBitsUptoRow.holds Try.pinned (OpenSpec.upto fnExactFloatBitsSpec)

/-- 'laws.FnExactExpFloat', WHERE WHAT IT READS IS OF BULK AT MOST 1048576: true; the input reads as it did. -/
def fnExactExpFloatUptoRow : OpenClaim := { program := "ytkmhbppimkphbaa", sum := "af364c993e368dab6c5572c55bf09804d14769ed704ccf3aa029d2804afe49b5", func := "loop.example/s08086/laws.FnExactExpFloat", spec := "fnExactExpFloat", inPlace := ["math.Float64frombits"], recurses := true, apart := false, narrowed := true }
def FnExactExpFloatUptoSaid : Prop := fnExactExpFloatUptoRow.holds Try.pinned (OpenSpec.upto fnExactExpFloatSpec)

/-- 'laws.FnFloat', WHERE WHAT IT READS IS OF BULK AT MOST 1048576: true; the input reads as it did. -/
def fnFloatUptoRow : OpenClaim := { program := "ytkmhbppimkphbaa", sum := "af364c993e368dab6c5572c55bf09804d14769ed704ccf3aa029d2804afe49b5", func := "loop.example/s08086/laws.FnFloat", spec := "fnFloat", inPlace := ["math.Float64bits", "math.Float64frombits"], apart := false, narrowed := true }
def FnFloatUptoSaid : Prop := fnFloatUptoRow.holds Try.pinned (OpenSpec.upto fnFloatSpec)

/-- 'laws.FnExactValidGraph', WHERE WHAT IT READS IS OF BULK AT MOST 1048576: true; the input reads as it did. -/
def fnExactValidGraphUptoRow : OpenClaim := { program := "ytkmhbppimkphbaa", sum := "af364c993e368dab6c5572c55bf09804d14769ed704ccf3aa029d2804afe49b5", func := "loop.example/s08086/laws.FnExactValidGraph", spec := "fnExactValidGraph", apart := false, narrowed := true }
def FnExactValidGraphUptoSaid : Prop := fnExactValidGraphUptoRow.holds Try.pinned (OpenSpec.upto fnExactValidGraphSpec)

/-- 'laws.FnExactKernel', WHERE WHAT IT READS IS OF BULK AT MOST 1048576: true; the input reads as it did. -/
def fnExactKernelUptoRow : OpenClaim := { program := "ytkmhbppimkphbaa", sum := "af364c993e368dab6c5572c55bf09804d14769ed704ccf3aa029d2804afe49b5", func := "loop.example/s08086/laws.FnExactKernel", spec := "fnExactKernel", inPlace := ["math.Float64frombits"], unfollowed := true, recurses := true, apart := false, narrowed := true }
def FnExactKernelUptoSaid : Prop := fnExactKernelUptoRow.holds Try.pinned (OpenSpec.upto fnExactKernelSpec)

end Rows
end Go.Proofs.Ytkmhbppimkphbaa
