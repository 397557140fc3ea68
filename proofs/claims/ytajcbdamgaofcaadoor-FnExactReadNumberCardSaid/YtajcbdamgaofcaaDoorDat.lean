/- The data of the program, and the laws' helpers over whole numbers, values and graphs. Conditions: lists of at most 2^20 elements where one is made. -/
import Derived.Test.YtajcbdamgaofcaaDoorTabs
import Derived.Test.YtajcbdamgaofcaaDoorAmLib
set_option linter.unusedVariables false
set_option linter.unusedSimpArgs false
namespace Go.Proofs.YtajcbdamgaofcaaDoor
open Go.Am

structure Val where
  op : Int
  len : Int
  a : Int
  b : Int
  c : Int
  k : Nat
  deriving DecidableEq, Inhabited
structure Graph where
  ins : List Int
  vals : List Val
  outs : List Int
  deriving DecidableEq, Inhabited

abbrev vcells (v : Val) : List Value := [.int .i64 v.op, .int .i64 v.len, .int .i64 v.a, .int .i64 v.b, .int .i64 v.c, .float .f64 v.k]
abbrev valV (v : Val) : Value := .agg #[.int .i64 v.op, .int .i64 v.len, .int .i64 v.a, .int .i64 v.b, .int .i64 v.c, .float .f64 v.k]
def dVal : Enc Val := ⟨6, by decide, vcells, fun _ => rfl⟩
/-- A graph's value: its three slices. -/
abbrev gV (p q r : Option Addr) (g : Graph) : Value := .agg #[sv p g.ins, sv q g.vals, sv r g.outs]
structure RdG (H : Heap) (p q r : Option Addr) (g : Graph) : Prop where
  ins : Rd dInt H p g.ins
  vals : Rd dVal H q g.vals
  outs : Rd dInt H r g.outs
theorem RdG.mono {H H' : Heap} {p q r : Option Addr} {g : Graph} (h : RdG H p q r g) (e : Ext H H') : RdG H' p q r g := ⟨h.ins.mono e, h.vals.mono e, h.outs.mono e⟩
/-- A value of a slice of values is read. -/
theorem _root_.Go.Am.Rd.val {H : Heap} {a : Option Addr} {xs : List Val} (h : Rd dVal H a xs) {i : Nat} {x : Val} (hx : xs[i]? = some x) : ∃ b off, a = some ⟨b, off, none⟩ ∧ H.aggAt b (off + i * 6) 6 (valV x) := h.run hx
theorem _root_.Go.Am.Rd.valF {H : Heap} {a : Option Addr} {xs : List Val} (h : Rd dVal H a xs) {i : Nat} {x : Val} (hx : xs[i]? = some x) : ∃ b off, a = some ⟨b, off, none⟩ ∧ H.cell? b (off + i * 6) = some (.int .i64 x.op) ∧ H.cell? b (off + i * 6 + 1) = some (.int .i64 x.len) ∧ H.cell? b (off + i * 6 + 2) = some (.int .i64 x.a) ∧
    H.cell? b (off + i * 6 + 3) = some (.int .i64 x.b) ∧ H.cell? b (off + i * 6 + 4) = some (.int .i64 x.c) ∧ H.cell? b (off + i * 6 + 5) = some (.float .f64 x.k) := by
  obtain ⟨b, off, h1, h2⟩ := h.run hx
  refine ⟨b, off, h1, ?_⟩
  have key : ∀ j u, (vcells x)[j]? = some u → H.cell? b (off + i * 6 + j) = some u := fun j u hj => by
    unfold Heap.run? at h2
    unfold Heap.cell?
    split at h2
    · split at h2
      · have h2 := Option.some.inj h2
        have h2' : (dVal.enc x)[j]? = some u := hj
        rw [← h2, List.getElem?_take] at h2'
        split at h2'
        · rw [List.getElem?_drop] at h2'; exact h2'
        · cases h2'
      · cases h2
    · cases h2
  exact ⟨key 0 _ rfl, key 1 _ rfl, key 2 _ rfl, key 3 _ rfl, key 4 _ rfl, key 5 _ rfl⟩

theorem pret {v v' : Value} {H : Heap} (h : v = v') : AEnd.ret v = .ret v' ∧ H = H := ⟨congrArg _ h, rfl⟩
theorem pbool {b b' : Bool} {H : Heap} (h : b = b') : AEnd.ret (.bool b) = .ret (.bool b') ∧ H = H := pret (congrArg _ h)
theorem pint {k : IntKind} {x y : Int} {H : Heap} (h : x = y) : AEnd.ret (.int k x) = .ret (.int k y) ∧ H = H := pret (congrArg _ h)

theorem sameFloat_pc (x y : Nat) (H : Heap) : PC Tryd.prog 7 [.float .f64 x, .float .f64 y] H (.bool (x == y)) :=
  PC_of_calls Tryd.func7 rfl rfl (fun ρ cargs w h => by
    cases h with
    | cons h1 h => cases h with
      | cons h2 h =>
        cases h
        cases h1 with
        | float i1 => cases h2 with
          | float i2 => exact (sameFloat_any _ _ w i1.lt i2.lt).mono fun e w' ⟨h1, h2⟩ => ⟨_, h1, by unfold feq; rw [i1.eq, i2.eq]; exact .bool _, by rw [h2]; rfl⟩) H

/-! int -/
/-! values -/
/-! graphs -/
def pushL {α : Type} (d : Enc α) (H : Heap) (xs : List α) : Heap := H.push (.cells (flat d xs) d.sz true)
def szG (g : Graph) (left : Int) : Int :=
  let l1 := left - g.ins.length
  let l2 := l1 - g.vals.length
  let l3 := l2 - g.outs.length
  if l1 < 0 ∨ l2 < 0 ∨ l3 < 0 then -1 else l3
end Go.Proofs.YtajcbdamgaofcaaDoor
