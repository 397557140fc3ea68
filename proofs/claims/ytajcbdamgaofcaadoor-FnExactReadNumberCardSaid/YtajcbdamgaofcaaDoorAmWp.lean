/- The abstract machine's code: 'wpF'. Plain definitions; no condition. -/
import Derived.Test.YtajcbdamgaofcaaDoorAmRun
import Derived.StillTail
set_option linter.unusedVariables false
set_option linter.unusedSimpArgs false
namespace Go.Am

/-- A world's state stands for a walk's: the temporaries, the boxes of its own, the heap. -/
inductive TRel (π : List Nat) (ρ : Rho) : Value → Value → Prop
  | priv {k o B : Nat} (h : π[k]? = some B) : TRel π ρ (.pointer (some ⟨k, o, some 0⟩)) (.pointer (some ⟨B, o, none⟩))
  | pub {v v' : Value} (h : VRel ρ v v') : TRel π ρ v v'

structure BW (π : List Nat) (ρ : Rho) (own : Nat → Owner) (bx : List (List Value)) (H : Heap) (w : World) : Prop where
  hrel : HRel ρ own H w
  len : π.length = bx.length
  box : ∀ k cs, bx[k]? = some cs → ∃ B C T, π[k]? = some B ∧ own B = .priv k ∧ w.heap[B]? = some (.cells C T (0, 0)) ∧ VRels ρ cs C.toList
structure Base (N : Nat) (π : List Nat) (ρ : Rho) (own : Nat → Owner) (bx : List (List Value)) (H : Heap) (a : Act) (w : World) : Prop extends BW π ρ own bx H w where
  defers : a.defers = []
  size : a.tmps.size = N
structure Sim (N : Nat) (π : List Nat) (ρ : Rho) (own : Nat → Owner) (E : Env) (H : Heap) (a : Act) (w : World) : Prop extends Base N π ρ own E.boxes H a w where
  tmp : ∀ k v, lkT E.tmps k = some v → TRel π ρ v (a.tmps.getD k undef)

def XRel (ρ : Rho) : AExit → Exit → Prop
  | .normal, .normal => True
  | .exit i, .exit j => i = j
  | .ret, .ret => True
  | .pan v, .panic [⟨v', false, false⟩] => VRel ρ v v'
  | _, _ => False

/-- From every world that stands for this state the code comes to one that stands for a state of Q. -/
def W (P : Program) (N : Nat) (c : Code) (Q : AExit → Env → Heap → Prop) (E : Env) (H : Heap) : Prop :=
  ∀ (ρ0 : Rho) (own0 : Nat → Owner) (w0 : World) (π : List Nat) (ρ : Rho) (own : Nat → Owner) (a : Act) (w : World), NoPriv own0 → Guar ρ0 own0 w0 ρ own w → Sim N π ρ own E H a w →
    c.wp P (fun e a' w' => ∃ e' π' ρ' own' E' H', XRel ρ' e' e ∧ Q e' E' H' ∧ Guar ρ0 own0 w0 ρ' own' w' ∧ Sim N π' ρ' own' E' H' a' w') a w

structure LoopF (P : Program) (N : Nat) (c : Code) (Q : AExit → Env → Heap → Prop) (E : Env) (H : Heap) : Prop where
  run : W P N (.loop c) Q E H

/-- Which operations write a temporary: only this one. -/
def onlyOne (d j : Nat) : Nat → List Oper → Bool
  | _, [] => true
  | i, o :: r => (match o.dst with
    | some d' => (match Nat.beq d d', Nat.beq i j with
      | true, false => false
      | _, _ => onlyOne d j (i + 1) r)
    | none => onlyOne d j (i + 1) r)
/-- A test comes ahead of what hangs on it and is written once; every temporary is one of the N. -/
def gOKl (N : Nat) (ops : List Oper) : Nat → List Oper → Bool
  | _, [] => true
  | i, o :: r => (match (match o.dst with | some d => Nat.blt d N | none => true) with
    | false => false
    | true => (match o.guard with
      | none => gOKl N ops (i + 1) r
      | some (j, _) => (match Nat.blt j i, dstOf ops j with
        | true, some d => (match onlyOne d j 0 ops with | true => gOKl N ops (i + 1) r | false => false)
        | _, _ => false)))
def gOK (N : Nat) (ops : List Oper) : Bool := gOKl N ops 0 ops
def hitB (ops : Array Oper) (i j : Nat) : Bool :=
  match ops[i]?, ops[j]? with
  | some oi, some oj => (match oj.dst with
    | some d => (oi.looksAt ops).contains d
    | none => false)
  | _, _ => false
def sameDst (ops : Array Oper) (i j : Nat) : Bool :=
  match (ops[i]?).bind (·.dst), (ops[j]?).bind (·.dst) with
  | some d, some d' => d == d'
  | _, _ => false
/-- Where an operation stands in a plan: the phase; whether it is the phase's last, that need not leave the heap alone. -/
def findPl : Nat → Plan → Nat → Option (Nat × Bool)
  | _, [], _ => none
  | p, (q, e) :: r, i => (match memN i q with
    | true => some (p, false)
    | false => if e = some i then some (p, true) else findPl (p + 1) r i)
def sortedB : List Nat → Bool
  | [] => true
  | [_] => true
  | a :: b :: r => decide (a < b) && sortedB (b :: r)
def phaseB (ops : Array Oper) (pl : Plan) (p : Nat) : Bool :=
  match pl[p]? with
  | some (q, e) => sortedB q && (q.all fun i => decide (i < ops.size) && decide (findPl 0 pl i = some (p, false))) && (match e with
    | none => decide (p + 1 = pl.length)
    | some i => decide (i < ops.size) && decide (findPl 0 pl i = some (p, true)) && decide (p + 1 < pl.length) && (decide (p = 0) || ((List.range ops.size).all fun j => !decide (findPl 0 pl j = some (p - 1, true)) || Region.waitsFor .any ops i j)))
  | none => false
def depsB (pl : Plan) (o : Oper) (i p : Nat) (fx : Bool) : Bool := o.after.toList.all fun e => !Region.binds .any e || ((fx || decide (e.on < i)) && (match findPl 0 pl e.on with
  | some (p', fx') => decide (p' + fx'.toNat ≤ p)
  | none => false))
def tightB (pl : Plan) (o : Oper) (p : Nat) (fx : Bool) : Bool := fx || decide (p = 0) || (o.after.toList.any fun e => Region.binds .any e && (match findPl 0 pl e.on with
  | some (p', fx') => decide (p' + fx'.toNat = p)
  | none => false))
/-- All that operations of a list wait for, through others too. -/
def needL (ops : Array Oper) : Nat → List Nat → List Nat
  | 0, acc => acc
  | m + 1, acc => needL ops m (if acc.any (fun k => Region.waitsFor .any ops k m) then m :: acc else acc)
def pairB (ops : Array Oper) (pl : Plan) (late : List Nat) (i p : Nat) (fx : Bool) (j : Nat) : Bool :=
  (!hitB ops i j || (if j < i then Region.waitsFor .any ops i j else decide (i < j) && Region.waitsFor .any ops j i)) && (decide (i = j) || !sameDst ops i j) &&
  (fx || memN i late || (match findPl 0 pl j with
    | some (k, true) => !decide (p ≤ k) || (decide (i ≠ j) && (needL ops j [j]).contains i)
    | _ => true))
/-- A store waits for all that may be late, but for what reads no box (100000 and its number stand in 'late' then). -/
def storeB (ops : Array Oper) (pl : Plan) (late : List Nat) (i p : Nat) : Bool := late.all fun j => (match findPl 0 pl j with
  | some (q, false) => !decide (q ≤ p) || (decide (j ≠ i) && (needL ops i [i]).contains j) || memN (j + 100000) late
  | _ => true)
/-- It waits for all that may be late and looks up the heap (200000 and its number stand in 'late' then). -/
def allB (ops : Array Oper) (pl : Plan) (late : List Nat) (i p : Nat) : Bool := late.all fun j => (match findPl 0 pl j with
  | some (q, false) => !decide (q ≤ p) || (match ops[j]? with | some o => noHp o.op | none => true) || (decide (j ≠ i) && (needL ops i [i]).contains j)
  | _ => true)
def planOp (ops : Array Oper) (pl : Plan) (late : List Nat) (i : Nat) : Bool :=
  match findPl 0 pl i, ops[i]? with
  | some (p, fx), some o => depsB pl o i p fx && tightB pl o p fx && ((List.range ops.size).all fun j => pairB ops pl late i p fx j) && (!fx || !isStore o.op || storeB ops pl late i p) && (!fx || !memN (i + 200000) late || allB ops pl late i p)
  | _, _ => false
/-- Whatever order is drawn, it comes to the plan's. -/
def planOK (ops : Array Oper) (pl : Plan) (late : List Nat) : Bool :=
  decide (0 < pl.length) && ((List.range pl.length).all fun p => phaseB ops pl p) && ((List.range ops.size).all fun i => planOp ops pl late i)

/-- One operation waits for another besides. -/
def addL : List Oper → Nat → Nat → List Oper
  | [], _, _ => []
  | o :: r, 0, y => { o with after := o.after.push ⟨y, .phase⟩ } :: r
  | o :: r, x + 1, y => o :: addL r x y
def addE (ops : Array Oper) (x y : Nat) : Array Oper := ⟨addL ops.toList x y⟩
/-- A region's orders: by one plan, or by those in which one operation waits for another and those in which the other waits for the one. -/
inductive DT where
  | leaf (pl : Plan) (late : List Nat)
  | leafS (pl : Plan) (late : List Nat)
  | split (x y : Nat) (a b : DT)
def DT.ok (N : Nat) (ops : Array Oper) : DT → Bool
  | .leaf pl late => gOK N ops.toList && planOK ops pl late
  | .leafS pl late => gOK N ops.toList && planOK ops pl late
  | .split x y a b => decide (x ≠ y) && decide (x < ops.size) && decide (y < ops.size) && DT.ok N (addE ops x y) a && DT.ok N (addE ops y x) b
def evalC (E : Env) : Operand → Option Value
  | .tmp t => lkT E.tmps t
  | .const v => some v
  | _ => none

/-- Less is known in E than in E'. -/
def privLt (m : Nat) (v : Value) : Prop := match v with
  | .pointer (some ⟨k, _, some _⟩) => Nat.blt k m = true
  | _ => True
def wkT (ts : List (Nat × Value)) (m : Nat) : List (Nat × Value) → Prop
  | [] => True
  | (k, v) :: r => lkT ts k = some v ∧ privLt m v ∧ wkT ts m r
def wkB : List (List Value) → List (List Value) → Prop
  | [], _ => True
  | a :: r, b :: s => a = b ∧ wkB r s
  | _ :: _, [] => False
def wk (E E' : Env) : Prop := wkT E'.tmps (lenN E.boxes) E.tmps ∧ wkB E.boxes E'.boxes

/-- A function's results. -/
def resVal (T : Tab) (H : Heap) (E : Env) : ResultVar → Option Value
  | .tmp t => (match lkT E.tmps t with
    | some v => (match isPub v with | true => some v | false => none)
    | none => none)
  | .cell a t => (match lkT E.tmps a, T t with
    | some (.pointer (some ⟨k, o, some _⟩)), some i => (match loadA H E.boxes i (.pointer (some ⟨k, o, some 0⟩)) with
      | .val v => (match isPub v with | true => some v | false => none)
      | _ => none)
    | _, _ => none)
def resVals (T : Tab) (H : Heap) (E : Env) : List ResultVar → Option (List Value)
  | [] => some []
  | r :: rs => (match resVal T H E r, resVals T H E rs with
    | some v, some vs => some (v :: vs)
    | _, _ => none)
def tupV : List Value → Value
  | [v] => v
  | vs => .tuple vs.toArray
def retQ (T : Tab) (rv : List ResultVar) (R : AEnd → Heap → Prop) : AExit → Env → Heap → Prop
  | .normal, E, H => (match resVals T H E rv with
    | some vs => R (.ret (tupV vs)) H
    | none => False)
  | .ret, E, H => (match resVals T H E rv with
    | some vs => R (.ret (tupV vs)) H
    | none => False)
  | .pan v, _, H => R (.pan v) H
  | .exit _, _, _ => False
/-- A function's arguments in its first temporaries. -/
def argsT : Nat → List Value → List (Nat × Value)
  | _, [] => []
  | k, v :: r => (k, v) :: argsT (k + 1) r

def treeF (P : Program) (T : Tab) (C : CTab) (pv : Nat → Bool) (Qp : Value → Heap → Prop) (K : RS → Heap → Prop) (E : Env) (H : Heap) (ops : Array Oper) : DT → Prop
  | .leaf pl late => phasesF P T C pv none ops.toList late Qp K pl false ⟨[], E⟩ H
  | .leafS pl late => ∃ S, phasesF P T C pv (some S) ops.toList late Qp K pl false ⟨[], E⟩ H
  | .split x y a b => treeF P T C pv Qp K E H (addE ops x y) a ∧ treeF P T C pv Qp K E H (addE ops y x) b
def wpF (P : Program) (T : Tab) (C : CTab) (pv : Nat → Bool) (N : Nat) : Code → (AExit → Env → Heap → Prop) → Env → Heap → Prop
  | .skip, Q, E, H => Q .normal E H
  | .region _ ops d, Q, E, H => (match gOK N ops.toList, d with
    | true, false => opsF P T C pv ops.toList (fun v H' => Q (.pan v) ⟨[], []⟩ H') (fun rs H' => Q .normal rs.flush H') ops.toList ⟨[], E⟩ H
    | true, true => ∃ t, DT.ok N ops t = true ∧ treeF P T C pv (fun v H' => Q (.pan v) ⟨[], []⟩ H') (fun rs H' => Q .normal rs.flush H') E H ops t
    | false, _ => False)
  | .seq a b, Q, E, H => wpF P T C pv N a (AExit.then (wpF P T C pv N b Q) Q) E H
  | .cond c x y, Q, E, H => (match evalC E c with
    | some (.bool t) => (t = true → wpF P T C pv N x Q E H) ∧ (t = false → wpF P T C pv N y Q E H)
    | _ => False)
  | .block id c, Q, E, H => wpF P T C pv N c (AExit.inBlock id Q) E H
  | .loop c, Q, E, H => LoopF P N c Q E H
  | .exit id, Q, E, H => Q (.exit id) E H
  | .ret, Q, E, H => Q .ret E H
  | _, _, _, _ => False
end Go.Am
