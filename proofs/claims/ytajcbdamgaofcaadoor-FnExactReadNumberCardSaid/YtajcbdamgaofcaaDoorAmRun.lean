/- The abstract machine's steps, as a predicate that computes: 'wpF'. Plain definitions; no condition. -/
import Derived.Test.YtajcbdamgaofcaaDoorAmCore
set_option linter.unusedVariables false
set_option linter.unusedSimpArgs false
namespace Go.Am
open FlCore
open Go.Proofs.YtajcbdamgaofcaaDoor (Is fop)

def lk {α : Type} : List (Nat × α) → Nat → Option α
  | [], _ => none
  | (i, x) :: r, k => match Nat.beq i k with
    | true => some x
    | false => lk r k

/-- A temporary that is known: '.chan' stands for what is not known. -/
def lkT (ts : List (Nat × Value)) (k : Nat) : Option Value :=
  match lk ts k with
  | some (.chan _) => none
  | some v => some v
  | none => none
structure Env where
  tmps : List (Nat × Value)
  boxes : List (List Value)

abbrev Path := List (Nat × Bool)
/-- What a temporary holds inside a region: a value, under the tests that lead to it; c: they have come out so. -/
structure Ent where
  v : Value
  p : Path
  c : Bool
structure RS where
  loc : List (Nat × Ent)
  env : Env

def RS.put (rs : RS) : Option Tmp → Ent → RS
  | none, _ => rs
  | some d, e => ⟨(d, e) :: rs.loc, rs.env⟩
def RS.flushL : List (Nat × Ent) → List (Nat × Value) → List (Nat × Value)
  | [], ts => ts
  | (d, e) :: r, ts => (match e.p with
    | [] => (d, e.v) :: RS.flushL r ts
    | _ :: _ => (d, .chan none) :: RS.flushL r ts)
def RS.flush (rs : RS) : Env := ⟨RS.flushL rs.loc rs.env.tmps, rs.env.boxes⟩

def eqB (a b : Bool) : Bool := match a, b with
  | true, true => true
  | false, false => true
  | _, _ => false
def eqP : Path → Path → Bool
  | [], [] => true
  | (i, a) :: p, (j, b) :: q => match Nat.beq i j with
    | true => (match eqB a b with | true => eqP p q | false => false)
    | false => false
  | _, _ => false
/-- p is an end of q. -/
def sufx (p : Path) : Path → Bool
  | [] => (match p with | [] => true | _ => false)
  | y :: q => (match eqP p (y :: q) with | true => true | false => sufx p q)

def constOK (v : Value) : Bool := match v with
  | .bool _ | .int _ _ | .string _ | .pointer none | .nilFunc | .nilIface | .map none => true
  | .slice none 0 0 => true
  | .float .f64 b => Nat.blt b 18446744073709551616 && Nat.ble (b % 9223372036854775808) 9218868437227405312
  | _ => false
def allOK : List Value → Bool
  | [] => true
  | v :: r => constOK v && allOK r
def constV (v : Value) : Option Value := match v with
  | .agg cs => (match allOK cs.toList with | true => some v | false => none)
  | .tuple cs => (match allOK cs.toList with | true => some v | false => none)
  | _ => match constOK v with | true => some v | false => none

def eta (po : Path) (rs : RS) : Operand → Option Value
  | .tmp t => match lk rs.loc t with
    | some e => (match sufx e.p po with | true => some e.v | false => none)
    | none => lkT rs.env.tmps t
  | .const v => constV v
  | .func f => some (.func (.func f) #[] #[])
  | .global _ => none

/-- What a walk knows of a type. -/
inductive Kd where
  | scalar
  | bool
  | string
  | iface
  | func
  | struct (fs : List (Nat × Nat × Bool))
  | slice (elem : TypeId)
  | array (n : Nat) (elem : TypeId)
  | map (kk : KK) (z : Value)
structure TI where
  size : Nat
  bytes : Nat
  agg : Bool
  kd : Kd
  zero : List Value
abbrev Tab := Nat → Option TI

inductive Res where
  | val (v : Value)
  | ask (c : Prop) (v : Value)
  | find (p : Value → Prop)
  | call (f : FuncId) (args : List Value)
  | eff
  | fail

def Res.opt : Option Value → Res
  | some v => .val v
  | none => .fail
def isPub (v : Value) : Bool := match v with
  | .pointer (some ⟨_, _, some _⟩) => false
  | _ => true
def evs (η : Operand → Option Value) : List Operand → Option (List Value)
  | [] => some []
  | x :: r => match η x with
    | some v => (match isPub v, evs η r with
      | true, some vs => some (v :: vs)
      | _, _ => none)
    | none => none
/-- A read value: of one cell, or of many. -/
def packV (agg : Bool) (cs : List Value) : Option Value :=
  match agg with
  | true => some (.agg cs.toArray)
  | false => match cs with
    | [v] => some v
    | _ => none
def takeL : Nat → List Value → Option (List Value)
  | 0, _ => some []
  | n + 1, v :: r => (match takeL n r with | some l => some (v :: l) | none => none)
  | _ + 1, [] => none
def dropL : Nat → List Value → List Value
  | 0, l => l
  | n + 1, _ :: r => dropL n r
  | _ + 1, [] => []

def binI (op : BinOp) (k : IntKind) (a b : Int) : Res :=
  match op with
  | .add => .val (.int k (k.wrap (a + b)))
  | .sub => .val (.int k (k.wrap (a - b)))
  | .mul => .val (.int k (k.wrap (a * b)))
  | .quo => .ask (b ≠ 0) (.int k (k.wrap (a.tdiv b)))
  | .rem => .ask (b ≠ 0) (.int k (a.tmod b))
  | .eql => .val (.bool (a == b))
  | .neq => .val (.bool (a != b))
  | .lss => .val (.bool (decide (a < b)))
  | .leq => .val (.bool (decide (a ≤ b)))
  | .gtr => .val (.bool (decide (a > b)))
  | .geq => .val (.bool (decide (a ≥ b)))
  | _ => .eff
/-- The order of two floats. -/
def ordF (x y : Nat) : Option Ordering := Ieee.double.order x y
def binFl (op : BinOp) (x y : Nat) : Res :=
  match op with
  | .add | .sub | .mul | .quo => .val (.float .f64 (fop op x y))
  | .eql => .val (.bool (ordF x y == some .eq))
  | .neq => .val (.bool (ordF x y != some .eq))
  | .lss => .val (.bool (ordF x y == some .lt))
  | .leq => .val (.bool (ordF x y == some .lt || ordF x y == some .eq))
  | .gtr => .val (.bool (ordF x y == some .gt))
  | .geq => .val (.bool (ordF x y == some .gt || ordF x y == some .eq))
  | _ => .fail
def binS (op : BinOp) (x y : ByteArray) : Res :=
  match op with
  | .add => .ask (x.size + y.size ≤ 9223372036854775807) (.string (x ++ y))
  | .eql => .val (.bool (x.toList == y.toList))
  | .neq => .val (.bool (!(x.toList == y.toList)))
  | _ => .fail
/-- Operations on plain values that need not compute by themselves: what comes out is asked of the model. -/
def anyRun (s : Sem Value) (v : Value) : Prop := constOK v = true ∧ ∀ (P : Program) (w : World), s.run P w = .ok v w
def binA (T : Tab) (op : BinOp) (t : TypeId) (x y : Value) : Res :=
  match x, y with
  | .int k a, .int k' b => (match decide (k = k') with
    | true => (match binI op k a b with
      | .eff => .find (anyRun (binOp op t (.int k a) (.int k' b)))
      | r => r)
    | false => .find (anyRun (binOp op t (.int k a) (.int k' b))))
  | .float .f64 a, .float .f64 b => binFl op a b
  | .string a, .string b => binS op a b
  | .bool a, .bool b => (match op, T t with
    | .eql, some ⟨_, _, _, .bool, _⟩ => .val (.bool (a == b))
    | .neq, some ⟨_, _, _, .bool, _⟩ => .val (.bool (!(a == b)))
    | _, _ => .fail)
  | .func _ _ _, .nilFunc => (match op, T t with
    | .eql, some ⟨_, _, _, .func, _⟩ => .val (.bool false)
    | .neq, some ⟨_, _, _, .func, _⟩ => .val (.bool true)
    | _, _ => .fail)
  | .nilFunc, .nilFunc => (match op, T t with
    | .eql, some ⟨_, _, _, .func, _⟩ => .val (.bool true)
    | .neq, some ⟨_, _, _, .func, _⟩ => .val (.bool false)
    | _, _ => .fail)
  | _, _ => .fail
/-- The slice nil as an operand. -/
def isNilS : Operand → Bool
  | .const (.slice none 0 0) => true
  | _ => false
/-- A slice that is not nil, against nil. -/
def nilA (T : Tab) (op : BinOp) (t : TypeId) (x : Option Value) : Res :=
  match op, T t, x with
  | .eql, some ⟨_, _, _, .slice _, _⟩, some (.slice (some _) _ _) => .val (.bool false)
  | .neq, some ⟨_, _, _, .slice _, _⟩, some (.slice (some _) _ _) => .val (.bool true)
  | _, _, _ => .fail
def isNilI : Operand → Bool
  | .const .nilIface => true
  | _ => false
/-- A value of an interface type, against nil. -/
def nilI (T : Tab) (op : BinOp) (t : TypeId) (x : Option Value) : Res :=
  match op, T t, x with
  | .eql, some ⟨_, _, _, .iface, _⟩, some .nilIface => .val (.bool true)
  | .neq, some ⟨_, _, _, .iface, _⟩, some .nilIface => .val (.bool false)
  | .eql, some ⟨_, _, _, .iface, _⟩, some (.iface _ _) => .val (.bool false)
  | .neq, some ⟨_, _, _, .iface, _⟩, some (.iface _ _) => .val (.bool true)
  | _, _, _ => .fail
def unA (op : UnOp) (x : Value) : Res :=
  match op, x with
  | .not, .bool b => .val (.bool !b)
  | .neg, .int k n => .val (.int k (k.wrap (0 - n)))
  | .neg, .float .f64 b => .val (.float .f64 (canon (Op.negFloat .f64 b)))
  | _, _ => .fail
def nth {α : Type} : List α → Nat → Option α
  | [], _ => none
  | x :: _, 0 => some x
  | _ :: r, n + 1 => nth r n

/-- A block of elements of a size. -/
def Heap.ezAt (H : Heap) (b n : Nat) : Prop := ∃ cs rw, H.blk b = some (.cells cs n rw)
/-- n values of a slice's cells (a value of its own for each agg) -/
def Heap.aggAt (H : Heap) (b off n : Nat) (v : Value) : Prop :=
  match v with
  | .agg cs => H.run? b off n = some cs.toList
  | _ => False

def loadA (H : Heap) (bx : List (List Value)) (i : TI) (x : Value) : Res :=
  match x with
  | .pointer (some ⟨k, o, some _⟩) => (match nth bx k with
    | some cs => (match takeL i.size (dropL o cs) with
      | some l => .opt (packV i.agg l)
      | none => .fail)
    | none => .fail)
  | .pointer (some ⟨b, o, none⟩) => (match i.agg with
    | true => .find (fun v => H.aggAt b o i.size v)
    | false => .find (fun v => H.cell? b o = some v))
  | _ => .fail
def boundA (i : Option (Option Value)) (d : Int) : Option Int :=
  match i with
  | none => some d
  | some (some (.int _ n)) => some n
  | some _ => none
def sliceA (T : Tab) (H : Heap) (t : TypeId) (x : Value) (lo hi : Option (Option Value)) : Res :=
  match x with
  | .string s => (match T t, boundA lo 0, boundA hi s.size with
    | some ⟨_, _, _, .string, _⟩, some l, some h => .ask (0 ≤ l ∧ l ≤ h ∧ h ≤ s.size) (.string (s.extract l.toNat h.toNat))
    | _, _, _ => .fail)
  | .slice (some ⟨b, o, none⟩) n _ => (match T t with
    | some ⟨_, _, _, .slice e, _⟩ => (match T e, boundA lo 0, boundA hi n with
      | some i, some l, some h => .ask (0 ≤ l ∧ l ≤ h ∧ h ≤ n ∧ H.ezAt b i.size) (.slice (some ⟨b, o + l.toNat * i.size, none⟩) (h.toNat - l.toNat) (h.toNat - l.toNat))
      | _, _, _ => .fail)
    | _ => .fail)
  | _ => .fail
def lenA (T : Tab) (t : TypeId) (x : Value) : Res :=
  match T t, x with
  | some ⟨_, _, _, .slice _, _⟩, .slice _ n _ => .val (.int .i64 n)
  | some ⟨_, _, _, .string, _⟩, .string s => .val (.int .i64 s.size)
  | _, _ => .fail
def convA (dst : Option IntKind) (flt : Bool) (x : Value) : Res :=
  match x with
  | .int _ n => (match dst with
    | some k => .val (.int k (k.wrap n))
    | none => (match flt with
      | true => .val (.float .f64 (FloatKind.f64.nearest n))
      | false => .fail))
  | _ => .fail

def cellsV : Value → List Value
  | .agg cs => cs.toList
  | v => [v]
def lenB : Nat → List Value → Bool
  | 0, [] => true
  | n + 1, _ :: r => lenB n r
  | _, _ => false
/-- new cells over old ones, from a place on -/
def updL : List Value → Nat → List Value → Option (List Value)
  | cs, 0, [] => some cs
  | _ :: cs, 0, v :: vs => (match updL cs 0 vs with | some l => some (v :: l) | none => none)
  | c :: cs, n + 1, vs => (match updL cs n vs with | some l => some (c :: l) | none => none)
  | [], _, _ => none
def repL : Nat → List Value → List Value
  | 0, _ => []
  | n + 1, z => z ++ repL n z
def fillA (place : Nat → Option (Nat × Nat)) (η : Operand → Option Value) : List (Nat × Operand) → List Value → Option (List Value)
  | [], cs => some cs
  | (i, x) :: r, cs => (match place i, η x with
    | some (off, n), some v => (match isPub v, lenB n (cellsV v) with
      | true, true => (match updL cs off (cellsV v) with
        | some cs' => fillA place η r cs'
        | none => none)
      | _, _ => none)
    | _, _ => none)

/-- What the program's own tables say of a conversion's end. -/
inductive Cv where
  | int (k : IntKind)
  | float
  | no
abbrev CTab := Nat → Cv

/-- Calls. -/
def callA (T : Tab) (η : Operand → Option Value) (c : Call) : Res :=
  match c.callee with
  | .builtin b => (match b, c.args.toList, c.argTypes.toList with
    | .len, [x], [t] => (match η x with
      | some v => lenA T t v
      | none => .fail)
    | .max, [x, y], _ => (match η x, η y with
      | some (.int k n), some (.int _ m) => .val (.int k (if m > n then m else n))
      | _, _ => .fail)
    | _, _, _ => .eff)
  | .value g => (match η g, evs η c.args.toList with
    | some (.func (.func f) fs cap), some vs => (match fs.toList with
      | [] => .call f (vs ++ cap.toList)
      | _ => .fail)
    | _, _ => .fail)
  | .invoke _ _ => .eff
/-- Bytes as a string. -/
def bytesS (ns : List Int) : ByteArray := ns.foldl (fun r n => r.push (UInt8.ofNat n.toNat)) ByteArray.empty
def strA (T : Tab) (C : CTab) (H : Heap) (s d : TypeId) (a : Value) : Res :=
  match T s, T d, a with
  | some ⟨_, _, _, .slice e, _⟩, some ⟨_, _, _, .string, _⟩, .slice a2 n _ => (match C e, n, a2 with
    | .int .u8, 0, _ => .val (.string ByteArray.empty)
    | .int .u8, n' + 1, some ⟨b, o, none⟩ => .find (fun v => ∃ ns : List Int, H.run? b o (n' + 1) = some (ns.map (Value.int .u8)) ∧ v = .string (bytesS ns))
    | _, _, _ => .fail)
  | some ⟨_, _, _, .string, _⟩, some ⟨_, _, _, .slice _, _⟩, .string _ => .eff
  | _, _, _ => .fail
/-- What is looked up. -/
def lookV (ok : Bool) (z : Value) : Option Value → Value
  | some v => (match ok with | true => .tuple #[v, .bool true] | false => v)
  | none => (match ok with | true => .tuple #[z, .bool false] | false => z)
/-- An operation that leaves the heap alone. -/
def qval (T : Tab) (C : CTab) (H : Heap) (bx : List (List Value)) (η : Operand → Option Value) : Op → Res
  | .move x | .assign x => .opt (η x)
  | .pick _ _ _ => .fail
  | .fieldAddr s x f => (match T s, η x with
    | some ⟨_, _, _, .struct fs, _⟩, some (.pointer (some ⟨k, o, sp⟩)) => (match nth fs f with
      | some (off, _ + 1, _) => .val (.pointer (some ⟨k, o + off, sp⟩))
      | _ => .fail)
    | _, _ => .fail)
  | .field s x f => (match T s, η x with
    | some ⟨_, _, _, .struct fs, _⟩, some (.agg cs) => (match nth fs f with
      | some (off, n, ag) => (match takeL n (dropL off cs.toList) with
        | some l => .opt (packV ag l)
        | none => .fail)
      | none => .fail)
    | _, _ => .fail)
  | .load t x => (match T t, η x with
    | some i, some v => loadA H bx i v
    | _, _ => .fail)
  | .indexAddr t x i => (match T t, η x, η i with
    | some ⟨_, _, _, .slice e, _⟩, some (.slice (some ⟨b, o, none⟩) n _), some (.int _ k) => (match T e with
      | some ti => .ask (0 ≤ k ∧ k < n) (.pointer (some ⟨b, o + k.toNat * ti.size, none⟩))
      | none => .fail)
    | some ⟨_, _, _, .array n e, _⟩, some (.pointer (some ⟨b, o, sp⟩)), some (.int _ k) => (match T e with
      | some ti => .ask (0 ≤ k ∧ k < n) (.pointer (some ⟨b, o + k.toNat * ti.size, sp⟩))
      | none => .fail)
    | some ⟨_, _, _, .slice _, _⟩, some (.slice none _ _), some (.int _ _) => .ask False (.pointer (some ⟨0, 0, none⟩))
    | _, _, _ => .fail)
  | .index t x i => (match η x, η i with
    | some (.string s), some (.int _ k) => (match T t with
      | some ⟨_, _, _, .string, _⟩ => .find (fun v => 0 ≤ k ∧ ∃ b : UInt8, s.data[k.toNat]? = some b ∧ v = .int .u8 b.toNat)
      | _ => .fail)
    | some (.agg cs), some (.int _ k) => (match T t with
      | some ⟨_, _, _, .array n e, _⟩ => (match T e with
        | some ⟨1, _, false, _, _⟩ => .find (fun v => 0 ≤ k ∧ k < n ∧ cs[k.toNat]? = some v)
        | _ => .fail)
      | _ => .fail)
    | _, _ => .fail)
  | .lookup t m k ok => (match T t, η m, η k with
    | some ⟨_, _, _, .map kk z, _⟩, some (.map (some b)), some kv => (match fitK kk kv with
      | true => .find (fun v => ∃ es, H.blk b = some (.map kk es) ∧ v = lookV ok z (mget es kv))
      | false => .fail)
    | _, _, _ => .fail)
  | .nilCheck x => (match η x with
    | some (.pointer (some a)) => .val (.pointer (some a))
    | _ => .fail)
  | .binOp op t x y _ => (match isNilS y with
    | true => (match η x with
      | some (.slice none _ _) => .eff
      | u => nilA T op t u)
    | false => (match isNilI y with
      | true => nilI T op t (η x)
      | false => (match η x, η y with
        | some a, some b => binA T op t a b
        | _, _ => .fail)))
  | .unOp op _ x => (match η x with
    | some a => unA op a
    | none => .fail)
  | .convert s d x => (match η x, T s with
    | some a, some _ => (match C d with
      | .int k => convA (some k) false a
      | .float => convA none true a
      | .no => strA T C H s d a)
    | _, _ => .fail)
  | .extract x i => (match η x with
    | some (.tuple vs) => .opt (nth vs.toList i)
    | _ => .fail)
  | .slice t x lo hi none => (match η x with
    | some v => sliceA T H t v (lo.map η) (hi.map η)
    | none => .fail)
  | .build t parts => (match T t with
    | some ⟨_, _, _, .struct fs, z⟩ => (match fillA (fun i => (nth fs i).map fun f => (f.1, f.2.1)) η parts.toList z with
      | some cs => .val (.agg cs.toArray)
      | none => .fail)
    | some ⟨_, _, _, .array _ e, z⟩ => (match T e with
      | some i => (match fillA (fun k => some (k * i.size, i.size)) η parts.toList z with
        | some cs => .val (.agg cs.toArray)
        | none => .fail)
      | none => .fail)
    | _ => .fail)
  | .makeInterface t x => (match η x, T t with
    | some v, some i => (match isPub v, i.kd with
      | _, .iface => .fail
      | true, _ => .val (.iface t v)
      | _, _ => .fail)
    | _, _ => .fail)
  | .makeFunc fn first cap => (match fn, first.toList, evs η cap.toList with
    | .func f, [], some vs => .val (.func (.func f) #[] vs.toArray)
    | _, _, _ => .fail)
  | .call c => callA T η c
  | _ => .eff
/-- How a call ends. -/
inductive AEnd where
  | ret (v : Value)
  | pan (v : Value)
inductive AExit where
  | normal
  | exit (id : Nat)
  | ret
  | pan (v : Value)

def ERel (ρ : Rho) : AEnd → Ending → Prop
  | .ret v, .returned v' => VRel ρ v v'
  | .pan v, .panicked [⟨v', false, false⟩] => VRel ρ v v'
  | _, _ => False
def NoPriv (own : Nat → Owner) : Prop := ∀ B k, own B ≠ .priv k

/-- What a function's call comes to, be it walked or the model's own. -/
def CallRun (P : Program) (f : FuncId) (args : Array Value) (w : World) (R : Ending → World → Prop) : Prop :=
  match (callFunc f args).run P w with
  | .ok (.enter g as_) w' => Calls P g as_ w' R
  | .ok (.value v) w' => R (.returned v) w'
  | _ => False

/-- Called with these abstract arguments over this heap, a function ends so. -/
structure EC (P : Program) (f : FuncId) (args : List Value) (H : Heap) (R : AEnd → Heap → Prop) : Prop where
  run : ∀ (ρ : Rho) (own : Nat → Owner) (w : World) (cargs : List Value), HRel ρ own H w → NoPriv own → VRels ρ args cargs →
    CallRun P f cargs.toArray w fun e w' => ∃ r H' ρ' own', R r H' ∧ ERel ρ' r e ∧ HRel ρ' own' H' w' ∧ NoPriv own' ∧ Guar ρ own w ρ' own' w'
/-- It gives this value and leaves the heap alone. -/
def PC (P : Program) (f : FuncId) (args : List Value) (H : Heap) (v : Value) : Prop := EC P f args H fun r H' => r = .ret v ∧ H' = H

theorem CallRun.mono {P : Program} {f : FuncId} {args : Array Value} {w : World} {R R' : Ending → World → Prop} (h : CallRun P f args w R) (hr : ∀ e w', R e w' → R' e w') : CallRun P f args w R' := by
  unfold CallRun at *
  generalize (callFunc f args).run P w = r at *
  cases r with
  | ok n w' =>
    cases n
    case enter => exact Calls.mono h hr
    case value => exact hr _ _ h
    all_goals exact h
  | halt x w' => exact h
theorem EC.mono {P : Program} {f : FuncId} {args : List Value} {H : Heap} {R R' : AEnd → Heap → Prop} (h : EC P f args H R) (hr : ∀ r H', R r H' → R' r H') : EC P f args H R' where
  run := fun ρ own w cargs h1 h2 h3 => (h.run ρ own w cargs h1 h2 h3).mono fun e w' ⟨r, H', ρ', own', a, b⟩ => ⟨r, H', ρ', own', hr _ _ a, b⟩

/-- All that lives in H lives in H'. -/
structure Ext (H H' : Heap) : Prop where
  next : H.next ≤ H'.next
  same : ∀ b c, H.blk b = some c → H'.blk b = some c

/-- The order in which a region is walked: phases of operations that leave the heap alone, and between them one each that need not. -/
abbrev Plan := List (List Nat × Option Nat)
def isSlice : Op → Bool
  | .slice _ _ _ _ _ => true
  | _ => false
/-- What is found hangs on no heap. -/
def noHp : Op → Bool
  | .load _ _ => false
  | .lookup _ _ _ _ => false
  | .slice _ _ _ _ _ => false
  | .convert _ _ _ => false
  | _ => true
def isLoad : Op → Bool
  | .load _ _ => true
  | _ => false
def isStore : Op → Bool
  | .store _ _ _ => true
  | _ => false
def memN (i : Nat) : List Nat → Bool
  | [] => false
  | j :: r => (match Nat.beq j i with | true => true | false => memN i r)
def rangeN : Nat → Nat → List Nat
  | _, 0 => []
  | a, n + 1 => a :: rangeN (a + 1) n
/-- All of n operations leave the heap alone. -/
def allP (n : Nat) : Plan := [(rangeN 0 n, none)]
def tailP : Nat → Nat → Plan
  | 0, _ => [([], none)]
  | n + 1, i => ([], some i) :: tailP n (i + 1)
/-- The first n leave the heap alone, m more follow one by one. -/
def seqP (n m : Nat) : Plan := match m with
  | 0 => allP n
  | m + 1 => (rangeN 0 n, some n) :: tailP m (n + 1)

def dstOf (ops : List Oper) (j : Nat) : Option Tmp :=
  match nth ops j with
  | some o => o.dst
  | none => none
def pathOf (ops : List Oper) (rs : RS) : Option (Nat × Bool) → Option (Path × Bool)
  | none => some ([], true)
  | some (j, w) => (match dstOf ops j with
    | some d => (match lk rs.loc d with
      | some ⟨.bool t, p, c⟩ => some ((j, w) :: p, c && (match w with | true => t | false => !t))
      | _ => none)
    | none => none)
/-- Under a test, if there is one. -/
def und (p : Path) (c : Bool) (q : Prop) : Prop :=
  match p with
  | [] => q
  | _ :: _ => c = true → q

/-- What is not reached need not be known. -/
def unl (p : Path) (c : Bool) (q : Prop) : Prop :=
  match p with
  | [] => False
  | _ :: _ => c = false ∧ q

def etaPick (ops : List Oper) (po : Path) (rs : RS) (s : Tmp) (want : Bool) : Operand → Option Value
  | .tmp t => (match lk rs.loc t with
    | some e => (match sufx e.p po with
      | true => some e.v
      | false => (match e.p with
        | (j, w) :: p' => (match eqB w want, dstOf ops j, sufx p' po with
          | true, some d, true => (match Nat.beq d s with
            | true => some e.v
            | false => none)
          | _, _, _ => none)
        | [] => none))
    | none => lkT rs.env.tmps t)
  | .const v => constV v
  | _ => none

def Heap.stOK (H : Heap) (b o n : Nat) : Prop := ∃ cs esz, H.blk b = some (.cells cs esz true) ∧ o + n ≤ cs.length
def overL (cs : List Value) (o : Nat) (l : List Value) : List Value := cs.take o ++ l ++ cs.drop (o + l.length)
def Heap.stor (H : Heap) (b o : Nat) (l : List Value) : Heap :=
  ⟨H.next, fun x => if x = b then (match H.blk b with
    | some (.cells cs esz rw) => some (.cells (overL cs o l) esz rw)
    | c => c) else H.blk x, fun x c h => by
    split at h
    · rename_i e
      cases hq : H.blk b with
      | none => rw [hq] at h; cases h
      | some d => rw [e]; exact H.lt b d hq
    · exact H.lt x c h⟩
theorem Heap.eq_of {H H' : Heap} (h1 : H.next = H'.next) (h2 : ∀ b, H.blk b = H'.blk b) : H = H' := by
  cases H; cases H'
  simp only at h1 h2
  subst h1
  have := funext h2
  subst this
  rfl
theorem Heap.stor_put {H : Heap} {b : Nat} {cs : List Value} {esz : Nat} {rw_ : Bool} (h : H.blk b = some (.cells cs esz rw_)) (o : Nat) (l : List Value) : H.stor b o l = H.put b (.cells (overL cs o l) esz rw_) := by
  refine Heap.eq_of rfl fun x => ?_
  show (if x = b then _ else _) = (if x = b then _ else _)
  split
  · rw [h, if_pos (by rename_i e; rw [e]; exact H.lt _ _ h)]
  · rfl
theorem Heap.stor_eq (H : Heap) (b o : Nat) (l : List Value) : H.stor b o l = match H.blk b with
    | some (.cells cs esz rw) => H.put b (.cells (overL cs o l) esz rw)
    | _ => H := by
  split
  · rename_i cs esz rw_ h; exact Heap.stor_put h o l
  · rename_i hn
    refine Heap.eq_of rfl fun x => ?_
    show (if x = b then _ else _) = _
    split
    · rename_i e
      subst e
      split
      · rename_i cs esz rw_ h; exact absurd h (hn _ _ _)
      · rfl
    · rfl
/-- The cells of a slice that may be appended to. -/
def Heap.own? (H : Heap) (b o n esz : Nat) (cs : List Value) : Prop := ∃ l, H.blk b = some (.cells l esz true) ∧ o + n * esz ≤ l.length ∧ cs = (l.drop o).take (n * esz)

/-- The same for a slice that may be nil. -/
def Heap.ownO (H : Heap) (a : Option Addr) (n esz : Nat) (cs : List Value) : Prop :=
  match a with
  | none => cs = []
  | some ⟨b, o, none⟩ => H.own? b o n esz cs
  | _ => False
def Heap.killO (H : Heap) (q : Option Addr) : Heap :=
  ⟨H.next, fun x => match q with
    | none => H.blk x
    | some a => if x = a.block then none else H.blk x, fun x c h => by
    cases q with
    | none => exact H.lt x c h
    | some a =>
      simp only at h
      split at h
      · cases h
      · exact H.lt x c h⟩

def snocL {α : Type} : List α → α → List α
  | [], x => [x]
  | y :: r, x => y :: snocL r x
def lenN {α : Type} : List α → Nat
  | [] => 0
  | _ :: r => lenN r + 1
def setN {α : Type} : List α → Nat → α → List α
  | [], _, _ => []
  | _ :: r, 0, y => y :: r
  | x :: r, n + 1, y => x :: setN r n y

def allFlat : List Value → Bool
  | [] => true
  | v :: r => (match flatV v with | true => allFlat r | false => false)
def appF (T : Tab) (H : Heap) (bx : List (List Value)) (η : Operand → Option Value) (t u : TypeId) (s x : Operand) (K : Option Value → List (List Value) → Heap → Prop) : Prop :=
  match T t, Nat.beq t u, η s, η x with
  | some ⟨_, _, _, .slice e, _⟩, true, some (.slice a n _), some (.slice a2 m _) => (match T e with
    | some i => (match Nat.blt 0 i.size with
      | true => (match m with
        | 0 => K (some (.slice a n n)) bx H
        | m' + 1 => (match a2 with
          | some ⟨b2, o2, none⟩ => ∃ news, H.run? b2 o2 ((m' + 1) * i.size) = some news ∧ (n + (m' + 1)) * i.bytes ≤ 140737488355328 ∧ n + (m' + 1) ≤ 9223372036854775807 ∧ ∃ cs, H.ownO a n i.size cs ∧ K (some (.slice (some ⟨H.next, 0, none⟩) (n + (m' + 1)) (n + (m' + 1)))) bx ((H.killO a).push (.cells (cs ++ news) i.size true))
          | _ => False))
      | false => False)
    | none => False)
  | _, _, _, _ => False
def copyF (T : Tab) (H : Heap) (bx : List (List Value)) (η : Operand → Option Value) (t u : TypeId) (d x : Operand) (K : Option Value → List (List Value) → Heap → Prop) : Prop :=
  match T t, T u, η d, η x with
  | some ⟨_, _, _, .slice e, _⟩, some ⟨_, _, _, .slice _, _⟩, some (.slice (some ⟨b, o, none⟩) n _), some (.slice (some ⟨b2, o2, none⟩) m _) => (match T e with
    | some i => ∃ news, H.run? b2 o2 (Nat.min m n * i.size) = some news ∧ H.stOK b o (Nat.min m n * i.size) ∧ K (some (.int .i64 (Nat.min m n : Nat))) bx (H.stor b o news)
    | none => False)
  | _, _, _, _ => False

/-- An operation that makes or writes memory; pv: which of the temporaries hold boxes of the walk's own. -/
def effF (T : Tab) (C : CTab) (pv : Nat → Bool) (H : Heap) (bx : List (List Value)) (η : Operand → Option Value) (dst : Option Tmp) (op : Op) (K : Option Value → List (List Value) → Heap → Prop) (Qp : Value → Prop) : Prop :=
  match op with
  | .alloc t => (match T t, dst with
    | some i, some d => (match pv d with
      | true => K (some (.pointer (some ⟨lenN bx, 0, some 0⟩))) (snocL bx i.zero) H
      | false => K (some (.pointer (some ⟨H.next, 0, none⟩))) bx (H.push (.cells i.zero i.size true)))
    | _, _ => False)
  | .box t x => (match T t, dst, η x with
    | some i, some d, some v => (match isPub v, allFlat (cellsV v) with
      | true, true => (match pv d with
        | true => K (some (.pointer (some ⟨lenN bx, 0, some 0⟩))) (snocL bx (cellsV v)) H
        | false => K (some (.pointer (some ⟨H.next, 0, none⟩))) bx (H.push (.cells (cellsV v) i.size true)))
      | _, _ => False)
    | _, _, _ => False)
  | .store t a x => (match T t, η a, η x with
    | some i, some (.pointer (some ⟨k, o, sp⟩)), some v => (match isPub v, lenB i.size (cellsV v), allFlat (cellsV v) with
      | true, true, true => (match sp with
        | some _ => (match nth bx k with
          | some cs => (match updL cs o (cellsV v) with
            | some cs' => K none (setN bx k cs') H
            | none => False)
          | none => False)
        | none => H.stOK k o i.size ∧ K none bx (H.stor k o (cellsV v)))
      | _, _, _ => False)
    | _, _, _ => False)
  | .binOp op t x y _ => (match isNilS y, T t, η x with
    | true, some ⟨_, _, _, .slice _, _⟩, some (.slice none 0 0) => (match op with
      | .eql | .neq => K (some (.bool true)) bx H ∧ K (some (.bool false)) bx H
      | _ => False)
    | _, _, _ => False)
  | .makeMap t none => (match T t with
    | some ⟨_, _, _, .map kk _, _⟩ => K (some (.map (some H.next))) bx (H.push (.map kk []))
    | _ => False)
  | .mapUpdate t m k x => (match T t, η m, η k, η x with
    | some ⟨_, _, _, .map kk _, _⟩, some (.map (some b)), some kv, some v => (match isPub v, fitK kk kv with
      | true, true => ∃ es, H.blk b = some (.map kk es) ∧ K none bx (H.put b (.map kk (mset es kv v)))
      | _, _ => False)
    | _, _, _, _ => False)
  | .insert t m k x => (match T t, η m, η k, η x with
    | some ⟨_, _, _, .map kk _, _⟩, some (.map (some b)), some kv, some v => (match isPub v, fitK kk kv with
      | true, true => ∃ es, H.blk b = some (.map kk es) ∧ K none bx (H.put b (.map kk (mset es kv v)))
      | _, _ => False)
    | _, _, _, _ => False)
  | .buildSlice t n parts => (match T t with
    | some ⟨_, _, _, .slice e, _⟩ => (match T e with
      | some i => (match Nat.ble (n * i.size) 16777216, Nat.blt 0 i.size, fillA (fun k => some (k * i.size, i.size)) η parts.toList (repL n i.zero) with
        | true, true, some cs => (match allFlat cs with
          | true => K (some (.slice (some ⟨H.next, 0, none⟩) n n)) bx (H.push (.cells cs i.size true))
          | false => False)
        | _, _, _ => False)
      | none => False)
    | _ => False)
  | .makeSlice t l c => (match T t, η l, η c with
    | some ⟨_, _, _, .slice e, _⟩, some (.int _ n), some (.int _ m) => (match T e with
      | some i => (match Nat.blt 0 i.size with
        | true => (0 ≤ n ∧ n ≤ m ∧ m ≤ 9223372036854775807 ∧ m * i.bytes ≤ 140737488355328) ∧ K (some (.slice (some ⟨H.next, 0, none⟩) n.toNat n.toNat)) bx (H.push (.cells (repL n.toNat i.zero) i.size true))
        | false => False)
      | none => False)
    | _, _, _ => False)
  | .call c => (match c.callee with
    | .builtin b => (match b, c.args.toList, c.argTypes.toList with
      | .append, [s, x], [t, u] => appF T H bx η t u s x K
      | .copy, [d, x], [t, u] => copyF T H bx η t u d x K
      | _, _, _ => False)
    | _ => False)
  | .convert s d x => (match T s, T d, η x with
    | some ⟨_, _, _, .string, _⟩, some ⟨_, _, _, .slice e, _⟩, some (.string z) => (match C e with
      | .int .u8 => K (some (.slice (some ⟨H.next, 0, none⟩) z.size z.size)) bx (H.push (.cells (z.data.toList.map fun b => Value.int .u8 (b.toNat : Int)) 1 false))
      | _ => False)
    | _, _, _ => False)
  | .range t x => (match T t, η x with
    | some ⟨_, _, _, .string, _⟩, some (.string s) => K (some (.pointer (some ⟨H.next, 0, none⟩))) bx (H.push (.map .iter [(.string s, .int .i64 ((0 : Nat) : Int))]))
    | _, _ => False)
  | .next x true => (match η x with
    | some (.pointer (some ⟨b, 0, none⟩)) => ∃ (s : ByteArray) (p : Nat), H.blk b = some (.map .iter [(.string s, .int .i64 (p : Int))]) ∧
      (p < s.size → K (some (.tuple #[.bool true, .int .i64 (p : Int), .int .i32 ((Utf8.decode s p).1 : Int)])) bx (H.put b (.map .iter [(.string s, .int .i64 ((p + (Utf8.decode s p).2 : Nat) : Int))]))) ∧
      (¬ p < s.size → K (some (.tuple #[.bool false])) bx H)
    | _ => False)
  | .panic x => (match η x with
    | some (.iface t v) => Qp (.iface t v)
    | _ => False)
  | _ => False

section
variable (P : Program) (T : Tab) (C : CTab) (pv : Nat → Bool)

/-- A call under a test that need not leave the heap alone: it is told by its temporary, 1000000 on. -/
def spl (pv : Nat → Bool) : Option Tmp → Bool
  | some d => !pv (d + 1000000)
  | none => false
/-- One operation. -/
def opF (ops : List Oper) (o : Oper) (rs : RS) (H : Heap) (K : RS → Heap → Prop) (Qp : Value → Heap → Prop) : Prop :=
  match pathOf ops rs o.guard with
  | none => False
  | some (p, c) => (match o.op with
    | .pick (.tmp s) a b => (match eta p rs (.tmp s), etaPick ops p rs s true a, etaPick ops p rs s false b with
      | some (.bool t), some (.bool x), some (.bool y) => K (rs.put o.dst ⟨.bool (cond t x y), p, c⟩) H
      | _, _, _ => False)
    | op => (match qval T C H rs.env.boxes (eta p rs) op with
      | .val v => K (rs.put o.dst ⟨v, p, c⟩) H
      | .ask q v => und p c q ∧ K (rs.put o.dst ⟨v, p, c⟩) H
      | .find q => ∃ v, und p c (q v) ∧ K (rs.put o.dst ⟨v, p, c⟩) H
      | .call f args => (match p with
        | [] => ∃ R, EC P f args H R ∧ (∀ v H', R (.ret v) H' → K (rs.put o.dst ⟨v, [], true⟩) H') ∧ (∀ v H', R (.pan v) H' → Qp v H')
        | _ :: _ => (match spl pv o.dst with
          | false => ∃ v, (c = true → PC P f args H v) ∧ K (rs.put o.dst ⟨v, p, c⟩) H
          | true => (c = true → ∃ R, EC P f args H R ∧ (∀ v H', R (.ret v) H' → K (rs.put o.dst ⟨v, p, c⟩) H') ∧ (∀ v H', R (.pan v) H' → Qp v H')) ∧ (c = false → K (rs.put o.dst ⟨.bool false, p, c⟩) H)))
      | .eff => (match p with
        | [] => effF T C pv H rs.env.boxes (eta [] rs) o.dst op (fun v bx H' => K (RS.put ⟨rs.loc, ⟨rs.env.tmps, bx⟩⟩ o.dst ⟨v.getD (.tuple #[]), [], true⟩) H') (fun v => Qp v H)
        | _ :: _ => False)
      | .fail => unl p c (K (rs.put o.dst ⟨.bool false, p, c⟩) H)))
/-- Where a late operation may look. -/
def OnS (S : Nat → Prop) (η : Operand → Option Value) (op : Op) : Prop :=
  match op with
  | .load _ x => (match η x with
    | some (.pointer (some ⟨b, _, none⟩)) => S b
    | _ => True)
  | _ => False
def onK (so : Option (Nat → Prop)) (lt : Bool) (η : Operand → Option Value) (op : Op) (X : Prop) : Prop :=
  match so with
  | none => X
  | some S => (match lt, noHp op with
    | true, false => OnS S η op ∧ X
    | _, _ => X)
def askK (so : Option (Nat → Prop)) (lt : Bool) (op : Op) (X : Prop) : Prop :=
  match so with
  | none => X
  | some _ => (match lt, isSlice op with
    | true, true => False
    | _, _ => X)
/-- Blocks of a set are kept. -/
def ExtS (S : Nat → Prop) (H H' : Heap) : Prop := ∀ x c, S x → H.blk x = some c → H'.blk x = some c
def ExtO (so : Option (Nat → Prop)) (H H' : Heap) : Prop :=
  match so with
  | none => Ext H H'
  | some S => ExtS S H H'
variable (so : Option (Nat → Prop))
/-- One operation that leaves the heap alone. lt: it may also come up behind an operation that does not; nx: then what it looks up in the heap must still be there. ub: a store need not wait for it: then it reads no box. -/
def headF (ops : List Oper) (o : Oper) (lt ub nx : Bool) (rs : RS) (H : Heap) (K : Bool → RS → Prop) : Prop :=
  match pathOf ops rs o.guard with
  | none => False
  | some (p, c) => (match o.op with
    | .pick (.tmp s) a b => (match eta p rs (.tmp s), etaPick ops p rs s true a, etaPick ops p rs s false b with
      | some (.bool t), some (.bool x), some (.bool y) => K nx (rs.put o.dst ⟨.bool (cond t x y), p, c⟩)
      | _, _, _ => False)
    | op => (match qval T C H rs.env.boxes (eta p rs) op with
      | .val v => (match ub, isLoad op with | true, true => False | _, _ => K nx (rs.put o.dst ⟨v, p, c⟩))
      | .ask q v => und p c q ∧ askK so lt op (K (match lt, isSlice op with | true, true => true | _, _ => nx) (rs.put o.dst ⟨v, p, c⟩))
      | .find q => ∃ v, und p c (q v) ∧ onK so lt (eta p rs) op (K (match lt, noHp op with | true, false => true | _, _ => nx) (rs.put o.dst ⟨v, p, c⟩))
      | .call f args => (match lt with
        | true => ∃ v, und p c (∀ H', PC P f args H' v) ∧ K nx (rs.put o.dst ⟨v, p, c⟩)
        | false => ∃ v, und p c (PC P f args H v) ∧ K nx (rs.put o.dst ⟨v, p, c⟩))
      | .fail => unl p c (K nx (rs.put o.dst ⟨.bool false, p, c⟩))
      | .eff => False))
def opsF (ops : List Oper) (Qp : Value → Heap → Prop) (K : RS → Heap → Prop) : List Oper → RS → Heap → Prop
  | [], rs, H => K rs H
  | o :: r, rs, H => opF P T C pv ops o rs H (fun rs' H' => opsF ops Qp K r rs' H') Qp
def headsL (ops : List Oper) (late : List Nat) (H : Heap) : List Nat → Bool → (Bool → RS → Prop) → RS → Prop
  | [], nx, K, rs => K nx rs
  | i :: r, nx, K, rs => (match nth ops i with
    | some o => headF P T C so ops o (memN i late) (memN (i + 100000) late) nx rs H (fun nx' rs' => headsL ops late H r nx' K rs')
    | none => False)
/-- A region whose order is drawn, phase for phase: what leaves the heap alone, then one operation that need not. -/
def phasesF (ops : List Oper) (late : List Nat) (Qp : Value → Heap → Prop) (K : RS → Heap → Prop) : Plan → Bool → RS → Heap → Prop
  | [], _, _, _ => False
  | (q, e) :: r, nx, rs, H => headsL P T C so ops late H q nx (fun nx' rs' => (match e with
    | none => K rs' H
    | some i => (match nth ops i with
      | some o => opF P T C pv ops o rs' H (fun rs'' H' => (match nx' with
        | true => (match memN (i + 200000) late with
          | true => phasesF ops late Qp K r false rs'' H'
          | false => ExtO so H H' ∧ phasesF ops late Qp K r true rs'' H')
        | false => phasesF ops late Qp K r false rs'' H')) Qp
      | none => False))) rs
end

def AExit.then (next : Env → Heap → Prop) (Q : AExit → Env → Heap → Prop) : AExit → Env → Heap → Prop
  | .normal, E, H => next E H
  | e, E, H => Q e E H
def AExit.inBlock (id : Nat) (Q : AExit → Env → Heap → Prop) : AExit → Env → Heap → Prop
  | .exit i, E, H => (match Nat.beq i id with | true => Q .normal E H | false => Q (.exit i) E H)
  | e, E, H => Q e E H
end Go.Am
