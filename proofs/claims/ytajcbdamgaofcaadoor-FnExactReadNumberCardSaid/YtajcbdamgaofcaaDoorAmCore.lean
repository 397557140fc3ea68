/- An abstract machine for walks: values up to the naming of blocks and the bits of a NaN, a heap of blocks that are owned, and what it means that a world stands for such a state. Plain definitions and laws; no condition. -/
import Derived.Test.YtajcbdamgaofcaaDoorFlRun
import Derived.StillTail
import Derived.Tactics
import Derived.Laws.Cells
import Derived.Laws.CopyRow
namespace Go.Am
open FlCore
open Go.Proofs.YtajcbdamgaofcaaDoor (Is fop)

/-- Where a block of the abstract heap lies: the block, the place of its first cell, how many cells the block has, the size of an element. -/
structure Loc where
  B : Nat
  o : Nat
  n : Nat
  esz : Nat

abbrev Rho := Nat → Option Loc

mutual
/-- A value stands for an abstract one. -/
inductive VRel (ρ : Rho) : Value → Value → Prop
  | bool (b : Bool) : VRel ρ (.bool b) (.bool b)
  | int (k : IntKind) (n : Int) : VRel ρ (.int k n) (.int k n)
  | string (s : ByteArray) : VRel ρ (.string s) (.string s)
  | float {b x : Nat} (h : Is b x) : VRel ρ (.float .f64 x) (.float .f64 b)
  | nilPtr : VRel ρ (.pointer none) (.pointer none)
  | ptr {b off : Nat} {L : Loc} (h : ρ b = some L) : VRel ρ (.pointer (some ⟨b, off, none⟩)) (.pointer (some ⟨L.B, L.o + off, none⟩))
  | nilSlice {a : Option Addr} : VRel ρ (.slice none 0 0) (.slice a 0 0)
  | slice {b off n off' cap : Nat} {L : Loc} (h : ρ b = some L) (h1 : cap = 0 ∨ off' = L.o + off) (h2 : n ≤ cap) (h3 : off' + cap * L.esz ≤ L.n) :
      VRel ρ (.slice (some ⟨b, off, none⟩) n n) (.slice (some ⟨L.B, off', none⟩) n cap)
  | nilMap : VRel ρ (.map none) (.map none)
  | map {b : Nat} {L : Loc} (h : ρ b = some L) : VRel ρ (.map (some b)) (.map (some L.B))
  | nilFunc : VRel ρ .nilFunc .nilFunc
  | func (f : FuncId) {cs cs' : Array Value} (h : VRels ρ cs.toList cs'.toList) : VRel ρ (.func (.func f) #[] cs) (.func (.func f) #[] cs')
  | nilIface : VRel ρ .nilIface .nilIface
  | iface (t : TypeId) {v v' : Value} (h : VRel ρ v v') : VRel ρ (.iface t v) (.iface t v')
  | agg {cs cs' : Array Value} (h : VRels ρ cs.toList cs'.toList) : VRel ρ (.agg cs) (.agg cs')
  | tuple {cs cs' : Array Value} (h : VRels ρ cs.toList cs'.toList) : VRel ρ (.tuple cs) (.tuple cs')
inductive VRels (ρ : Rho) : List Value → List Value → Prop
  | nil : VRels ρ [] []
  | cons {v v' : Value} {l l' : List Value} (h : VRel ρ v v') (t : VRels ρ l l') : VRels ρ (v :: l) (v' :: l')
end

def Rho.le (ρ ρ' : Rho) : Prop := ∀ b L, ρ b = some L → ρ' b = some L
theorem Rho.le_refl (ρ : Rho) : Rho.le ρ ρ := fun _ _ h => h
theorem Rho.le_trans {ρ ρ' ρ'' : Rho} (h : Rho.le ρ ρ') (h' : Rho.le ρ' ρ'') : Rho.le ρ ρ'' := fun b L x => h' b L (h b L x)

mutual
theorem VRel.mono {ρ ρ' : Rho} (hl : Rho.le ρ ρ') : ∀ {v v' : Value}, VRel ρ v v' → VRel ρ' v v'
  | _, _, .bool b => .bool b
  | _, _, .int k n => .int k n
  | _, _, .string s => .string s
  | _, _, .float h => .float h
  | _, _, .nilPtr => .nilPtr
  | _, _, .ptr h => .ptr (hl _ _ h)
  | _, _, .nilSlice => .nilSlice
  | _, _, .slice h h1 h2 h3 => .slice (hl _ _ h) h1 h2 h3
  | _, _, .nilMap => .nilMap
  | _, _, .map h => .map (hl _ _ h)
  | _, _, .nilFunc => .nilFunc
  | _, _, .func f h => .func f (VRels.mono hl h)
  | _, _, .nilIface => .nilIface
  | _, _, .iface t h => .iface t (VRel.mono hl h)
  | _, _, .agg h => .agg (VRels.mono hl h)
  | _, _, .tuple h => .tuple (VRels.mono hl h)
theorem VRels.mono {ρ ρ' : Rho} (hl : Rho.le ρ ρ') : ∀ {l l' : List Value}, VRels ρ l l' → VRels ρ' l l'
  | _, _, .nil => .nil
  | _, _, .cons h t => .cons (VRel.mono hl h) (VRels.mono hl t)
end

theorem VRels.length {ρ : Rho} : ∀ {l l' : List Value}, VRels ρ l l' → l.length = l'.length
  | _, _, .nil => rfl
  | _, _, .cons _ t => by simp [t.length]
theorem VRels.get {ρ : Rho} : ∀ {l l' : List Value}, VRels ρ l l' → ∀ (i : Nat) (v : Value), l[i]? = some v → ∃ v', l'[i]? = some v' ∧ VRel ρ v v'
  | _, _, .nil, i, v, h => by simp at h
  | _, _, .cons h t, 0, v, e => by simp at e; subst e; exact ⟨_, rfl, h⟩
  | _, _, .cons h t, i + 1, v, e => by simp at e; obtain ⟨v', h1, h2⟩ := t.get i v e; exact ⟨v', by simpa using h1, h2⟩
theorem VRels.of_get {ρ : Rho} : ∀ {l l' : List Value}, l.length = l'.length → (∀ (i : Nat) (v v' : Value), l[i]? = some v → l'[i]? = some v' → VRel ρ v v') → VRels ρ l l'
  | [], [], _, _ => .nil
  | [], _ :: _, h, _ => by simp at h
  | _ :: _, [], h, _ => by simp at h
  | v :: l, v' :: l', h, g => .cons (g 0 v v' rfl rfl) (VRels.of_get (by simpa using h) fun i x x' e e' => g (i + 1) x x' (by simpa using e) (by simpa using e'))
theorem VRels.append {ρ : Rho} : ∀ {l l' m m' : List Value}, VRels ρ l l' → VRels ρ m m' → VRels ρ (l ++ m) (l' ++ m')
  | _, _, _, _, .nil, h => h
  | _, _, _, _, .cons h t, g => .cons h (t.append g)
theorem VRels.take {ρ : Rho} : ∀ {l l' : List Value} (n : Nat), VRels ρ l l' → VRels ρ (l.take n) (l'.take n)
  | _, _, 0, _ => by simp; exact .nil
  | _, _, n + 1, .nil => by simp; exact .nil
  | _, _, n + 1, .cons h t => by simp; exact .cons h (t.take n)
theorem VRels.drop {ρ : Rho} : ∀ {l l' : List Value} (n : Nat), VRels ρ l l' → VRels ρ (l.drop n) (l'.drop n)
  | _, _, 0, h => by simpa using h
  | _, _, n + 1, .nil => by simp; exact .nil
  | _, _, n + 1, .cons h t => by simp; exact t.drop n

/-- A basic type of a map's key. -/
inductive KB where
  | int (k : IntKind)
  | str
/-- A map's key: of one cell, or a struct of such. -/
inductive KK where
  | one (b : KB)
  | rcd (bs : List KB)
  | iter
def fitB : KB → Value → Bool
  | .int k, .int k' _ => decide (k = k')
  | .str, .string _ => true
  | _, _ => false
def fitL : List KB → List Value → Bool
  | [], [] => true
  | b :: r, v :: l => (match fitB b v with | true => fitL r l | false => false)
  | _, _ => false
def fitK : KK → Value → Bool
  | .one b, v => fitB b v
  | .rcd bs, .agg cs => fitL bs cs.toList
  | _, _ => false
def kEq1 : Value → Value → Bool
  | .int _ a, .int _ b => a == b
  | .string a, .string b => a == b
  | _, _ => false
def kEqL : List Value → List Value → Bool
  | [], [] => true
  | u :: l, v :: m => (match kEq1 u v with | true => kEqL l m | false => false)
  | _, _ => false
def kEq : Value → Value → Bool
  | .agg a, .agg b => kEqL a.toList b.toList
  | u, v => kEq1 u v
/-- What a map holds at a key. -/
def mget : List (Value × Value) → Value → Option Value
  | [], _ => none
  | (k, v) :: r, x => (match kEq x k with | true => some v | false => mget r x)
def mset : List (Value × Value) → Value → Value → List (Value × Value)
  | [], x, u => [(x, u)]
  | (k, v) :: r, x, u => (match kEq x k with | true => (x, u) :: r | false => (k, v) :: mset r x u)
/-- A block of the abstract heap. -/
inductive Blk where
  | cells (cs : List Value) (esz : Nat) (rw : Bool)
  | map (kk : KK) (es : List (Value × Value))
instance : Inhabited Blk := ⟨.cells [] 0 false⟩

structure Heap where
  next : Nat
  blk : Nat → Option Blk
  lt : ∀ b c, blk b = some c → b < next

def Heap.push (H : Heap) (c : Blk) : Heap where
  next := H.next + 1
  blk := fun b => if b = H.next then some c else H.blk b
  lt := fun b d h => by
    split at h
    · omega
    · have := H.lt b d h; omega
def Heap.put (H : Heap) (k : Nat) (c : Blk) : Heap where
  next := H.next
  blk := fun b => if b = k then (if b < H.next then some c else none) else H.blk b
  lt := fun b d h => by
    split at h
    · split at h
      · assumption
      · cases h
    · exact H.lt b d h
def Heap.kill (H : Heap) (k : Nat) : Heap where
  next := H.next
  blk := fun b => if b = k then none else H.blk b
  lt := fun b d h => by
    split at h
    · cases h
    · exact H.lt b d h

def Heap.cell? (H : Heap) (b i : Nat) : Option Value :=
  match H.blk b with
  | some (.cells cs _ _) => cs[i]?
  | _ => none
/-- n cells of a block from a place on. -/
def Heap.run? (H : Heap) (b off n : Nat) : Option (List Value) :=
  match H.blk b with
  | some (.cells cs _ _) => if off + n ≤ cs.length then some ((cs.drop off).take n) else none
  | _ => none

/-- In a row of memory every value is one cell. -/
def flatV : Value → Bool
  | .agg _ | .tuple _ => false
  | _ => true
/-- Whose a block of memory is. -/
inductive Owner where
  | none
  | ro
  | rw (b : Nat)
  | priv (k : Nat)

/-- A map's entries stand for abstract ones. -/
def MRel (ρ : Rho) (kk : KK) : List (Value × Value) → List MapEntry → Prop
  | [], [] => True
  | (k, v) :: r, e :: es => e.key = k ∧ fitK kk k = true ∧ VRel ρ v e.val ∧ MRel ρ kk r es
  | _, _ => False
theorem MRel.mono {ρ ρ' : Rho} (hl : Rho.le ρ ρ') {kk : KK} : ∀ {es : List (Value × Value)} {l : List MapEntry}, MRel ρ kk es l → MRel ρ' kk es l
  | [], [], _ => trivial
  | (_, _) :: _, _ :: _, h => ⟨h.1, h.2.1, h.2.2.1.mono hl, MRel.mono hl h.2.2.2⟩
  | [], _ :: _, h => h.elim
  | _ :: _, [], h => h.elim
/-- What an object that is no row of cells stands for: a map, or an iterator over a string. -/
def ObjAt (ρ : Rho) (kk : KK) (es : List (Value × Value)) : Obj → Prop
  | .map C _ => MRel ρ kk es C.toList
  | .stringIter s pos => kk = .iter ∧ es = [(.string s, .int .i64 (pos : Int))]
  | _ => False
theorem ObjAt.mono {ρ ρ' : Rho} (hl : Rho.le ρ ρ') {kk : KK} {es : List (Value × Value)} {o : Obj} (h : ObjAt ρ kk es o) : ObjAt ρ' kk es o := by
  cases o <;> first | exact MRel.mono hl h | exact h
/-- A map lies here. -/
def MapAt (ρ : Rho) (own : Nat → Owner) (w : World) (b : Nat) (L : Loc) (kk : KK) (es : List (Value × Value)) : Prop :=
  own L.B = .rw b ∧ ∃ o, w.heap[L.B]? = some o ∧ ObjAt ρ kk es o ∧ (kk = .iter → L.o = 0)
theorem MapAt.mono {ρ ρ' : Rho} {own own' : Nat → Owner} {w w' : World} {b : Nat} {L : Loc} {kk : KK} {es : List (Value × Value)} (h : MapAt ρ own w b L kk es) (hle : Rho.le ρ ρ') (ho : own' L.B = own L.B) (hh : w'.heap[L.B]? = w.heap[L.B]?) : MapAt ρ' own' w' b L kk es := by
  obtain ⟨h1, o, h2, h3, h4⟩ := h
  exact ⟨ho.trans h1, o, hh.trans h2, h3.mono hle, h4⟩
theorem MapAt.lt {ρ : Rho} {own : Nat → Owner} {w : World} {b : Nat} {L : Loc} {kk : KK} {es : List (Value × Value)} (h : MapAt ρ own w b L kk es) : L.B < w.heap.size := by
  obtain ⟨h1, o, h2, _⟩ := h
  exact (Array.getElem?_eq_some_iff.1 h2).1
/-- A map with keys of a kind. -/
theorem MapAt.map {ρ : Rho} {own : Nat → Owner} {w : World} {b : Nat} {L : Loc} {kk : KK} {es : List (Value × Value)} (h : MapAt ρ own w b L kk es) (hk : kk ≠ .iter) : own L.B = .rw b ∧ ∃ C ck, w.heap[L.B]? = some (.map C ck) ∧ MRel ρ kk es C.toList := by
  obtain ⟨h1, o, h2, h3, _⟩ := h
  cases o <;> first | exact h3.elim | skip
  · exact ⟨h1, _, _, h2, h3⟩
  · exact absurd h3.1 hk
/-- An iterator over a string. -/
theorem MapAt.iter {ρ : Rho} {own : Nat → Owner} {w : World} {b : Nat} {L : Loc} {s : ByteArray} {p : Nat} (h : MapAt ρ own w b L .iter [(.string s, .int .i64 (p : Int))]) : own L.B = .rw b ∧ w.heap[L.B]? = some (.stringIter s p) ∧ L.o = 0 := by
  obtain ⟨h1, o, h2, h3, h0⟩ := h
  cases o <;> first | exact h3.elim | skip
  · rename_i C ck
    exfalso
    cases hc : C.toList with
    | nil => simp only [ObjAt, hc, MRel] at h3
    | cons e r => simp only [ObjAt, hc, MRel] at h3; exact absurd h3.2.1 (by simp [fitK])
  · rename_i s' p'
    obtain ⟨_, h3⟩ := h3
    have h4 : s = s' ∧ (p : Int) = (p' : Int) := by simpa using h3
    obtain ⟨rfl, h5⟩ := h4
    have : p = p' := by omega
    subst this
    exact ⟨h1, h2, h0 rfl⟩
/-- The world's memory stands for the abstract heap. -/
structure HRel (ρ : Rho) (own : Nat → Owner) (H : Heap) (w : World) : Prop where
  lt : ∀ b L, ρ b = some L → b < H.next
  cells : ∀ b L cs esz rw, H.blk b = some (.cells cs esz rw) → ρ b = some L → L.esz = esz ∧ ∃ C T fz, w.heap[L.B]? = some (.cells C T fz) ∧ (rw = true → C.size = L.n) ∧ L.o + cs.length ≤ C.size ∧
    (∀ i v, cs[i]? = some v → flatV v = true ∧ ∃ v', C[L.o + i]? = some v' ∧ VRel ρ v v') ∧ (rw = true → fz = (0, 0) ∧ own L.B = .rw b) ∧ (rw = false → own L.B = .ro)
  maps : ∀ b L kk es, H.blk b = some (.map kk es) → ρ b = some L → MapAt ρ own w b L kk es

/-- The outside world, the tape and the output are what they were. -/
def Ext3 (w w' : World) : Prop := (w'.os, w'.tape, w'.output) = (w.os, w.tape, w.output)
/-- All but the count of draws is what it was. -/
def Same (w w' : World) : Prop := (w'.heap, w'.os, w'.tape, w'.output) = (w.heap, w.os, w.tape, w.output)
theorem Same.heap {w w' : World} (h : Same w w') : w'.heap = w.heap := congrArg (fun x : Array Obj × Os × (Nat → Question → Nat) × Array (Nat × ByteArray) => x.1) h
theorem Same.ext {w w' : World} (h : Same w w') : Ext3 w w' := congrArg (fun x : Array Obj × Os × (Nat → Question → Nat) × Array (Nat × ByteArray) => x.2) h
theorem Ext3.trans {w w' w'' : World} (h : Ext3 w w') (h' : Ext3 w' w'') : Ext3 w w'' := Eq.trans h' h

/-- What a piece of code keeps: blocks that are not owned for writing. -/
structure Guar (ρ : Rho) (own : Nat → Owner) (w : World) (ρ' : Rho) (own' : Nat → Owner) (w' : World) : Prop where
  le : Rho.le ρ ρ'
  ext : Ext3 w w'
  size : w.heap.size ≤ w'.heap.size
  keep : ∀ B, B < w.heap.size → (∀ b, own B ≠ .rw b) → w'.heap[B]? = w.heap[B]? ∧ own' B = own B

theorem Guar.refl (ρ : Rho) (own : Nat → Owner) (w : World) : Guar ρ own w ρ own w := ⟨Rho.le_refl ρ, rfl, Nat.le_refl _, fun _ _ _ => ⟨rfl, rfl⟩⟩
theorem Guar.trans {ρ ρ' ρ'' : Rho} {own own' own'' : Nat → Owner} {w w' w'' : World} (h : Guar ρ own w ρ' own' w') (h' : Guar ρ' own' w' ρ'' own'' w'') : Guar ρ own w ρ'' own'' w'' :=
  ⟨Rho.le_trans h.le h'.le, h.ext.trans h'.ext, Nat.le_trans h.size h'.size, fun B hB hn => by
    obtain ⟨h1, h2⟩ := h.keep B hB hn
    obtain ⟨h3, h4⟩ := h'.keep B (Nat.lt_of_lt_of_le hB h.size) (fun b => by rw [h2]; exact hn b)
    exact ⟨h3.trans h1, h4.trans h2⟩⟩
end Go.Am
