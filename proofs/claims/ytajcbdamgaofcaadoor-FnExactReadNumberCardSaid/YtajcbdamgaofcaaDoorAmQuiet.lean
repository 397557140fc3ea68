/- The abstract machine: what the tables must say, and small laws on values and cells. No condition but those stated. The abstract machine: operations that leave the heap alone do in every world what 'qval' says. Conditions: the tables say what the program's own types are (TOK, COK). -/
import Derived.Test.YtajcbdamgaofcaaDoorAmMap
import Derived.MapKept
import Derived.Test.YtajcbdamgaofcaaDoorFlOrd
set_option linter.unusedVariables false
set_option linter.unusedSimpArgs false
namespace Go.Am
open FlCore
open Go.Proofs.YtajcbdamgaofcaaDoor (Is fop fw fk run_fw fw_is)

def aggD : TypeDesc → Bool
  | .struct _ | .array _ _ => true
  | _ => false
/-- What a table's row must say of a type. -/
structure Row (P : Program) (t : TypeId) (i : TI) : Prop where
  info : ∃ ti z, P.info? t = some ti ∧ ti.size = i.size ∧ ti.bytes = i.bytes ∧ ti.zero = some z ∧ z.cells.toList = i.zero
  len : i.zero.length = i.size
  ok : allOK i.zero = true
  und : ∃ d, P.underlying t = some d ∧ aggD d = i.agg ∧ (match i.kd with
    | .scalar => ∀ ms, d ≠ .interface ms
    | .bool => d = .bool
    | .string => d = .string
    | .iface => ∃ ms, d = .interface ms
    | .func => ∃ a b c, d = .func a b c
    | .slice e => d = .slice e
    | .array n e => d = .array n e
    | .map kk z => constV z = some z ∧ ∃ kt e ti, d = .map kt e ∧ KeyOK P kt kk ∧ P.info? e = some ti ∧ ti.zero = some z
    | .struct fs => ∃ fields : Array Field, d = .struct fields ∧ fields.toList.map (fun f => (f.offset, P.cellsOf f.type, ((P.underlying f.type).map aggD).getD false)) = fs ∧ (∀ f ∈ fields, (P.info? f.type).isSome = true ∧ (P.underlying f.type).isSome = true))
def TOK (P : Program) (T : Tab) : Prop := ∀ t i, T t = some i → Row P t i
def COK (P : Program) (C : CTab) : Prop := ∀ t, (∀ k, C t = .int k → P.underlying t = some (.int k)) ∧ (C t = .float → P.underlying t = some (.float .f64))

theorem VRel.const {ρ : Rho} {v : Value} (h : constOK v = true) : VRel ρ v v := by
  unfold constOK at h
  split at h
  · exact .bool _
  · exact .int _ _
  · exact .string _
  · exact .nilPtr
  · exact .nilFunc
  · exact .nilIface
  · exact .nilMap
  · exact .nilSlice
  · rename_i b
    simp only [Bool.and_eq_true] at h
    have h1 : b < 18446744073709551616 := Nat.blt_eq ▸ h.1
    have h2 : b % 9223372036854775808 ≤ 9218868437227405312 := Nat.ble_eq ▸ h.2
    refine .float ⟨h1, ?_⟩
    have hn : isNan b = false := by unfold isNan; simpa using h2
    unfold canon; rw [hn]; rfl
  · cases h
theorem VRels.const {ρ : Rho} : ∀ {l : List Value}, allOK l = true → VRels ρ l l
  | [], _ => .nil
  | v :: r, h => by
    simp only [allOK, Bool.and_eq_true] at h
    exact .cons (VRel.const h.1) (VRels.const h.2)
theorem VRel.constV {ρ : Rho} {v u : Value} (h : constV v = some u) : VRel ρ u v := by
  unfold Am.constV at h
  split at h
  · split at h
    · rename_i hk; cases h; exact .agg (VRels.const hk)
    · cases h
  · split at h
    · rename_i hk; cases h; exact .tuple (VRels.const hk)
    · cases h
  · split at h
    · rename_i hk; cases h; exact VRel.const hk
    · cases h

theorem lk_put {α : Type} (l : List (Nat × α)) (d : Nat) (x : α) (k : Nat) : lk ((d, x) :: l) k = if k = d then some x else lk l k := by
  show (match Nat.beq d k with | true => some x | false => lk l k) = _
  by_cases h : k = d
  · subst h; simp
  · have : Nat.beq d k = false := by
      rw [← Bool.not_eq_true]; intro h'; exact h (Nat.eq_of_beq_eq_true h').symm
    rw [this]; simp [h]

theorem nth_eq {α : Type} : ∀ (l : List α) (n : Nat), nth l n = l[n]?
  | [], n => by simp [nth]
  | x :: r, 0 => by simp [nth]
  | x :: r, n + 1 => by simp [nth, nth_eq r n]
theorem dropL_eq : ∀ (n : Nat) (l : List Value), dropL n l = l.drop n
  | 0, l => by simp [dropL]
  | n + 1, [] => by simp [dropL]
  | n + 1, _ :: r => by simp [dropL, dropL_eq n r]
theorem takeL_eq : ∀ (n : Nat) (l m : List Value), takeL n l = some m → m = l.take n ∧ n ≤ l.length
  | 0, l, m, h => by simp [takeL] at h; subst h; simp
  | n + 1, [], m, h => by simp [takeL] at h
  | n + 1, v :: r, m, h => by
    simp only [takeL] at h
    split at h
    · rename_i l' hl
      cases h
      obtain ⟨h1, h2⟩ := takeL_eq n r l' hl
      subst h1
      simp; omega
    · cases h
theorem lenN_eq {α : Type} : ∀ l : List α, lenN l = l.length
  | [] => rfl
  | _ :: r => by simp [lenN, lenN_eq r]
theorem snocL_eq {α : Type} : ∀ (l : List α) (x : α), snocL l x = l ++ [x]
  | [], _ => rfl
  | y :: r, x => by simp [snocL, snocL_eq r x]
theorem setN_eq {α : Type} : ∀ (l : List α) (n : Nat) (x : α), setN l n x = l.set n x
  | [], _, _ => rfl
  | _ :: _, 0, _ => rfl
  | y :: r, n + 1, x => by simp [setN, setN_eq r n x]
theorem lenB_eq : ∀ (n : Nat) (l : List Value), lenB n l = true → l.length = n
  | 0, [], _ => rfl
  | n + 1, _ :: r, h => by simp [lenB_eq n r (by simpa [lenB] using h)]
  | 0, _ :: _, h => by simp [lenB] at h
  | _ + 1, [], h => by simp [lenB] at h
theorem updL_eq : ∀ (cs : List Value) (o : Nat) (l m : List Value), updL cs o l = some m → m = overL cs o l ∧ o + l.length ≤ cs.length
  | cs, 0, [], m, h => by
    have : m = cs := by cases cs <;> (simp only [updL] at h; cases h; rfl)
    subst this; simp [overL]
  | [], 0, v :: vs, m, h => by simp [updL] at h
  | [], n + 1, l, m, h => by simp [updL] at h
  | c :: cs, 0, v :: vs, m, h => by
    simp only [updL] at h
    split at h
    · rename_i m' hm
      cases h
      obtain ⟨h1, h2⟩ := updL_eq cs 0 vs m' hm
      subst h1
      simp [overL] at h2 ⊢; omega
    · cases h
  | c :: cs, n + 1, l, m, h => by
    simp only [updL] at h
    split at h
    · rename_i m' hm
      cases h
      obtain ⟨h1, h2⟩ := updL_eq cs n l m' hm
      subst h1
      simp [overL] at h2 ⊢
      refine ⟨?_, by omega⟩
      rw [show n + 1 + l.length = (n + l.length) + 1 by omega]; simp
    · cases h
theorem VRels.over {ρ : Rho} {cs cs' l l' : List Value} (h : VRels ρ cs cs') (g : VRels ρ l l') (o : Nat) : VRels ρ (overL cs o l) (overL cs' o l') := by
  unfold overL
  rw [← g.length]
  exact ((h.take o).append g).append (h.drop _)

theorem VRel.cells {ρ : Rho} {v v' : Value} (h : VRel ρ v v') : VRels ρ (cellsV v) v'.cells.toList := by
  cases h
  case agg h => exact h
  all_goals exact .cons (by constructor <;> assumption) .nil
theorem isPub_rel {π : List Nat} {ρ : Rho} {v v' : Value} (h : TRel π ρ v v') (hp : isPub v = true) : VRel ρ v v' := by
  cases h with
  | priv h => simp [isPub] at hp
  | pub h => exact h
theorem evs_rel {π : List Nat} {ρ : Rho} {η : Operand → Option Value} {e : Operand → Value} : ∀ (xs : List Operand) (vs : List Value), (∀ x ∈ xs, ∀ v, η x = some v → TRel π ρ v (e x)) → evs η xs = some vs → VRels ρ vs (xs.map e)
  | [], vs, _, h => by simp [evs] at h; subst h; exact .nil
  | x :: r, vs, hη, h => by
    simp only [evs] at h
    split at h
    · rename_i v hv
      split at h
      · rename_i us hp hu
        cases h
        exact .cons (isPub_rel (hη x (by simp) v hv) hp) (evs_rel r us (fun y hy => hη y (by simp [hy])) hu)
      · cases h
    · cases h

theorem packV_rel {ρ : Rho} {ag : Bool} {l l' : List Value} {v : Value} (h : packV ag l = some v) (g : VRels ρ l l') : ∃ v', packV ag l' = some v' ∧ VRel ρ v v' := by
  unfold packV at *
  cases ag with
  | true => cases h; exact ⟨_, rfl, .agg (by simpa using g)⟩
  | false =>
    simp only at h
    split at h
    · cases h
      cases g with
      | cons a b => cases b; exact ⟨_, rfl, a⟩
    · cases h
end Go.Am

set_option linter.unusedVariables false
namespace Go.Am
open FlCore
open Go.Proofs.YtajcbdamgaofcaaDoor (Is fop fw fk run_fw fw_is)

theorem add_mk (B o j : Nat) : Addr.add ⟨B, o, none⟩ j = ⟨B, o + j, none⟩ := by
  unfold Addr.add; split
  · rename_i h; subst h; rfl
  · rfl

section
variable {P : Program} {T : Tab} {C : CTab} {ρ : Rho} {own : Nat → Owner} {H : Heap} {w : World}

theorem run_underlying' {t : TypeId} {d : TypeDesc} (h : P.underlying t = some d) (w : World) : (underlying t).run P w = .ok d w := by
  simp [underlying, h]
theorem run_typeInfo' {t : TypeId} {d : TypeInfo} (h : P.info? t = some d) (w : World) : (typeInfo t).run P w = .ok d w := by
  simp [typeInfo, h]
theorem Row.sizeOf {t : TypeId} {i : TI} (h : Row P t i) (w : World) : (Go.sizeOf t).run P w = .ok i.size w := by
  obtain ⟨ti, z, h1, h2, _⟩ := h.info
  simp [Go.sizeOf, run_typeInfo' h1, h2]
theorem Row.isAgg {t : TypeId} {i : TI} (h : Row P t i) (w : World) : (Go.isAgg t).run P w = .ok i.agg w := by
  obtain ⟨d, h1, h2, _⟩ := h.und
  simp only [Go.isAgg, Sem.run_bind, run_underlying' h1, Result.andThen_ok]
  cases d <;> simp [aggD] at h2 <;> simp [← h2]
theorem Row.zero {t : TypeId} {i : TI} (h : Row P t i) (w : World) : ∃ z, (zeroValue t).run P w = .ok z w ∧ z.cells.toList = i.zero := by
  obtain ⟨ti, z, h1, h2, h3, h4, h5⟩ := h.info
  exact ⟨z, by simp [zeroValue, run_typeInfo' h1, h4], h5⟩
theorem Row.bytes {t : TypeId} {i : TI} (h : Row P t i) (w : World) : ∃ ti, (typeInfo t).run P w = .ok ti w ∧ ti.bytes = i.bytes ∧ ti.size = i.size := by
  obtain ⟨ti, z, h1, h2, h3, h4, h5⟩ := h.info
  exact ⟨ti, run_typeInfo' h1 w, h3, h2⟩
theorem Row.cellsOf {t : TypeId} {i : TI} (h : Row P t i) : P.cellsOf t = i.size := by
  obtain ⟨ti, z, h1, h2, _⟩ := h.info
  simp [Program.cellsOf, h1, h2]

theorem run_loadVar {t : TypeId} {i : TI} (h : Row P t i) (a : Addr) (cs : List Value) (v : Value) (hl : cs.length = i.size) (hp : packV i.agg cs = some v)
    (hc : ∀ j u, cs[j]? = some u → w.cell? (a.add j) = some u) : (loadVar t a).run P w = .ok v w := by
  simp only [loadVar, Sem.run_bind, h.isAgg, Result.andThen_ok]
  unfold packV at hp
  cases hg : i.agg with
  | true =>
    rw [hg] at hp; cases hp
    simp only [if_true, Sem.run_bind, h.sizeOf, Result.andThen_ok, ← hl, run_loadCells_list w a cs hc, Sem.run_pure]
  | false =>
    rw [hg] at hp
    simp only at hp
    split at hp
    · cases hp
      have := hc 0 _ rfl
      simp only [Addr.add, if_true] at this
      simp [run_load, this]
    · cases hp

theorem HRel.cell (hr : HRel ρ own H w) {b i : Nat} {v : Value} {L : Loc} (h : H.cell? b i = some v) (hl : ρ b = some L) :
    ∃ v', w.cell? ⟨L.B, L.o + i, none⟩ = some v' ∧ VRel ρ v v' := by
  unfold Heap.cell? at h
  split at h
  · rename_i cs esz rw hb
    obtain ⟨_, D, Te, fz, h1, _, _, h2, _⟩ := hr.cells b L cs esz rw hb hl
    obtain ⟨_, v', h3, h4⟩ := h2 i v h
    exact ⟨v', by simp [World.cell?, h1, h3], h4⟩
  · cases h
theorem HRel.run (hr : HRel ρ own H w) {b o n : Nat} {l : List Value} {L : Loc} (h : H.run? b o n = some l) (hl : ρ b = some L) :
    ∃ l', l'.length = n ∧ VRels ρ l l' ∧ ∀ j v', l'[j]? = some v' → w.cell? ⟨L.B, L.o + o + j, none⟩ = some v' := by
  unfold Heap.run? at h
  split at h
  · rename_i cs esz rw hb
    split at h
    · rename_i hle
      cases h
      obtain ⟨_, D, Te, fz, h1, h5, h6, h2, _⟩ := hr.cells b L cs esz rw hb hl
      have hD : ∀ j, j < n → L.o + o + j < D.size := fun j hj => by omega
      refine ⟨(D.toList.drop (L.o + o)).take n, by simp; omega, VRels.of_get (by simp; omega) fun i v v' e e' => ?_, fun j v' e => ?_⟩
      · rw [List.getElem?_take] at e e'
        split at e
        · rename_i hi
          rw [if_pos hi] at e'
          rw [List.getElem?_drop] at e e'
          obtain ⟨_, v'', h3, h4⟩ := h2 _ _ e
          have : v' = v'' := by
            rw [show L.o + (o + i) = L.o + o + i by omega] at h3
            simp at e'
            rw [h3] at e'; exact (Option.some.inj e').symm
          rw [this]; exact h4
        · cases e
      · rw [List.getElem?_take] at e
        split at e
        · rw [List.getElem?_drop] at e
          simp at e
          simp [World.cell?, h1, e]
        · cases e
    · cases h
  · cases h

theorem cell_of {w : World} {B : Nat} {D : Array Value} {Te : TypeId} {fz : Nat × Nat} (h : w.heap[B]? = some (.cells D Te fz)) (o : Nat) : w.cell? ⟨B, o, none⟩ = D[o]? := by
  simp [World.cell?, h]

theorem loadA_sound {N : Nat} {π : List Nat} {bx : List (List Value)} {a : Act} (B : Base N π ρ own bx H a w) {t : TypeId} {i : TI} (hi : Row P t i) {x x' : Value} (hx : TRel π ρ x x') (v : Value)
    (hv : loadA H bx i x = .val v ∨ ∃ p, loadA H bx i x = .find p ∧ p v) : ∃ v', (Instr.loadAt t x').run P w = .ok v' w ∧ TRel π ρ v v' := by
  unfold loadA at hv
  split at hv
  · -- a box of the walk's own
    rename_i k o sp
    cases hx with
    | pub h => cases h
    | @priv k o Bk hk =>
      split at hv
      · rename_i cs hcs
        rw [nth_eq] at hcs
        obtain ⟨B', D, Te, e1, _, e2, e3⟩ := B.box k cs hcs
        have : B' = Bk := by rw [hk] at e1; exact (Option.some.inj e1).symm
        subst this
        split at hv
        · rename_i l hl
          obtain ⟨h1, h2⟩ := takeL_eq _ _ _ hl
          rw [dropL_eq] at h1 h2
          rcases hv with hv | ⟨p, hv, _⟩
          · have hp : packV i.agg l = some v := by
              cases hq : packV i.agg l with
              | none => rw [hq] at hv; cases hv
              | some u => rw [hq] at hv; cases hv; rfl
            have hl' : VRels ρ l ((D.toList.drop o).take i.size) := by rw [h1]; exact (e3.drop o).take i.size
            obtain ⟨v', g1, g2⟩ := packV_rel hp hl'
            refine ⟨v', ?_, .pub g2⟩
            simp only [Instr.loadAt, Instr.sureAddr, pure_bind]
            refine run_loadVar hi _ ((D.toList.drop o).take i.size) v' ?_ g1 fun j u hj => ?_
            · have := hl'.length
              rw [← this, h1]; simp at h2 ⊢; omega
            · rw [add_mk, cell_of e2]
              rw [List.getElem?_take] at hj
              split at hj
              · rw [List.getElem?_drop] at hj; simpa using hj
              · cases hj
          · exfalso
            cases hq : packV i.agg l with
            | none => rw [hq] at hv; cases hv
            | some u => rw [hq] at hv; cases hv
        · rcases hv with hv | ⟨p, hv, _⟩ <;> cases hv
      · rcases hv with hv | ⟨p, hv, _⟩ <;> cases hv
  · rename_i b o
    cases hx with
    | pub h =>
      cases h with
      | @ptr b off L hL =>
        rcases hv with hv | ⟨p, hv, hp⟩
        · split at hv <;> cases hv
        · split at hv
          · rename_i hg
            cases hv
            unfold Heap.aggAt at hp
            split at hp
            · rename_i cs
              obtain ⟨l', g1, g2, g3⟩ := B.hrel.run hp hL
              refine ⟨.agg l'.toArray, ?_, .pub (.agg (by simpa using g2))⟩
              simp only [Instr.loadAt, Instr.sureAddr, pure_bind]
              exact run_loadVar hi _ l' _ g1 (by simp [packV, hg]) fun j u hj => by rw [add_mk]; exact g3 j u hj
            · exact hp.elim
          · rename_i hg
            cases hv
            obtain ⟨v', g1, g2⟩ := B.hrel.cell hp hL
            refine ⟨v', ?_, .pub g2⟩
            simp only [Instr.loadAt, Instr.sureAddr, pure_bind, loadVar, Sem.run_bind, hi.isAgg, Result.andThen_ok, hg]
            simp [run_load, g1]
  · rcases hv with hv | ⟨p, hv, _⟩ <;> cases hv
end
end Go.Am
