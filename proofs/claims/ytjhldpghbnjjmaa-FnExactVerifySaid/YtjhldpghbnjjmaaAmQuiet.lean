/- The abstract machine: operations that leave the heap alone do in every world what 'qval' says. Conditions: the tables say what the program's own types are (TOK, COK). -/
import Derived.Test.YtjhldpghbnjjmaaAmTab
set_option linter.unusedVariables false
set_option linter.unusedSimpArgs false
namespace Go.Am
open FlCore
open Go.Proofs.Ytjhldpghbnjjmaa (Is fop fw fk run_fw fw_is)

theorem add_mk (B o j : Nat) : Addr.add ⟨B, o, none⟩ j = ⟨B, o + j, none⟩ := by
  unfold Addr.add; split
  · rename_i h; subst h; rfl
  · rfl

section
variable {P : Program} {T : Tab} {C : CTab} {ρ : Rho} {own : Nat → Owner} {H : Heap} {w : World}

theorem run_underlying' {t : TypeId} {d : TypeDesc} (h : P.underlying t = some d) (w : World) : (underlying t).run P w = .ok d w := by
  simp [underlying, h]
theorem run_typeInfo' {t : TypeId} {d : TypeInfo} (h : P.info? t = some d) (w : World) : (typeInfo t).run P w = .ok d w := by
  simp [typeInfo, h]
theorem Row.sizeOf {t : TypeId} {i : TI} (h : Row P t i) (w : World) : (Go.sizeOf t).run P w = .ok i.size w := by
  obtain ⟨ti, z, h1, h2, _⟩ := h.info
  simp [Go.sizeOf, run_typeInfo' h1, h2]
theorem Row.isAgg {t : TypeId} {i : TI} (h : Row P t i) (w : World) : (Go.isAgg t).run P w = .ok i.agg w := by
  obtain ⟨d, h1, h2, _⟩ := h.und
  simp only [Go.isAgg, Sem.run_bind, run_underlying' h1, Result.andThen_ok]
  cases d <;> simp [aggD] at h2 <;> simp [← h2]
theorem Row.zero {t : TypeId} {i : TI} (h : Row P t i) (w : World) : ∃ z, (zeroValue t).run P w = .ok z w ∧ z.cells.toList = i.zero := by
  obtain ⟨ti, z, h1, h2, h3, h4, h5⟩ := h.info
  exact ⟨z, by simp [zeroValue, run_typeInfo' h1, h4], h5⟩
theorem Row.bytes {t : TypeId} {i : TI} (h : Row P t i) (w : World) : ∃ ti, (typeInfo t).run P w = .ok ti w ∧ ti.bytes = i.bytes ∧ ti.size = i.size := by
  obtain ⟨ti, z, h1, h2, h3, h4, h5⟩ := h.info
  exact ⟨ti, run_typeInfo' h1 w, h3, h2⟩
theorem Row.cellsOf {t : TypeId} {i : TI} (h : Row P t i) : P.cellsOf t = i.size := by
  obtain ⟨ti, z, h1, h2, _⟩ := h.info
  simp [Program.cellsOf, h1, h2]

theorem run_loadVar {t : TypeId} {i : TI} (h : Row P t i) (a : Addr) (cs : List Value) (v : Value) (hl : cs.length = i.size) (hp : packV i.agg cs = some v)
    (hc : ∀ j u, cs[j]? = some u → w.cell? (a.add j) = some u) : (loadVar t a).run P w = .ok v w := by
  simp only [loadVar, Sem.run_bind, h.isAgg, Result.andThen_ok]
  unfold packV at hp
  cases hg : i.agg with
  | true =>
    rw [hg] at hp; cases hp
    simp only [if_true, Sem.run_bind, h.sizeOf, Result.andThen_ok, ← hl, run_loadCells_list w a cs hc, Sem.run_pure]
  | false =>
    rw [hg] at hp
    simp only at hp
    split at hp
    · cases hp
      have := hc 0 _ rfl
      simp only [Addr.add, if_true] at this
      simp [run_load, this]
    · cases hp

theorem HRel.cell (hr : HRel ρ own H w) {b i : Nat} {v : Value} {L : Loc} (h : H.cell? b i = some v) (hl : ρ b = some L) :
    ∃ v', w.cell? ⟨L.B, L.o + i, none⟩ = some v' ∧ VRel ρ v v' := by
  unfold Heap.cell? at h
  split at h
  · rename_i cs esz rw hb
    obtain ⟨_, D, Te, fz, h1, _, _, h2, _⟩ := hr.cells b L cs esz rw hb hl
    obtain ⟨_, v', h3, h4⟩ := h2 i v h
    exact ⟨v', by simp [World.cell?, h1, h3], h4⟩
  · cases h
theorem HRel.run (hr : HRel ρ own H w) {b o n : Nat} {l : List Value} {L : Loc} (h : H.run? b o n = some l) (hl : ρ b = some L) :
    ∃ l', l'.length = n ∧ VRels ρ l l' ∧ ∀ j v', l'[j]? = some v' → w.cell? ⟨L.B, L.o + o + j, none⟩ = some v' := by
  unfold Heap.run? at h
  split at h
  · rename_i cs esz rw hb
    split at h
    · rename_i hle
      cases h
      obtain ⟨_, D, Te, fz, h1, h5, h6, h2, _⟩ := hr.cells b L cs esz rw hb hl
      have hD : ∀ j, j < n → L.o + o + j < D.size := fun j hj => by omega
      refine ⟨(D.toList.drop (L.o + o)).take n, by simp; omega, VRels.of_get (by simp; omega) fun i v v' e e' => ?_, fun j v' e => ?_⟩
      · rw [List.getElem?_take] at e e'
        split at e
        · rename_i hi
          rw [if_pos hi] at e'
          rw [List.getElem?_drop] at e e'
          obtain ⟨_, v'', h3, h4⟩ := h2 _ _ e
          have : v' = v'' := by
            rw [show L.o + (o + i) = L.o + o + i by omega] at h3
            simp at e'
            rw [h3] at e'; exact (Option.some.inj e').symm
          rw [this]; exact h4
        · cases e
      · rw [List.getElem?_take] at e
        split at e
        · rw [List.getElem?_drop] at e
          simp at e
          simp [World.cell?, h1, e]
        · cases e
    · cases h
  · cases h

theorem cell_of {w : World} {B : Nat} {D : Array Value} {Te : TypeId} {fz : Nat × Nat} (h : w.heap[B]? = some (.cells D Te fz)) (o : Nat) : w.cell? ⟨B, o, none⟩ = D[o]? := by
  simp [World.cell?, h]

theorem loadA_sound {N : Nat} {π : List Nat} {bx : List (List Value)} {a : Act} (B : Base N π ρ own bx H a w) {t : TypeId} {i : TI} (hi : Row P t i) {x x' : Value} (hx : TRel π ρ x x') (v : Value)
    (hv : loadA H bx i x = .val v ∨ ∃ p, loadA H bx i x = .find p ∧ p v) : ∃ v', (Instr.loadAt t x').run P w = .ok v' w ∧ TRel π ρ v v' := by
  unfold loadA at hv
  split at hv
  · -- a box of the walk's own
    rename_i k o sp
    cases hx with
    | pub h => cases h
    | @priv k o Bk hk =>
      split at hv
      · rename_i cs hcs
        rw [nth_eq] at hcs
        obtain ⟨B', D, Te, e1, _, e2, e3⟩ := B.box k cs hcs
        have : B' = Bk := by rw [hk] at e1; exact (Option.some.inj e1).symm
        subst this
        split at hv
        · rename_i l hl
          obtain ⟨h1, h2⟩ := takeL_eq _ _ _ hl
          rw [dropL_eq] at h1 h2
          rcases hv with hv | ⟨p, hv, _⟩
          · have hp : packV i.agg l = some v := by
              cases hq : packV i.agg l with
              | none => rw [hq] at hv; cases hv
              | some u => rw [hq] at hv; cases hv; rfl
            have hl' : VRels ρ l ((D.toList.drop o).take i.size) := by rw [h1]; exact (e3.drop o).take i.size
            obtain ⟨v', g1, g2⟩ := packV_rel hp hl'
            refine ⟨v', ?_, .pub g2⟩
            simp only [Instr.loadAt, Instr.sureAddr, pure_bind]
            refine run_loadVar hi _ ((D.toList.drop o).take i.size) v' ?_ g1 fun j u hj => ?_
            · have := hl'.length
              rw [← this, h1]; simp at h2 ⊢; omega
            · rw [add_mk, cell_of e2]
              rw [List.getElem?_take] at hj
              split at hj
              · rw [List.getElem?_drop] at hj; simpa using hj
              · cases hj
          · exfalso
            cases hq : packV i.agg l with
            | none => rw [hq] at hv; cases hv
            | some u => rw [hq] at hv; cases hv
        · rcases hv with hv | ⟨p, hv, _⟩ <;> cases hv
      · rcases hv with hv | ⟨p, hv, _⟩ <;> cases hv
  · rename_i b o
    cases hx with
    | pub h =>
      cases h with
      | @ptr b off L hL =>
        rcases hv with hv | ⟨p, hv, hp⟩
        · split at hv <;> cases hv
        · split at hv
          · rename_i hg
            cases hv
            unfold Heap.aggAt at hp
            split at hp
            · rename_i cs
              obtain ⟨l', g1, g2, g3⟩ := B.hrel.run hp hL
              refine ⟨.agg l'.toArray, ?_, .pub (.agg (by simpa using g2))⟩
              simp only [Instr.loadAt, Instr.sureAddr, pure_bind]
              exact run_loadVar hi _ l' _ g1 (by simp [packV, hg]) fun j u hj => by rw [add_mk]; exact g3 j u hj
            · exact hp.elim
          · rename_i hg
            cases hv
            obtain ⟨v', g1, g2⟩ := B.hrel.cell hp hL
            refine ⟨v', ?_, .pub g2⟩
            simp only [Instr.loadAt, Instr.sureAddr, pure_bind, loadVar, Sem.run_bind, hi.isAgg, Result.andThen_ok, hg]
            simp [run_load, g1]
  · rcases hv with hv | ⟨p, hv, _⟩ <;> cases hv
end
end Go.Am
