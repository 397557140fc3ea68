/- Eval, the reference's side. Conditions: a valid graph; inputs that fit it. -/
import Derived.Test.YtjhldpghbnjjmaaEvl
set_option linter.unusedVariables false
set_option linter.unusedSimpArgs false
namespace Go.Proofs.Ytjhldpghbnjjmaa
open Go.Am

def argO (v : Val) (prev : List (List Nat)) (k : Nat) : List Nat := if (k : Int) < opnd v.op then (prev[(fieldV v k).toNat]?).getD [] else []
def evOne (xss prev : List (List Nat)) (v : Val) : List Nat := if v.op = 0 then (xss[v.a.toNat]?).getD [] else kern v (argO v prev 0) (argO v prev 1) (argO v prev 2)
def evP (g : Graph) (xss : List (List Nat)) : Nat → List (List Nat)
  | 0 => []
  | i + 1 => evP g xss i ++ [match g.vals[i]? with
    | some v => evOne xss (evP g xss i) v
    | none => []]
@[simp] theorem evP_len (g : Graph) (xss : List (List Nat)) : ∀ i, (evP g xss i).length = i
  | 0 => rfl
  | i + 1 => by simp [evP, evP_len g xss i]
theorem evP_succ {g : Graph} {xss : List (List Nat)} {i : Nat} {v : Val} (h : g.vals[i]? = some v) : evP g xss (i + 1) = evP g xss i ++ [evOne xss (evP g xss i) v] := by
  simp only [evP, h]
def evalO (g : Graph) (xss : List (List Nat)) : List (List Nat) := g.outs.map fun o => ((evP g xss g.vals.length)[o.toNat]?).getD []
/-- What is known of a valid graph. -/
structure Vld (g : Graph) : Prop where
  ins : g.ins.length ≤ 20
  vals : g.vals.length ≤ 2000
  outs : g.outs.length ≤ 50
  len : ∀ v ∈ g.vals, 1 ≤ v.len ∧ v.len ≤ 1000
  inp : ∀ v ∈ g.vals, v.op = 0 → 0 ≤ v.a ∧ v.a < g.ins.length
  arg : ∀ (i : Nat) v, g.vals[i]? = some v → ¬ v.op = 0 → ∀ k : Nat, (k : Int) < opnd v.op → 0 ≤ fieldV v k ∧ fieldV v k < i
  out : ∀ o ∈ g.outs, 0 ≤ o ∧ o < g.vals.length
theorem vld_of {g : Graph} (h : validB g = true) : Vld g := by
  simp only [validB, Bool.and_eq_true, decide_eq_true_eq] at h
  obtain ⟨⟨⟨⟨⟨⟨h1, h2⟩, h3⟩, h4⟩, h5⟩, h6⟩, h7⟩ := h
  rw [List.all_eq_true] at h4 h5 h6
  have hv : ∀ (i : Nat) v, g.vals[i]? = some v → vokB g i v = true := fun i v hi => by
    have := h5 i (List.mem_range.2 (List.getElem?_eq_some_iff.1 hi).1)
    rw [vAt_get hi] at this; exact this
  have hm : ∀ v ∈ g.vals, ∃ i, vokB g i v = true := fun v hvm => by
    obtain ⟨i, hi, rfl⟩ := List.getElem_of_mem hvm
    exact ⟨i, hv i _ (List.getElem?_eq_getElem hi)⟩
  refine ⟨h1, h2, h3, fun v hvm => ?_, fun v hvm h0 => ?_, fun i v hi h0 k hk => ?_, fun o ho => ?_⟩
  · obtain ⟨i, hi⟩ := hm v hvm
    exact vok_len hi
  · obtain ⟨i, hi⟩ := hm v hvm
    simp only [vokB, Bool.and_eq_true, decide_eq_true_eq] at hi
    have := hi.2
    rw [if_pos h0] at this
    simp only [inputOK, decide_eq_true_eq] at this
    omega
  · have hi := hv i v hi
    simp only [vokB, Bool.and_eq_true, decide_eq_true_eq] at hi
    have := hi.2
    rw [if_neg h0] at this
    simp only [Bool.and_eq_true] at this
    obtain ⟨⟨⟨a0, a1⟩, a2⟩, _⟩ := this
    have ho := opnd3 v.op
    have hkk : k = 0 ∨ k = 1 ∨ k = 2 := by omega
    rcases hkk with rfl | rfl | rfl
    · simp only [argOK] at a0; rw [if_pos (by exact_mod_cast hk), decide_eq_true_eq] at a0; exact_mod_cast a0
    · simp only [argOK] at a1; rw [if_pos (by exact_mod_cast hk), decide_eq_true_eq] at a1; exact_mod_cast a1
    · simp only [argOK] at a2; rw [if_pos (by exact_mod_cast hk), decide_eq_true_eq] at a2; exact_mod_cast a2
  · have := h6 o ho
    simpa [inIdx] using this
theorem kern_len {v : Val} {xs ys zs : List Nat} : (kern v xs ys zs).length ≤ v.len.toNat := by
  unfold kern
  split <;> simp
theorem evP_le {g : Graph} {xss : List (List Nat)} (hg : Vld g) (hx : ∀ xs ∈ xss, xs.length ≤ 1048576) : ∀ i, i ≤ g.vals.length → ∀ ys ∈ evP g xss i, ys.length ≤ 1048576
  | 0, _, ys, h => by simp [evP] at h
  | i + 1, hi, ys, h => by
    have hlt : i < g.vals.length := by omega
    rw [evP_succ (List.getElem?_eq_getElem hlt)] at h
    rcases List.mem_append.1 h with h | h
    · exact evP_le hg hx i (by omega) ys h
    · simp at h
      subst h
      unfold evOne
      split
      · rename_i h0
        obtain ⟨a0, a1⟩ := hg.inp _ (List.getElem_mem hlt) h0
        cases hq : xss[(g.vals[i]).a.toNat]? with
        | none => simp
        | some x => exact hx x (List.mem_of_getElem? hq)
      · have := (hg.len _ (List.getElem_mem hlt)).2
        exact Nat.le_trans kern_len (by omega)
end Go.Proofs.Ytjhldpghbnjjmaa
