/- The abstract machine: what the tables must say, and small laws on values and cells. No condition but those stated. -/
import Derived.Test.YtjhldpghbnjjmaaAmWp
import Derived.Test.YtjhldpghbnjjmaaFlOrd
set_option linter.unusedVariables false
set_option linter.unusedSimpArgs false
namespace Go.Am
open FlCore
open Go.Proofs.Ytjhldpghbnjjmaa (Is fop fw fk run_fw fw_is)

def aggD : TypeDesc → Bool
  | .struct _ | .array _ _ => true
  | _ => false
/-- What a table's row must say of a type. -/
structure Row (P : Program) (t : TypeId) (i : TI) : Prop where
  info : ∃ ti z, P.info? t = some ti ∧ ti.size = i.size ∧ ti.bytes = i.bytes ∧ ti.zero = some z ∧ z.cells.toList = i.zero
  len : i.zero.length = i.size
  ok : allOK i.zero = true
  und : ∃ d, P.underlying t = some d ∧ aggD d = i.agg ∧ (match i.kd with
    | .scalar => ∀ ms, d ≠ .interface ms
    | .bool => d = .bool
    | .string => d = .string
    | .iface => True
    | .slice e => d = .slice e
    | .array n e => d = .array n e
    | .struct fs => ∃ fields : Array Field, d = .struct fields ∧ fields.toList.map (fun f => (f.offset, P.cellsOf f.type, ((P.underlying f.type).map aggD).getD false)) = fs ∧ (∀ f ∈ fields, (P.info? f.type).isSome = true ∧ (P.underlying f.type).isSome = true))
def TOK (P : Program) (T : Tab) : Prop := ∀ t i, T t = some i → Row P t i
def COK (P : Program) (C : CTab) : Prop := ∀ t, (∀ k, C t = .int k → P.underlying t = some (.int k)) ∧ (C t = .float → P.underlying t = some (.float .f64))

theorem VRel.const {ρ : Rho} {v : Value} (h : constOK v = true) : VRel ρ v v := by
  unfold constOK at h
  split at h
  · exact .bool _
  · exact .int _ _
  · exact .string _
  · exact .nilPtr
  · exact .nilFunc
  · exact .nilIface
  · exact .nilMap
  · exact .nilSlice
  · rename_i b
    simp only [Bool.and_eq_true] at h
    have h1 : b < 18446744073709551616 := Nat.blt_eq ▸ h.1
    have h2 : b % 9223372036854775808 ≤ 9218868437227405312 := Nat.ble_eq ▸ h.2
    refine .float ⟨h1, ?_⟩
    have hn : isNan b = false := by unfold isNan; simpa using h2
    unfold canon; rw [hn]; rfl
  · cases h
theorem VRels.const {ρ : Rho} : ∀ {l : List Value}, allOK l = true → VRels ρ l l
  | [], _ => .nil
  | v :: r, h => by
    simp only [allOK, Bool.and_eq_true] at h
    exact .cons (VRel.const h.1) (VRels.const h.2)
theorem VRel.constV {ρ : Rho} {v u : Value} (h : constV v = some u) : VRel ρ u v := by
  unfold Am.constV at h
  split at h
  · split at h
    · rename_i hk; cases h; exact .agg (VRels.const hk)
    · cases h
  · split at h
    · rename_i hk; cases h; exact .tuple (VRels.const hk)
    · cases h
  · split at h
    · rename_i hk; cases h; exact VRel.const hk
    · cases h

theorem lk_put {α : Type} (l : List (Nat × α)) (d : Nat) (x : α) (k : Nat) : lk ((d, x) :: l) k = if k = d then some x else lk l k := by
  show (match Nat.beq d k with | true => some x | false => lk l k) = _
  by_cases h : k = d
  · subst h; simp
  · have : Nat.beq d k = false := by
      rw [← Bool.not_eq_true]; intro h'; exact h (Nat.eq_of_beq_eq_true h').symm
    rw [this]; simp [h]

theorem nth_eq {α : Type} : ∀ (l : List α) (n : Nat), nth l n = l[n]?
  | [], n => by simp [nth]
  | x :: r, 0 => by simp [nth]
  | x :: r, n + 1 => by simp [nth, nth_eq r n]
theorem dropL_eq : ∀ (n : Nat) (l : List Value), dropL n l = l.drop n
  | 0, l => by simp [dropL]
  | n + 1, [] => by simp [dropL]
  | n + 1, _ :: r => by simp [dropL, dropL_eq n r]
theorem takeL_eq : ∀ (n : Nat) (l m : List Value), takeL n l = some m → m = l.take n ∧ n ≤ l.length
  | 0, l, m, h => by simp [takeL] at h; subst h; simp
  | n + 1, [], m, h => by simp [takeL] at h
  | n + 1, v :: r, m, h => by
    simp only [takeL] at h
    split at h
    · rename_i l' hl
      cases h
      obtain ⟨h1, h2⟩ := takeL_eq n r l' hl
      subst h1
      simp; omega
    · cases h
theorem lenN_eq {α : Type} : ∀ l : List α, lenN l = l.length
  | [] => rfl
  | _ :: r => by simp [lenN, lenN_eq r]
theorem snocL_eq {α : Type} : ∀ (l : List α) (x : α), snocL l x = l ++ [x]
  | [], _ => rfl
  | y :: r, x => by simp [snocL, snocL_eq r x]
theorem setN_eq {α : Type} : ∀ (l : List α) (n : Nat) (x : α), setN l n x = l.set n x
  | [], _, _ => rfl
  | _ :: _, 0, _ => rfl
  | y :: r, n + 1, x => by simp [setN, setN_eq r n x]
theorem lenB_eq : ∀ (n : Nat) (l : List Value), lenB n l = true → l.length = n
  | 0, [], _ => rfl
  | n + 1, _ :: r, h => by simp [lenB_eq n r (by simpa [lenB] using h)]
  | 0, _ :: _, h => by simp [lenB] at h
  | _ + 1, [], h => by simp [lenB] at h
theorem updL_eq : ∀ (cs : List Value) (o : Nat) (l m : List Value), updL cs o l = some m → m = overL cs o l ∧ o + l.length ≤ cs.length
  | cs, 0, [], m, h => by
    have : m = cs := by cases cs <;> (simp only [updL] at h; cases h; rfl)
    subst this; simp [overL]
  | [], 0, v :: vs, m, h => by simp [updL] at h
  | [], n + 1, l, m, h => by simp [updL] at h
  | c :: cs, 0, v :: vs, m, h => by
    simp only [updL] at h
    split at h
    · rename_i m' hm
      cases h
      obtain ⟨h1, h2⟩ := updL_eq cs 0 vs m' hm
      subst h1
      simp [overL] at h2 ⊢; omega
    · cases h
  | c :: cs, n + 1, l, m, h => by
    simp only [updL] at h
    split at h
    · rename_i m' hm
      cases h
      obtain ⟨h1, h2⟩ := updL_eq cs n l m' hm
      subst h1
      simp [overL] at h2 ⊢
      refine ⟨?_, by omega⟩
      rw [show n + 1 + l.length = (n + l.length) + 1 by omega]; simp
    · cases h
theorem VRels.over {ρ : Rho} {cs cs' l l' : List Value} (h : VRels ρ cs cs') (g : VRels ρ l l') (o : Nat) : VRels ρ (overL cs o l) (overL cs' o l') := by
  unfold overL
  rw [← g.length]
  exact ((h.take o).append g).append (h.drop _)

theorem VRel.cells {ρ : Rho} {v v' : Value} (h : VRel ρ v v') : VRels ρ (cellsV v) v'.cells.toList := by
  cases h
  case agg h => exact h
  all_goals exact .cons (by constructor <;> assumption) .nil
theorem isPub_rel {π : List Nat} {ρ : Rho} {v v' : Value} (h : TRel π ρ v v') (hp : isPub v = true) : VRel ρ v v' := by
  cases h with
  | priv h => simp [isPub] at hp
  | pub h => exact h
theorem evs_rel {π : List Nat} {ρ : Rho} {η : Operand → Option Value} {e : Operand → Value} : ∀ (xs : List Operand) (vs : List Value), (∀ x ∈ xs, ∀ v, η x = some v → TRel π ρ v (e x)) → evs η xs = some vs → VRels ρ vs (xs.map e)
  | [], vs, _, h => by simp [evs] at h; subst h; exact .nil
  | x :: r, vs, hη, h => by
    simp only [evs] at h
    split at h
    · rename_i v hv
      split at h
      · rename_i us hp hu
        cases h
        exact .cons (isPub_rel (hη x (by simp) v hv) hp) (evs_rel r us (fun y hy => hη y (by simp [hy])) hu)
      · cases h
    · cases h

theorem packV_rel {ρ : Rho} {ag : Bool} {l l' : List Value} {v : Value} (h : packV ag l = some v) (g : VRels ρ l l') : ∃ v', packV ag l' = some v' ∧ VRel ρ v v' := by
  unfold packV at *
  cases ag with
  | true => cases h; exact ⟨_, rfl, .agg (by simpa using g)⟩
  | false =>
    simp only at h
    split at h
    · cases h
      cases g with
      | cons a b => cases b; exact ⟨_, rfl, a⟩
    · cases h
end Go.Am
