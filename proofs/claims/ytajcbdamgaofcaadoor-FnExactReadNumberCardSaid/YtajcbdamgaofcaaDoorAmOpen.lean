/- Arguments that the form reads, as values of the abstract machine; and a contract of the abstract machine as a walk in the world. No condition. -/
import Derived.Test.YtajcbdamgaofcaaDoorAmLib
import Derived.ProofKit
import Derived.ChangeSlices
import Derived.ChangeArms
import Derived.Deep.Slices
import Derived.Below
set_option linter.unusedVariables false
set_option linter.unusedSimpArgs false
namespace Go.Am
open Go.ChangeShapes Go.WideShapes Go.ChangeAt Go.RowKit

abbrev ro : Nat → Owner := fun _ => .ro
theorem ro_noPriv : NoPriv ro := fun B k h => by cases h

/-- What every reading of an element says of its cells. -/
def ElemA (P : Program) (w : World) (e : TypeId) {α : Type} (d : Enc α) (G : α → Prop) : Prop :=
  ∀ {H : Type} {enc : TypeId × Value → H} {spare : Nat → Bool} {held : Bool} (fuel : Nat) (cs : List Value) (x : DataW H × List MemPlace), DataW.trod enc P w 0 spare held fuel e cs = some x → ∃ y, (∀ ρ, VRels ρ (d.enc y) cs) ∧ (∀ v ∈ d.enc y, flatV v = true) ∧ G y

section
variable {P : Program} {w : World}
theorem elem_int {t : TypeId} (ht : P.underlying t = some (.int .i64)) : ElemA P w t dInt (fun n => -9223372036854775808 ≤ n ∧ n ≤ 9223372036854775807) := by
  intro H enc spare held fuel cs x h
  cases fuel with
  | zero => simp [DataW.trod] at h
  | succ n =>
    unfold DataW.trod at h
    rw [ht] at h
    match cs with
    | [.int k' m] =>
      simp only at h
      split at h
      · rename_i hk
        obtain ⟨rfl, hw⟩ := hk
        simp [Lit.wf, IntKind.min, IntKind.max, IntKind.signed, IntKind.bits] at hw
        exact ⟨m, fun ρ => .cons (.int _ _) .nil, (fun v hv => by cases hv with | head => rfl | tail _ h => cases h), by omega, by omega⟩
      · cases h
    | [] => simp at h
    | [.bool _] | [.float _ _] | [.string _] | [.pointer _] | [.slice _ _ _] | [.nilIface] | [.iface _ _] | [.map _] | [.nilFunc] | [.func _ _ _] | [.chan _] | [.agg _] | [.tuple _] | [.complex _ _ _] => simp at h
    | _ :: _ :: _ => simp at h
theorem elem_byte {t : TypeId} (ht : P.underlying t = some (.int .u8)) : ElemA P w t dByte (fun n => 0 ≤ n ∧ n ≤ 255) := by
  intro H enc spare held fuel cs x h
  cases fuel with
  | zero => simp [DataW.trod] at h
  | succ n =>
    unfold DataW.trod at h
    rw [ht] at h
    match cs with
    | [.int k' m] =>
      simp only at h
      split at h
      · rename_i hk
        obtain ⟨rfl, hw⟩ := hk
        simp [Lit.wf, IntKind.min, IntKind.max, IntKind.signed, IntKind.bits] at hw
        exact ⟨m, fun ρ => .cons (.int _ _) .nil, (fun v hv => by cases hv with | head => rfl | tail _ h => cases h), by omega, by omega⟩
      · cases h
    | [] => simp at h
    | [.bool _] | [.float _ _] | [.string _] | [.pointer _] | [.slice _ _ _] | [.nilIface] | [.iface _ _] | [.map _] | [.nilFunc] | [.func _ _ _] | [.chan _] | [.agg _] | [.tuple _] | [.complex _ _ _] => simp at h
    | _ :: _ :: _ => simp at h
theorem elem_flt {t : TypeId} (ht : P.underlying t = some (.float .f64)) : ElemA P w t dFlt (fun n => n < 18446744073709551616 ∧ FlCore.canon n = n) := by
  intro H enc spare held fuel cs x h
  cases fuel with
  | zero => simp [DataW.trod] at h
  | succ n =>
    unfold DataW.trod at h
    rw [ht] at h
    match cs with
    | [.float k' m] =>
      simp only at h
      split at h
      · rename_i hk
        obtain ⟨rfl, hw⟩ := hk
        have hm : m < 18446744073709551616 := by simpa [Lit.wf] using hw
        exact ⟨FlCore.canon m, fun ρ => .cons (.float ⟨hm, rfl⟩) .nil, (fun v hv => by cases hv with | head => rfl | tail _ h => cases h), Go.Proofs.YtajcbdamgaofcaaDoor.canon_lt hm, by unfold FlCore.canon; split <;> simp_all <;> rfl⟩
      · cases h
    | [] => simp at h
    | [.bool _] | [.int _ _] | [.string _] | [.pointer _] | [.slice _ _ _] | [.nilIface] | [.iface _ _] | [.map _] | [.nilFunc] | [.func _ _ _] | [.chan _] | [.agg _] | [.tuple _] | [.complex _ _ _] => simp at h
    | _ :: _ :: _ => simp at h

theorem cell_row {b o : Nat} {v : Value} (h : w.cell? ⟨b, o, none⟩ = some v) : ∃ C T fz, w.heap[b]? = some (.cells C T fz) ∧ C[o]? = some v := by
  unfold World.cell? at h
  dsimp only at h
  split at h
  · rename_i C T fz hb
    split at h
    · cases h
    · exact ⟨C, T, fz, hb, h⟩
  · cases h
theorem flat_idx {α : Type} (d : Enc α) {xs : List α} {q r : Nat} {x : α} (hx : xs[q]? = some x) (hr : r < d.sz) : (flat d xs)[q * d.sz + r]? = (d.enc x)[r]? := by
  rw [← flat_get d xs q x hx, List.getElem?_take_of_lt hr, List.getElem?_drop]
/-- A name that leads nowhere. -/
def Heap.skip (H : Heap) : Heap := ⟨H.next + 1, H.blk, fun b c h => Nat.lt_succ_of_lt (H.lt b c h)⟩
theorem Ext.skip (H : Heap) : Ext H H.skip := ⟨Nat.le_succ _, fun _ _ h => h⟩
def Rho.set (ρ : Rho) (b : Nat) (L : Loc) : Rho := fun x => if x = b then some L else ρ x
theorem Rho.le_set {ρ : Rho} {b : Nat} {L : Loc} (h : ρ b = none) : Rho.le ρ (ρ.set b L) := fun x M hx => by
  unfold Rho.set
  rw [if_neg (fun e => by rw [e, h] at hx; cases hx)]; exact hx
theorem HRel.fresh {ρ : Rho} {own : Nat → Owner} {H : Heap} (h : HRel ρ own H w) : ρ H.next = none := by
  cases hq : ρ H.next with
  | none => rfl
  | some L => exact absurd (h.lt _ _ hq) (Nat.lt_irrefl _)

theorem noMap {ρ : Rho} {H : Heap} (hr : HRel ρ ro H w) {b : Nat} {L : Loc} {kk : KK} {es : List (Value × Value)} (h2 : ρ b = some L) (h1 : H.blk b = some (.map kk es)) : False := by
  have := (hr.maps b L kk es h1 h2).1
  cases this
theorem noMapP {ρ : Rho} {own : Nat → Owner} {w' : World} {H : Heap} (hr : HRel ρ ro H w) {b : Nat} {L L' : Loc} {kk : KK} {es : List (Value × Value)} {cs : List Value} {z : Nat} {r : Bool} (h1 : (H.push (.cells cs z r)).blk b = some (.map kk es)) (h2 : ρ.set H.next L' b = some L) : MapAt (ρ.set H.next L') own w' b L kk es := by
  by_cases hbe : b = H.next
  · subst hbe
    rw [push_blk] at h1; cases h1
  · rw [push_blk_ne _ _ hbe] at h1
    unfold Rho.set at h2; rw [if_neg hbe] at h2
    exact (noMap hr h2 h1).elim
theorem open_sl {α : Type} [Inhabited α] {t e : TypeId} {d : Enc α} {G : α → Prop} (ht : P.underlying t = some (.slice e)) (hc : P.cellsOf e = d.sz) (he : ElemA P w e d G) {Ty : Type} {enc : TypeId × Value → Ty} {spare : Nat → Bool} {held : Bool} {fuel : Nat} {cs : List Value} {x : DataW Ty × List MemPlace}
    (h : DataW.trod enc P w 0 spare held fuel t cs = some x) (hs : ∀ a l c, cs = [.slice (some a) l c] → a.spot = none) :
    ∃ xs : List α, (∀ y ∈ xs, G y) ∧ xs.length ≤ 9223372036854775807 ∧ ∀ ρ H0, HRel ρ ro H0 w → ∃ ρ' H' a, Rho.le ρ ρ' ∧ Ext H0 H' ∧ HRel ρ' ro H' w ∧ VRels ρ' [sv a xs] cs ∧ Rd d H' a xs := by
  rcases Deep.open_slice ht h with ⟨rfl, _⟩ | ⟨a, len, cap, m, n, D, Pl, rfl, hb, hl, hm, hmm, _, hx⟩
  · exact ⟨[], by simp, by simp, fun ρ H0 hr => ⟨ρ, H0, none, Rho.le_refl _, Ext.refl _, hr, .cons .nilSlice .nil, Rd.nil⟩⟩
  · have hspot := hs a len cap rfl
    obtain ⟨ab, ao, asp⟩ := a
    simp only at hspot
    subst hspot
    by_cases h0 : len = 0
    · subst h0
      refine ⟨[], by simp, by simp, fun ρ H0 hr => ⟨ρ.set H0.next ⟨ab, ao, ao + cap * d.sz, d.sz⟩, H0.skip, some ⟨H0.next, 0, none⟩, Rho.le_set hr.fresh, Ext.skip _, ⟨fun b L hL => ?_, fun b L cs esz rw_ h1 h2 => ?_, fun b L kk es h1 h2 => (noMap hr (by have := H0.lt _ _ h1; unfold Rho.set at h2; rw [if_neg (by omega)] at h2; exact h2) h1).elim⟩, .cons (.slice (L := ⟨ab, ao, ao + cap * d.sz, d.sz⟩) ?_ (.inr rfl) (Nat.zero_le _) (Nat.le_refl _)) .nil, Rd.empty⟩⟩
      · unfold Rho.set at hL
        split at hL
        · rename_i hbe; rw [hbe]; exact Nat.lt_succ_self _
        · exact Nat.lt_succ_of_lt (hr.lt _ _ hL)
      · have hlt : b < H0.next := H0.lt _ _ h1
        have h2' : ρ b = some L := by unfold Rho.set at h2; rw [if_neg (by omega)] at h2; exact h2
        obtain ⟨e1, C, T, fz, e2, e3, e4, e5, e6, e7⟩ := hr.cells b L cs esz rw_ h1 h2'
        exact ⟨e1, C, T, fz, e2, e3, e4, fun i v hv => by obtain ⟨f1, v', f2, f3⟩ := e5 i v hv; exact ⟨f1, v', f2, f3.mono (Rho.le_set hr.fresh)⟩, e6, e7⟩
      · unfold Rho.set; rw [if_pos rfl]
    · have hle : len ≤ m := by rw [hmm]; split <;> omega
      obtain ⟨f, hf⟩ := Deep.choose_lt (α := α) (n := len) (p := fun i y => G y ∧ (∀ v ∈ d.enc y, flatV v = true) ∧ ∃ c, (∀ ρ, VRels ρ (d.enc y) c) ∧ ∀ j u, c[j]? = some u → w.cell? ⟨ab, ao + (i * d.sz + j), none⟩ = some u) (fun i hi => by
        obtain ⟨cs', h1, h2⟩ := hx i (by omega)
        obtain ⟨y, hK, hF, hG⟩ := he _ _ _ h2
        rw [hc] at h1
        obtain ⟨_, hlen, hcell⟩ := World.cells?_some h1
        refine ⟨y, hG, hF, cs', hK, fun j u hj => ?_⟩
        have hjl : j < cs'.length := by
          rcases Nat.lt_or_ge j cs'.length with q | q
          · exact q
          · rw [List.getElem?_eq_none q] at hj; cases hj
        have := hcell j (by omega)
        rw [Deep.add_add] at this
        have e : (⟨ab, ao, none⟩ : Addr).add (i * d.sz + j) = ⟨ab, ao + (i * d.sz + j), none⟩ := by unfold Addr.add; split <;> simp_all
        rw [e] at this
        rw [this, hj])
      have hll : ((List.range len).map f).length = len := by simp
      have hget : ∀ i, i < len → ((List.range len).map f)[i]? = some (f i) := fun i hi => by simp [hi]
      -- the row
      have hrow : ∃ C T fz, w.heap[ab]? = some (.cells C T fz) ∧ ∀ i v, (flat d ((List.range len).map f))[i]? = some v → flatV v = true ∧ ∃ v', C[ao + i]? = some v' ∧ ∀ ρ, VRel ρ v v' := by
        have hcells : ∀ i v, (flat d ((List.range len).map f))[i]? = some v → flatV v = true ∧ ∃ v', w.cell? ⟨ab, ao + i, none⟩ = some v' ∧ ∀ ρ, VRel ρ v v' := fun i v hv => by
          have hi : i < len * d.sz := by
            have := (List.getElem?_eq_some_iff.1 hv).1
            rw [flat_len, hll] at this; exact this
          have hq : i / d.sz < len := (Nat.div_lt_iff_lt_mul d.pos).2 hi
          have hr : i % d.sz < d.sz := Nat.mod_lt _ d.pos
          have hi' : i / d.sz * d.sz + i % d.sz = i := by rw [Nat.mul_comm]; exact Nat.div_add_mod i d.sz
          rw [← hi', flat_idx d (hget _ hq) hr] at hv
          obtain ⟨g1, g2, c, g3, g4⟩ := hf _ hq
          obtain ⟨v', k1, _⟩ := (g3 (fun _ => none)).get _ _ hv
          refine ⟨g2 v (List.mem_of_getElem? hv), v', ?_, fun ρ => ?_⟩
          · have := g4 _ _ k1
            rw [hi'] at this; exact this
          · obtain ⟨v'', q1, q2⟩ := (g3 ρ).get _ _ hv
            rw [k1] at q1; cases q1; exact q2
        have hpos : 0 < (flat d ((List.range len).map f)).length := by rw [flat_len, hll]; exact Nat.mul_pos (Nat.pos_of_ne_zero h0) d.pos
        obtain ⟨_, v0, k0, _⟩ := hcells 0 _ (List.getElem?_eq_getElem hpos)
        obtain ⟨C, T, fz, r1, _⟩ := cell_row k0
        refine ⟨C, T, fz, r1, fun i v hv => ?_⟩
        obtain ⟨s1, v', s2, s3⟩ := hcells i v hv
        obtain ⟨C', T', fz', r1', r2'⟩ := cell_row s2
        rw [r1] at r1'; cases r1'
        exact ⟨s1, v', r2', s3⟩
      obtain ⟨C, T, fz, r1, r2⟩ := hrow
      refine ⟨(List.range len).map f, fun y hy => ?_, by rw [hll]; exact Nat.le_trans hl hm, fun ρ H0 hr => ⟨ρ.set H0.next ⟨ab, ao, ao + cap * d.sz, d.sz⟩, H0.push (.cells (flat d ((List.range len).map f)) d.sz false), some ⟨H0.next, 0, none⟩, Rho.le_set hr.fresh, Ext.push _ _, ⟨fun b L hL => ?_, fun b L cs esz rw_ h1 h2 => ?_, fun b L kk es h1 h2 => noMapP hr h1 h2⟩, ?_, Rd.push _ _⟩⟩
      · obtain ⟨i, hi, rfl⟩ := List.mem_map.1 hy
        exact (hf i (List.mem_range.1 hi)).1
      · unfold Rho.set at hL
        split at hL
        · rename_i hbe; rw [hbe]; exact Nat.lt_succ_self _
        · exact Nat.lt_succ_of_lt (hr.lt _ _ hL)
      · by_cases hbe : b = H0.next
        · subst hbe
          rw [push_blk] at h1; cases h1
          unfold Rho.set at h2; rw [if_pos rfl] at h2; cases h2
          refine ⟨rfl, C, T, fz, r1, (fun h => by cases h), ?_, (fun i v hv => ?_), (fun h => by cases h), fun _ => rfl⟩
          · have hpos : 0 < (flat d ((List.range len).map f)).length := by rw [flat_len, hll]; exact Nat.mul_pos (Nat.pos_of_ne_zero h0) d.pos
            obtain ⟨_, v', k1, _⟩ := r2 ((flat d ((List.range len).map f)).length - 1) _ (List.getElem?_eq_getElem (by omega))
            have := (Array.getElem?_eq_some_iff.1 k1).1
            simp only
            omega
          · obtain ⟨s1, v', s2, s3⟩ := r2 i v hv
            exact ⟨s1, v', s2, s3 _⟩
        · rw [push_blk_ne _ _ hbe] at h1
          have h2' : ρ b = some L := by unfold Rho.set at h2; rw [if_neg hbe] at h2; exact h2
          obtain ⟨e1, C, T, fz, e2, e3, e4, e5, e6, e7⟩ := hr.cells b L cs esz rw_ h1 h2'
          exact ⟨e1, C, T, fz, e2, e3, e4, fun i v hv => by obtain ⟨f1, v', f2, f3⟩ := e5 i v hv; exact ⟨f1, v', f2, f3.mono (Rho.le_set hr.fresh)⟩, e6, e7⟩
      · refine .cons ?_ .nil
        have := VRel.slice (ρ := ρ.set H0.next ⟨ab, ao, ao + cap * d.sz, d.sz⟩) (b := H0.next) (off := 0) (n := len) (off' := ao) (cap := cap) (L := ⟨ab, ao, ao + cap * d.sz, d.sz⟩) (by unfold Rho.set; rw [if_pos rfl]) (.inr rfl) hl (Nat.le_refl _)
        show VRel _ (.slice _ ((List.range len).map f).length ((List.range len).map f).length) _
        rw [hll]; exact this

/-- Nothing is there yet. -/
theorem HRel.none (w : World) : HRel (fun _ => Option.none) ro ⟨0, fun _ => Option.none, fun _ _ h => by cases h⟩ w := ⟨(fun _ _ h => by cases h), (fun _ _ _ _ _ h _ => by cases h), (fun _ _ _ _ h _ => by cases h)⟩

/-- A law that always says true. -/
theorem law_calls {f : FuncId} {fn : Func} (hf : P.funcs[f]? = some fn) (hb : fn.body.isSome = true) (hnm : (fn.name == "runtime.NumGoroutine") = false) {vs cargs : List Value} {ρ : Rho} {H : Heap} (hr : HRel ρ ro H w) (ha : VRels ρ vs cargs)
    (h : EC P f vs H fun e _ => e = .ret (.bool true)) : Calls P f cargs.toArray w fun e w' => e = .returned (.bool true) ∧ Below w.heap.size w w' := by
  have hrun : (callFunc f cargs.toArray).run P w = .ok (.enter f cargs.toArray) w := by
    have hbn : fn.body.isNone = false := by cases hq : fn.body <;> simp [hq] at hb ⊢
    simp only [callFunc, Sem.run_bind, run_program, Result.andThen_ok, hf, hnm, hbn]
    rfl
  have := h.run ρ ro w cargs hr ro_noPriv ha
  unfold CallRun at this
  rw [hrun] at this
  refine Calls.mono this fun e w' ⟨r, H', ρ', own', h1, h2, h3, h4, h5⟩ => ?_
  subst h1
  cases e with
  | returned v' =>
    have h2 : VRel ρ' (.bool true) v' := h2
    cases h2
    have e3 := h5.ext
    unfold Ext3 at e3
    injection e3 with q1 q2
    injection q2 with q2 q3
    exact ⟨rfl, q1, q2, q3, h5.size, fun k hk => (h5.keep k hk (fun b h => by cases h)).1⟩
  | panicked c => exact h2.elim
  | outgrown => exact h2.elim
end
end Go.Am
