/- A slice of slices of floats, as an argument, and how it reads. No condition. -/
import Derived.Test.YtaaelokodfildaaAmOpen
set_option linter.unusedVariables false
set_option linter.unusedSimpArgs false
namespace Go.Am

/-- Slices as elements: where each lies and what it reads as. -/
abbrev SlE := Option Addr × List Nat
abbrev dSl : Enc SlE := Enc.one fun e => .slice e.1 e.2.length e.2.length
structure RdSS (H : Heap) (a : Option Addr) (es : List SlE) : Prop where
  out : Rd dSl H a es
  inn : ∀ e ∈ es, Rd dFlt H e.1 e.2
theorem RdSS.mono {H H' : Heap} {a : Option Addr} {es : List SlE} (h : RdSS H a es) (e : Ext H H') : RdSS H' a es := ⟨h.out.mono e, fun x hx => (h.inn x hx).mono e⟩

section
variable {P : Program} {w : World} {Ty : Type} {enc : TypeId × Value → Ty} {held : Bool}

/-- An inner slice. -/
theorem open_in {e f : TypeId} {G : Nat → Prop} (ht : P.underlying e = some (.slice f)) (hc : P.cellsOf f = 1) (he : ElemA P w f dFlt G) {fuel : Nat} {v : Value} {x : DataW Ty × List MemPlace}
    (h : DataW.trod enc P w 0 (fun _ => true) held fuel e [v] = some x) :
    ∃ xs : List Nat, xs.length ≤ 9223372036854775807 ∧ ∀ ρ H0, HRel ρ ro H0 w → ∃ ρ' H' a, Rho.le ρ ρ' ∧ Ext H0 H' ∧ HRel ρ' ro H' w ∧ VRel ρ' (.slice a xs.length xs.length) v ∧ Rd dFlt H' a xs := by
  have key : (∀ a l c, [v] = [.slice (some a) l c] → a.spot = none) → ∃ xs : List Nat, xs.length ≤ 9223372036854775807 ∧ ∀ ρ H0, HRel ρ ro H0 w → ∃ ρ' H' a, Rho.le ρ ρ' ∧ Ext H0 H' ∧ HRel ρ' ro H' w ∧ VRel ρ' (.slice a xs.length xs.length) v ∧ Rd dFlt H' a xs := fun hs => by
    obtain ⟨xs, _, h2, h3⟩ := open_sl (d := dFlt) ht hc he h hs
    refine ⟨xs, h2, fun ρ H0 hr => ?_⟩
    obtain ⟨ρ', H', a, k1, k2, k3, k4, k5⟩ := h3 ρ H0 hr
    cases k4 with
    | cons k4 _ => exact ⟨ρ', H', a, k1, k2, k3, k4, k5⟩
  rcases Deep.open_slice ht h with ⟨hv, _⟩ | ⟨a, len, cap, m, n, D, Pl, hv, hb, hl, hm, hmm, _, hx⟩
  · exact key fun a l c e => by rw [hv] at e; cases e
  · by_cases h0 : cap = 0
    · have hl0 : len = 0 := by omega
      subst h0; subst hl0
      cases hv
      exact ⟨[], by simp, fun ρ H0 hr => ⟨ρ, H0, none, Rho.le_refl _, Ext.refl _, hr, .nilSlice, Rd.nil⟩⟩
    · refine key fun a' l c e => ?_
      rw [hv] at e
      cases e
      simp only [if_true] at hmm
      obtain ⟨cs', h1, _⟩ := hx 0 (by omega)
      rw [hc] at h1
      obtain ⟨_, hlen, hcell⟩ := World.cells?_some h1
      have := hcell 0 (by omega)
      have e0 : (a.add (0 * 1)).add 0 = a := by simp [Addr.add]
      rw [e0] at this
      have h2 : cs'[0]? = some cs'[0] := List.getElem?_eq_getElem (by omega)
      rw [h2] at this
      exact World.cell?_spot this

theorem open_ss {t e f : TypeId} {G : Nat → Prop} (ht : P.underlying t = some (.slice e)) (hc : P.cellsOf e = 1) (hte : P.underlying e = some (.slice f)) (hcf : P.cellsOf f = 1) (he : ElemA P w f dFlt G) {fuel : Nat} {cs : List Value} {x : DataW Ty × List MemPlace}
    (h : DataW.trod enc P w 0 (fun _ => true) held fuel t cs = some x) (hs : ∀ a l c, cs = [.slice (some a) l c] → a.spot = none) :
    ∃ xss : List (List Nat), xss.length ≤ 9223372036854775807 ∧ (∀ xs ∈ xss, xs.length ≤ 9223372036854775807) ∧ ∀ ρ H0, HRel ρ ro H0 w → ∃ ρ' H' a, ∃ es : List SlE, es.map (·.2) = xss ∧ Rho.le ρ ρ' ∧ Ext H0 H' ∧ HRel ρ' ro H' w ∧ VRels ρ' [.slice a es.length es.length] cs ∧ RdSS H' a es := by
  rcases Deep.open_slice ht h with ⟨rfl, _⟩ | ⟨a, len, cap, m, n, D, Pl, rfl, hb, hl, hm, hmm, _, hx⟩
  · exact ⟨[], by simp, by simp, fun ρ H0 hr => ⟨ρ, H0, none, [], rfl, Rho.le_refl _, Ext.refl _, hr, .cons .nilSlice .nil, Rd.nil, by simp⟩⟩
  have hspot := hs a len cap rfl
  obtain ⟨ab, ao, asp⟩ := a
  simp only at hspot
  subst hspot
  simp only [if_true] at hmm
  subst hmm
  obtain ⟨V, hV⟩ := Deep.choose_lt (α := Value) (n := m) (p := fun i v => w.cell? ⟨ab, ao + i, none⟩ = some v ∧ DataW.trod enc P w 0 (fun _ => true) held n e [v] = some (D i, Pl i)) (fun i hi => by
    obtain ⟨cs', h1, h2⟩ := hx i hi
    rw [hc, Nat.mul_one] at h1
    obtain ⟨_, hlen, hcell⟩ := World.cells?_some h1
    match cs', hlen with
    | [v], _ =>
      refine ⟨v, ?_, h2⟩
      have := hcell 0 (by simp)
      have e0 : ((⟨ab, ao, none⟩ : Addr).add i).add 0 = ⟨ab, ao + i, none⟩ := by unfold Addr.add; split <;> simp_all
      rw [e0] at this
      simpa using this)
  obtain ⟨F, hF⟩ := Deep.choose_lt (α := List Nat) (n := m) (p := fun i xs => xs.length ≤ 9223372036854775807 ∧ ∀ ρ H0, HRel ρ ro H0 w → ∃ ρ' H' a, Rho.le ρ ρ' ∧ Ext H0 H' ∧ HRel ρ' ro H' w ∧ VRel ρ' (.slice a xs.length xs.length) (V i) ∧ Rd dFlt H' a xs) (fun i hi => open_in hte hcf he (hV i hi).2)
  have hall : ∀ k, k ≤ len → ∀ ρ H0, HRel ρ ro H0 w → ∃ ρ' H', ∃ es : List SlE, es.map (·.2) = (List.range k).map F ∧ Rho.le ρ ρ' ∧ Ext H0 H' ∧ HRel ρ' ro H' w ∧ ∀ i (y : SlE), es[i]? = some y → VRel ρ' (.slice y.1 y.2.length y.2.length) (V i) ∧ Rd dFlt H' y.1 y.2 := by
    intro k
    induction k with
    | zero => intro _ ρ H0 hr; exact ⟨ρ, H0, [], rfl, Rho.le_refl _, Ext.refl _, hr, fun i y h => by simp at h⟩
    | succ k ih =>
      intro hk ρ H0 hr
      obtain ⟨ρ1, H1, es, e1, e2, e3, e4, e5⟩ := ih (by omega) ρ H0 hr
      obtain ⟨ρ2, H2, a2, k1, k2, k3, k4, k5⟩ := (hF k (by omega)).2 ρ1 H1 e4
      have hel : es.length = k := by have := congrArg List.length e1; simpa using this
      refine ⟨ρ2, H2, es ++ [(a2, F k)], by rw [List.map_append, e1, List.range_succ, List.map_append]; rfl, Rho.le_trans e2 k1, e3.trans k2, k3, fun i y hy => ?_⟩
      by_cases hik : i < k
      · rw [List.getElem?_append_left (by omega)] at hy
        obtain ⟨h1, h2⟩ := e5 i y hy
        exact ⟨h1.mono k1, h2.mono k2⟩
      · have hi : i = k := by
          have := (List.getElem?_eq_some_iff.1 hy).1
          simp at this; omega
        subst hi
        rw [List.getElem?_append_right (by omega)] at hy
        rw [show i - es.length = 0 by omega] at hy
        simp at hy
        subst hy
        exact ⟨k4, k5⟩
  refine ⟨(List.range len).map F, by rw [List.length_map, List.length_range]; exact Nat.le_trans hl hm, fun xs hxs => ?_, fun ρ H0 hr => ?_⟩
  · obtain ⟨i, hi, rfl⟩ := List.mem_map.1 hxs
    exact (hF i (by have := List.mem_range.1 hi; omega)).1
  obtain ⟨ρ1, H1, es, e1, e2, e3, e4, e5⟩ := hall len (Nat.le_refl _) ρ H0 hr
  have hel : es.length = len := by have := congrArg List.length e1; simpa using this
  by_cases h0 : len = 0
  · subst h0
    have hes : es = [] := List.eq_nil_of_length_eq_zero hel
    subst hes
    refine ⟨ρ1.set H1.next ⟨ab, ao, ao + m * 1, 1⟩, H1.skip, some ⟨H1.next, 0, none⟩, [], e1, Rho.le_trans e2 (Rho.le_set e4.fresh), e3.trans (Ext.skip _), ⟨fun b L hL => ?_, fun b L cs esz rw_ h1 h2 => ?_, fun b L kk es h1 h2 => (noMap e4 (by have := H1.lt _ _ h1; unfold Rho.set at h2; rw [if_neg (by omega)] at h2; exact h2) h1).elim⟩, .cons (.slice (L := ⟨ab, ao, ao + m * 1, 1⟩) ?_ (.inr rfl) (Nat.zero_le _) (Nat.le_refl _)) .nil, Rd.empty, by simp⟩
    · unfold Rho.set at hL
      split at hL
      · rename_i hbe; rw [hbe]; exact Nat.lt_succ_self _
      · exact Nat.lt_succ_of_lt (e4.lt _ _ hL)
    · have hlt : b < H1.next := H1.lt _ _ h1
      have h2' : ρ1 b = some L := by unfold Rho.set at h2; rw [if_neg (by omega)] at h2; exact h2
      obtain ⟨f1, C, T, fz, f2, f3, f4, f5, f6, f7⟩ := e4.cells b L cs esz rw_ h1 h2'
      exact ⟨f1, C, T, fz, f2, f3, f4, fun i v hv => by obtain ⟨g1, v', g2, g3⟩ := f5 i v hv; exact ⟨g1, v', g2, g3.mono (Rho.le_set e4.fresh)⟩, f6, f7⟩
    · unfold Rho.set; rw [if_pos rfl]
  have hfl : ∀ (i : Nat) (v : Value), (flat dSl es)[i]? = some v → ∃ y : SlE, es[i]? = some y ∧ v = .slice y.1 y.2.length y.2.length := fun i v hv => by
    have hi : i < es.length := by have := (List.getElem?_eq_some_iff.1 hv).1; rw [flat_len, show (dSl).sz = 1 from rfl, Nat.mul_one] at this; exact this
    have h1 := flat_idx dSl (List.getElem?_eq_getElem hi) (r := 0) (by decide)
    have hv' : (flat dSl es)[i * 1 + 0]? = some v := by simpa using hv
    rw [show i * dSl.sz + 0 = i * 1 + 0 from rfl, hv'] at h1
    exact ⟨es[i], List.getElem?_eq_getElem hi, Option.some.inj h1⟩
  obtain ⟨C, T, fz, r1, _⟩ := cell_row (hV 0 (by omega)).1
  have r2 : ∀ i, i < m → C[ao + i]? = some (V i) := fun i hi => by
    obtain ⟨C', T', fz', r1', r2'⟩ := cell_row (hV i hi).1
    rw [r1] at r1'; cases r1'
    exact r2'
  refine ⟨ρ1.set H1.next ⟨ab, ao, ao + m * 1, 1⟩, H1.push (.cells (flat dSl es) 1 false), some ⟨H1.next, 0, none⟩, es, e1, Rho.le_trans e2 (Rho.le_set e4.fresh), e3.trans (Ext.push _ _), ⟨fun b L hL => ?_, fun b L cs esz rw_ h1 h2 => ?_, fun b L kk es h1 h2 => noMapP e4 h1 h2⟩, ?_, Rd.push _ _, fun y hy => ?_⟩
  · unfold Rho.set at hL
    split at hL
    · rename_i hbe; rw [hbe]; exact Nat.lt_succ_self _
    · exact Nat.lt_succ_of_lt (e4.lt _ _ hL)
  · by_cases hbe : b = H1.next
    · subst hbe
      rw [push_blk] at h1; cases h1
      unfold Rho.set at h2; rw [if_pos rfl] at h2; cases h2
      refine ⟨rfl, C, T, fz, r1, (fun h => by cases h), ?_, (fun i v hv => ?_), (fun h => by cases h), fun _ => rfl⟩
      · rw [flat_len, hel]
        have := (Array.getElem?_eq_some_iff.1 (r2 (len - 1) (by omega))).1
        show ao + len * 1 ≤ C.size
        omega
      · obtain ⟨y, hy, rfl⟩ := hfl i v hv
        have hi : i < len := by have := (List.getElem?_eq_some_iff.1 hy).1; omega
        exact ⟨rfl, V i, r2 i (by omega), (e5 i y hy).1.mono (Rho.le_set e4.fresh)⟩
    · rw [push_blk_ne _ _ hbe] at h1
      have h2' : ρ1 b = some L := by unfold Rho.set at h2; rw [if_neg hbe] at h2; exact h2
      obtain ⟨f1, C, T, fz, f2, f3, f4, f5, f6, f7⟩ := e4.cells b L cs esz rw_ h1 h2'
      exact ⟨f1, C, T, fz, f2, f3, f4, fun i v hv => by obtain ⟨g1, v', g2, g3⟩ := f5 i v hv; exact ⟨g1, v', g2, g3.mono (Rho.le_set e4.fresh)⟩, f6, f7⟩
  · refine .cons ?_ .nil
    have := VRel.slice (ρ := ρ1.set H1.next ⟨ab, ao, ao + m * 1, 1⟩) (b := H1.next) (off := 0) (n := len) (off' := ao) (cap := m) (L := ⟨ab, ao, ao + m * 1, 1⟩) (by unfold Rho.set; rw [if_pos rfl]) (.inr rfl) hl (Nat.le_refl _)
    show VRel _ (.slice _ es.length es.length) _
    rw [hel]; exact this
  · obtain ⟨i, hi, rfl⟩ := List.getElem_of_mem hy
    exact (e5 i _ (List.getElem?_eq_getElem hi)).2.mono (Ext.push _ _)
end
end Go.Am
