/- SaveCode, both sides. Conditions: lists of at most 2^20 elements. -/
import Derived.Test.YthcnnificgbmhaaSavd
import Derived.Test.YthcnnificgbmhaaVerd
set_option linter.unusedVariables false
set_option linter.unusedSimpArgs false
namespace Go.Proofs.Ythcnnificgbmhaa
open Go.Am

theorem okLen_n {n : Int} (h : okLen n = true) : Cn n := by simp [okLen] at h; omega
theorem spanB_n {peak : Int} {steps : List Step} {n : Nat} {off size : Int} (hp : peak ≤ 50000) (h : spanB peak steps n off size = true) : Cn off ∧ Cn size := by
  simp only [spanB, Bool.and_eq_true, decide_eq_true_eq] at h
  obtain ⟨⟨h1, h2, h3, h4⟩, _⟩ := h
  exact ⟨⟨h3, by omega⟩, by omega, by omega⟩
theorem fits_c {v : Val} {a b c : Int} (hp : placeB v.op = true) (h : fitsB v a b c = true) (hv : v.len ≤ 1000) : 0 ≤ v.c ∧ (v.c < a ∧ a ≤ 1000 ∨ v.c < v.len) := by
  have hop : v.op = 11 ∨ v.op = 12 := by simpa [placeB] using hp
  unfold fitsB at h
  rcases hop with e | e
  · rw [if_neg (by rw [e]; decide), if_neg (by omega), if_pos e] at h
    simp [okLen] at h
    omega
  · rw [if_neg (by rw [e]; decide), if_neg (by omega), if_neg (by omega), if_neg (by omega), if_pos e] at h
    simp at h
    omega
theorem ver_nums {c : Code'} (h : verB c = true) : CodeN c := by
  simp only [verB, Bool.and_eq_true, decide_eq_true_eq] at h
  obtain ⟨⟨⟨⟨⟨⟨v1, v2⟩, v3⟩, v4⟩, v5⟩, v6⟩, v7⟩ := h
  rw [List.all_eq_true] at v2 v6 v7
  refine ⟨fun n hn => okLen_n (v2 n hn), fun s hs => ?_, fun o ho => spanB_n v5.2 (v7 o ho), ⟨v5.1, by omega⟩⟩
  obtain ⟨i, hi, rfl⟩ := List.getElem_of_mem hs
  have hst := v6 i (List.mem_range.2 hi)
  rw [stepAt_get (List.getElem?_eq_getElem hi)] at hst
  generalize c.steps[i] = s at hst
  simp only [stepB, Bool.and_eq_true, decide_eq_true_eq] at hst
  obtain ⟨⟨s1, s2⟩, s3⟩ := hst
  have s1' := s1
  simp only [formB, Bool.and_eq_true, decide_eq_true_eq] at s1'
  obtain ⟨⟨⟨t1, t2⟩, ⟨t3, t4⟩, t5⟩, t6⟩ := s1'
  have hlen : 1 ≤ s.len ∧ s.len ≤ 1000 := by simpa [okLen] using t2
  have hop := opnd_range s.op
  rw [List.all_eq_true] at s3
  have hfld : ∀ k : Int, 0 ≤ k → k < opnd s.op → Cn (stepField s k) := fun k h0 hk => by
    have := s3 k.toNat (List.mem_range.2 (by omega))
    rw [Int.toNat_of_nonneg h0] at this
    simp only [opB, Bool.and_eq_true] at this
    exact (spanB_n v5.2 this.1).1
  have hn : Cn s.n := by
    by_cases e0 : s.op = 0
    · rw [if_pos e0, decide_eq_true_eq] at t6; omega
    by_cases e1 : s.op = 1
    · rw [if_neg e0, if_pos e1, decide_eq_true_eq] at t6; omega
    rw [if_neg e0, if_neg e1] at t6
    exact okLen_n (fits_len (v := stepVal s) t2 e0 e1 ⟨t1.2, t1.1⟩ t6)
  have ha : Cn s.a := by
    by_cases hk : 0 < opnd s.op
    · exact hfld 0 (by omega) hk
    simp only [restB, stepField, Bool.or_eq_true, Bool.and_eq_true, decide_eq_true_eq] at t3
    rcases t3 with ((t3 | t3) | t3) | t3
    · exact absurd t3 hk
    · simp at t3; omega
    · simp at t3
    · rw [if_pos t3.2, decide_eq_true_eq] at t6; omega
  have hb : Cn s.b := by
    by_cases hk : 1 < opnd s.op
    · exact hfld 1 (by omega) hk
    simp only [restB, stepField, Bool.or_eq_true, Bool.and_eq_true, decide_eq_true_eq] at t4
    rcases t4 with ((t4 | t4) | t4) | t4
    · exact absurd t4 hk
    · simp at t4; omega
    · simp at t4
    · simp at t4
  have hc : Cn s.c := by
    by_cases hk : 2 < opnd s.op
    · exact hfld 2 (by omega) hk
    simp only [restB, stepField, Bool.or_eq_true, Bool.and_eq_true, decide_eq_true_eq] at t5
    rcases t5 with ((t5 | t5) | t5) | t5
    · exact absurd t5 hk
    · simp at t5; omega
    · have hpl := t5.2
      have hop12 : s.op = 11 ∨ s.op = 12 := by simpa [placeB] using hpl
      rw [if_neg (by omega), if_neg (by omega)] at t6
      have := fits_c (v := stepVal s) hpl t6 hlen.2
      simp only [stepVal] at this
      omega
    · simp at t5
  intro n hnm
  simp only [fldL, List.mem_cons, List.not_mem_nil, or_false] at hnm
  rcases hnm with rfl | rfl | rfl | rfl | rfl | rfl
  · exact okLen_n t2
  · exact hn
  · exact ⟨s2.1, by omega⟩
  · exact ha
  · exact hb
  · exact hc

theorem _root_.Go.Am.Buf.wide {α : Type} {d : Enc α} {H : Heap} {base base' : Nat} {a : Option Addr} {xs : List α} (h : Buf d H base a xs) (hb : base' ≤ base) : Buf d H base' a xs := by
  cases h with
  | nil => exact .nil
  | blk h1 h2 => exact .blk (Nat.le_trans hb h1) h2
def svR (c : Code') : List Int := if verB c then savL c else []
def SR (H : Heap) (c : Code') (r : AEnd) (K : Heap) : Prop := ∃ o, r = .ret (sv o (svR c)) ∧ Ext H K ∧ Buf dByte K H.next o (svR c)
theorem SR.nil {H K : Heap} {c : Code'} (h : verB c = false) (e : Ext H K) : SR H c (.ret (.slice none 0 0)) K := by
  have : svR c = [] := by unfold svR; rw [h]; rfl
  unfold SR
  rw [this]
  exact ⟨none, rfl, e, .nil⟩
end Go.Proofs.Ythcnnificgbmhaa
