/- Loaded code: what a saved code's bytes read as. Conditions: none that is not said. -/
import Derived.Test.YthcnnificgbmhaaSave
set_option linter.unusedVariables false
set_option linter.unusedSimpArgs false
namespace Go.Proofs.Ythcnnificgbmhaa
open Go.Am
open FlCore (canon isNan)

abbrev at_ (bs : List Int) (i : Nat) : Int := (bs[i]?).getD 0
def cntAt (bs : List Int) (i : Nat) : Int := at_ bs i + 256 * at_ bs (i + 1)
def cntsL (bs : List Int) (i n : Nat) : List Int := (List.range n).map fun j : Nat => cntAt bs (i + 2 * j)
@[simp] theorem cntsL_len (bs : List Int) (i n : Nat) : (cntsL bs i n).length = n := by simp [cntsL]
/-- Bytes are bytes. -/
def ByteL (bs : List Int) : Prop := ∀ b ∈ bs, 0 ≤ b ∧ b ≤ 255
theorem at_range {bs : List Int} (h : ByteL bs) (i : Nat) : 0 ≤ at_ bs i ∧ at_ bs i ≤ 255 := by
  unfold at_
  cases hq : bs[i]? with
  | none => simp
  | some b => exact h b (List.mem_of_getElem? hq)
theorem cnt_range {bs : List Int} (h : ByteL bs) (i : Nat) : 0 ≤ cntAt bs i ∧ cntAt bs i ≤ 65535 := by
  have := at_range h i
  have := at_range h (i + 1)
  unfold cntAt
  omega
/-- What a loaded code's numbers are. -/
def Norm (c : Code') : Prop := ∀ s ∈ c.steps, canon s.k = s.k ∧ s.k < 18446744073709551616 ∧ (¬ s.op = 1 → s.k = 0)
def Good (c : Code') (bs : List Int) : Prop := verB c = true ∧ savL c = bs ∧ Norm c
/-- A number that two bytes hold. -/
abbrev C16 (n : Int) : Prop := 0 ≤ n ∧ n ≤ 65535
structure CodeM (c : Code') : Prop where
  ins : ∀ n ∈ c.ins, C16 n
  steps : ∀ s ∈ c.steps, ∀ n ∈ fldL s, C16 n
  outs : ∀ o ∈ c.outs, C16 o.off ∧ C16 o.len
  peak : C16 c.peak
theorem okLen_k {n : Int} (h : okLen n = true) : C16 n := by simp [okLen] at h; omega
theorem spanB_k {peak : Int} {steps : List Step} {n : Nat} {off size : Int} (hp : peak ≤ 50000) (h : spanB peak steps n off size = true) : C16 off ∧ C16 size := by
  simp only [spanB, Bool.and_eq_true, decide_eq_true_eq] at h
  obtain ⟨⟨h1, h2, h3, h4⟩, _⟩ := h
  exact ⟨⟨h3, by omega⟩, by omega, by omega⟩
theorem ver_k {c : Code'} (h : verB c = true) : CodeM c := by
  simp only [verB, Bool.and_eq_true, decide_eq_true_eq] at h
  obtain ⟨⟨⟨⟨⟨⟨v1, v2⟩, v3⟩, v4⟩, v5⟩, v6⟩, v7⟩ := h
  rw [List.all_eq_true] at v2 v6 v7
  refine ⟨fun n hn => okLen_k (v2 n hn), fun s hs => ?_, fun o ho => spanB_k v5.2 (v7 o ho), ⟨v5.1, by omega⟩⟩
  obtain ⟨i, hi, rfl⟩ := List.getElem_of_mem hs
  have hst := v6 i (List.mem_range.2 hi)
  rw [stepAt_get (List.getElem?_eq_getElem hi)] at hst
  generalize c.steps[i] = s at hst
  simp only [stepB, Bool.and_eq_true, decide_eq_true_eq] at hst
  obtain ⟨⟨s1, s2⟩, s3⟩ := hst
  have s1' := s1
  simp only [formB, Bool.and_eq_true, decide_eq_true_eq] at s1'
  obtain ⟨⟨⟨t1, t2⟩, ⟨t3, t4⟩, t5⟩, t6⟩ := s1'
  have hlen : 1 ≤ s.len ∧ s.len ≤ 1000 := by simpa [okLen] using t2
  have hop := opnd_range s.op
  rw [List.all_eq_true] at s3
  have hfld : ∀ k : Int, 0 ≤ k → k < opnd s.op → C16 (stepField s k) := fun k h0 hk => by
    have := s3 k.toNat (List.mem_range.2 (by omega))
    rw [Int.toNat_of_nonneg h0] at this
    simp only [opB, Bool.and_eq_true] at this
    exact (spanB_k v5.2 this.1).1
  have hn : C16 s.n := by
    by_cases e0 : s.op = 0
    · rw [if_pos e0, decide_eq_true_eq] at t6; omega
    by_cases e1 : s.op = 1
    · rw [if_neg e0, if_pos e1, decide_eq_true_eq] at t6; omega
    rw [if_neg e0, if_neg e1] at t6
    exact okLen_k (fits_len (v := stepVal s) t2 e0 e1 ⟨t1.2, t1.1⟩ t6)
  have ha : C16 s.a := by
    by_cases hk : 0 < opnd s.op
    · exact hfld 0 (by omega) hk
    simp only [restB, stepField, Bool.or_eq_true, Bool.and_eq_true, decide_eq_true_eq] at t3
    rcases t3 with ((t3 | t3) | t3) | t3
    · exact absurd t3 hk
    · simp at t3; omega
    · simp at t3
    · rw [if_pos t3.2, decide_eq_true_eq] at t6; omega
  have hb : C16 s.b := by
    by_cases hk : 1 < opnd s.op
    · exact hfld 1 (by omega) hk
    simp only [restB, stepField, Bool.or_eq_true, Bool.and_eq_true, decide_eq_true_eq] at t4
    rcases t4 with ((t4 | t4) | t4) | t4
    · exact absurd t4 hk
    · simp at t4; omega
    · simp at t4
    · simp at t4
  have hc : C16 s.c := by
    by_cases hk : 2 < opnd s.op
    · exact hfld 2 (by omega) hk
    simp only [restB, stepField, Bool.or_eq_true, Bool.and_eq_true, decide_eq_true_eq] at t5
    rcases t5 with ((t5 | t5) | t5) | t5
    · exact absurd t5 hk
    · simp at t5; omega
    · have hpl := t5.2
      have hop12 : s.op = 11 ∨ s.op = 12 := by simpa [placeB] using hpl
      rw [if_neg (by omega), if_neg (by omega)] at t6
      have := fits_c (v := stepVal s) hpl t6 hlen.2
      simp only [stepVal] at this
      omega
    · simp at t5
  intro n hnm
  simp only [fldL, List.mem_cons, List.not_mem_nil, or_false] at hnm
  rcases hnm with rfl | rfl | rfl | rfl | rfl | rfl
  · exact okLen_k t2
  · exact hn
  · exact ⟨s2.1, by omega⟩
  · exact ha
  · exact hb
  · exact hc

structure CodeK (c : Code') : Prop where
  m : CodeM c
  ins : c.ins.length ≤ 20
  steps : c.steps.length ≤ 2000
  outs : c.outs.length ≤ 50
  op : ∀ s ∈ c.steps, 0 ≤ s.op ∧ s.op ≤ 13
theorem ver_K {c : Code'} (h : verB c = true) : CodeK c := by
  have hm := ver_k h
  simp only [verB, Bool.and_eq_true, decide_eq_true_eq] at h
  obtain ⟨⟨⟨⟨⟨⟨v1, v2⟩, v3⟩, v4⟩, v5⟩, v6⟩, v7⟩ := h
  refine ⟨hm, v1, v3, v4, fun s hs => ?_⟩
  rw [List.all_eq_true] at v6
  obtain ⟨i, hi, rfl⟩ := List.getElem_of_mem hs
  have hst := v6 i (List.mem_range.2 hi)
  rw [stepAt_get (List.getElem?_eq_getElem hi)] at hst
  generalize c.steps[i] = s at hst
  simp only [stepB, formB, Bool.and_eq_true, decide_eq_true_eq] at hst
  exact hst.1.1.1.1.1
theorem u8w_id {n : Int} (h : 0 ≤ n ∧ n ≤ 255) : u8w n = n := by
  simp only [u8w, IntKind.wrap, IntKind.signed, IntKind.bits]
  simp
  omega
theorem u8w_low (n : Int) : u8w n = n % 256 := by
  simp only [u8w, IntKind.wrap, IntKind.signed, IntKind.bits]
  simp
theorem at_app_right (pre xs : List Int) (i : Nat) : at_ (pre ++ xs) (pre.length + i) = at_ xs i := by
  unfold at_
  rw [List.getElem?_append_right (by omega)]
  congr 2
  omega
theorem at_app_left {xs post : List Int} {i : Nat} (h : i < xs.length) : at_ (xs ++ post) i = at_ xs i := by
  unfold at_
  rw [List.getElem?_append_left h]
theorem cntAt_mid (pre post : List Int) {n : Int} (h : C16 n) : cntAt (pre ++ (cntB n ++ post)) pre.length = n := by
  unfold cntAt
  have h0 := at_app_right pre (cntB n ++ post) 0
  rw [Nat.add_zero] at h0
  rw [h0, at_app_right pre (cntB n ++ post) 1]
  show u8w n + 256 * u8w (n / 256) = n
  rw [u8w_low, u8w_low]
  omega
theorem cnts_mid (pre post : List Int) {ns : List Int} (h : ∀ n ∈ ns, C16 n) : cntsL (pre ++ (ns.flatMap cntB ++ post)) pre.length ns.length = ns := by
  induction ns generalizing pre with
  | nil => rfl
  | cons n r ih =>
    have h1 := cntAt_mid pre (r.flatMap cntB ++ post) (h n (by simp))
    have h2 := ih (pre ++ cntB n) (fun x hx => h x (by simp [hx]))
    have e : pre ++ ((n :: r).flatMap cntB ++ post) = pre ++ (cntB n ++ (r.flatMap cntB ++ post)) := by simp
    have e2 : (pre ++ cntB n) ++ (r.flatMap cntB ++ post) = pre ++ (cntB n ++ (r.flatMap cntB ++ post)) := by simp
    rw [e2] at h2
    rw [e]
    unfold cntsL at h2 ⊢
    rw [List.length_cons, List.range_succ_eq_map, List.map_cons, List.map_map]
    have hl : (pre ++ cntB n).length = pre.length + 2 := by rw [List.length_append]; rfl
    rw [hl] at h2
    rw [Nat.mul_zero, Nat.add_zero, h1]
    congr 1
    refine Eq.trans ?_ h2
    apply List.map_congr_left
    intro j _
    show cntAt _ (pre.length + 2 * (j + 1)) = _
    congr 1
    omega
/-- The value of n bytes, the low one first. -/
def valB : Nat → List Int → Nat
  | 0, _ => 0
  | n + 1, bs => (at_ bs 0).toNat + 256 * valB n (bs.drop 1)
theorem valB_low : ∀ n b post, b < 256 ^ n → valB n (lowB n b ++ post) = b
  | 0, b, post, h => by simp at h; subst h; rfl
  | n + 1, b, post, h => by
    have hd : b / 256 < 256 ^ n := by
      rw [Nat.pow_succ] at h
      exact Nat.div_lt_of_lt_mul (by rw [Nat.mul_comm]; exact h)
    simp only [lowB, List.cons_append, valB, List.drop_succ_cons, List.drop_zero]
    rw [valB_low n (b / 256) post hd]
    show (u8w (b : Int)).toNat + 256 * (b / 256) = b
    rw [u8w_low]
    omega
theorem cnts_right (pre xs : List Int) (i n : Nat) : cntsL (pre ++ xs) (pre.length + i) n = cntsL xs i n := by
  unfold cntsL
  apply List.map_congr_left
  intro j _
  show at_ _ _ + 256 * at_ _ _ = at_ _ _ + 256 * at_ _ _
  rw [show pre.length + i + 2 * j = pre.length + (i + 2 * j) by omega, at_app_right, show pre.length + (i + 2 * j) + 1 = pre.length + (i + 2 * j + 1) by omega, at_app_right]
theorem cnts_one (bs : List Int) (i : Nat) : cntsL bs i 1 = [cntAt bs i] := rfl
def posS (c : Code') (k : Nat) : Nat := (savB c ++ (c.steps.take k).flatMap stepBy).length
def posO (c : Code') (k : Nat) : Nat := (savC c).length + 4 * k
theorem spans_len (os : List Span) : (os.flatMap spanBy).length = 4 * os.length := by
  induction os with
  | nil => rfl
  | cons o r ih => rw [List.flatMap_cons, List.length_append, ih, spanBy_len, List.length_cons]; omega
theorem posS_zero (c : Code') : posS c 0 = 6 + 2 * c.ins.length := by unfold posS; rw [List.take_zero, List.flatMap_nil, List.append_nil, savB_len]
theorem posS_succ {c : Code'} {k : Nat} (h : k < c.steps.length) : posS c (k + 1) = posS c k + (stepBy c.steps[k]).length := by
  unfold posS; rw [take_flat _ h, ← List.append_assoc, List.length_append (bs := stepBy _)]
theorem posO_zero (c : Code') : posO c 0 = posS c c.steps.length + 2 := by
  unfold posO posS savC
  rw [List.take_of_length_le (Nat.le_refl _), List.length_append (bs := cntB _), cntB_len]
theorem stepBy_len (s : Step) : (stepBy s).length = 13 + if s.op = 1 then 8 else 0 := by
  unfold stepBy
  rw [List.length_append, List.length_append, cnt_len]
  split <;> simp [fldL]
section
variable {c : Code'} {bs : List Int} (h : Good c bs)
include h
theorem Good.k : CodeK c := ver_K h.1
theorem Good.len : bs.length = posO c c.outs.length + 2 := by
  rw [← h.2.1]; unfold savL posO
  rw [List.length_append, List.length_append, spans_len, cntB_len]
theorem Good.insN : cntAt bs 2 = c.ins.length := by
  have hk := h.k
  have e : bs = [71, 76] ++ (cntB (c.ins.length : Int) ++ (c.ins.flatMap cntB ++ (cntB c.steps.length ++ (c.steps.flatMap stepBy ++ (cntB c.outs.length ++ (c.outs.flatMap spanBy ++ cntB c.peak)))))) := by
    rw [← h.2.1]; simp only [savL, savC, savB, savA, List.append_assoc]
  rw [e]
  exact cntAt_mid [71, 76] _ ⟨by omega, by have := hk.ins; omega⟩
theorem Good.ins : cntsL bs 4 c.ins.length = c.ins := by
  have hk := h.k
  have e : bs = savA c ++ (c.ins.flatMap cntB ++ (cntB c.steps.length ++ (c.steps.flatMap stepBy ++ (cntB c.outs.length ++ (c.outs.flatMap spanBy ++ cntB c.peak))))) := by
    rw [← h.2.1]; simp only [savL, savC, savB, List.append_assoc]
  rw [e]
  exact cnts_mid (savA c) _ hk.m.ins
theorem Good.stepsN : cntAt bs (4 + 2 * c.ins.length) = c.steps.length := by
  have hk := h.k
  have e : bs = (savA c ++ c.ins.flatMap cntB) ++ (cntB c.steps.length ++ (c.steps.flatMap stepBy ++ (cntB c.outs.length ++ (c.outs.flatMap spanBy ++ cntB c.peak)))) := by
    rw [← h.2.1]; simp only [savL, savC, savB, List.append_assoc]
  have := cntAt_mid (savA c ++ c.ins.flatMap cntB) (c.steps.flatMap stepBy ++ (cntB c.outs.length ++ (c.outs.flatMap spanBy ++ cntB c.peak))) (n := c.steps.length) ⟨by omega, by have := hk.steps; omega⟩
  rw [← e, List.length_append, savA_len, cnt_len] at this
  exact this
theorem Good.lenS : posS c c.steps.length + 4 + 4 * c.outs.length = bs.length := by
  rw [h.len]; unfold posO; have := posO_zero c; unfold posO at this; omega
theorem posS_le {k : Nat} (hk : k ≤ c.steps.length) : posS c k + 4 ≤ bs.length := by
  have h1 : posS c k ≤ posS c c.steps.length := by
    unfold posS
    rw [List.length_append, List.length_append, List.take_of_length_le (Nat.le_refl c.steps.length)]
    have : c.steps.flatMap stepBy = (c.steps.take k).flatMap stepBy ++ (c.steps.drop k).flatMap stepBy := by rw [← List.flatMap_append, List.take_append_drop]
    rw [this, List.length_append]; omega
  have := h.lenS
  omega
theorem Good.step {k : Nat} (hk : k < c.steps.length) : at_ bs (posS c k) = c.steps[k].op ∧ cntsL bs (posS c k + 1) 6 = fldL c.steps[k] ∧ (c.steps[k].op = 1 → valB 8 (bs.drop (posS c k + 13)) = c.steps[k].k) := by
  have hm := h.k
  have hmem : c.steps[k] ∈ c.steps := List.getElem_mem hk
  have hop := hm.op _ hmem
  have hf := hm.m.steps _ hmem
  have hkk := h.2.2 _ hmem
  have es : c.steps.flatMap stepBy = (c.steps.take k).flatMap stepBy ++ (stepBy c.steps[k] ++ (c.steps.drop (k + 1)).flatMap stepBy) := by
    conv => lhs; rw [← List.take_append_drop k c.steps, List.drop_eq_getElem_cons hk]
    rw [List.flatMap_append, List.flatMap_cons]
  generalize c.steps[k] = s at *
  have e : bs = (savB c ++ (c.steps.take k).flatMap stepBy) ++ ([u8w s.op] ++ ((fldL s).flatMap cntB ++ ((if s.op = 1 then lowB 8 (canon s.k) else []) ++ ((c.steps.drop (k + 1)).flatMap stepBy ++ (cntB c.outs.length ++ (c.outs.flatMap spanBy ++ cntB c.peak)))))) := by
    rw [← h.2.1]; simp only [savL, savC]; rw [es]; simp only [stepBy, List.append_assoc]
  unfold posS
  generalize savB c ++ (c.steps.take k).flatMap stepBy = pre at e ⊢
  generalize (c.steps.drop (k + 1)).flatMap stepBy ++ (cntB c.outs.length ++ (c.outs.flatMap spanBy ++ cntB c.peak)) = post at e
  refine ⟨?_, ?_, fun h1 => ?_⟩
  · rw [e]
    have := at_app_right pre ([u8w s.op] ++ ((fldL s).flatMap cntB ++ ((if s.op = 1 then lowB 8 (canon s.k) else []) ++ post))) 0
    rw [Nat.add_zero] at this
    rw [this]
    exact u8w_id ⟨hop.1, by omega⟩
  · rw [e, cnts_right]
    exact cnts_mid [u8w s.op] _ hf
  · have e2 : bs = (pre ++ ([u8w s.op] ++ (fldL s).flatMap cntB)) ++ (lowB 8 (canon s.k) ++ post) := by
      rw [e, if_pos h1]; simp only [List.append_assoc]
    rw [e2, List.drop_left' (by rw [List.length_append, List.length_append, cnt_len]; rfl), valB_low 8 _ _ (by rw [hkk.1]; exact hkk.2.1), hkk.1]
theorem Good.outsN : cntAt bs (posS c c.steps.length) = c.outs.length := by
  have hk := h.k
  have e : bs = (savB c ++ c.steps.flatMap stepBy) ++ (cntB c.outs.length ++ (c.outs.flatMap spanBy ++ cntB c.peak)) := by
    rw [← h.2.1]; simp only [savL, savC, List.append_assoc]
  have := cntAt_mid (savB c ++ c.steps.flatMap stepBy) (c.outs.flatMap spanBy ++ cntB c.peak) (n := c.outs.length) ⟨by omega, by have := hk.outs; omega⟩
  unfold posS
  rw [List.take_of_length_le (Nat.le_refl _)]
  rw [← e] at this
  exact this
theorem Good.out {k : Nat} (hk : k < c.outs.length) : cntsL bs (posO c k) 2 = [c.outs[k].off, c.outs[k].len] := by
  have hf := h.k.m.outs _ (List.getElem_mem hk)
  have es : c.outs.flatMap spanBy = (c.outs.take k).flatMap spanBy ++ (spanBy c.outs[k] ++ (c.outs.drop (k + 1)).flatMap spanBy) := by
    conv => lhs; rw [← List.take_append_drop k c.outs, List.drop_eq_getElem_cons hk]
    rw [List.flatMap_append, List.flatMap_cons]
  generalize c.outs[k] = o at *
  have e : bs = (savC c ++ (c.outs.take k).flatMap spanBy) ++ ([o.off, o.len].flatMap cntB ++ ((c.outs.drop (k + 1)).flatMap spanBy ++ cntB c.peak)) := by
    rw [← h.2.1]; simp only [savL]; rw [es]; simp only [spanBy, List.append_assoc, List.flatMap_cons, List.flatMap_nil, List.append_nil]
  have hp : posO c k = (savC c ++ (c.outs.take k).flatMap spanBy).length := by unfold posO; rw [List.length_append, spans_len, List.length_take, Nat.min_eq_left (by omega)]
  rw [hp]
  conv => lhs; rw [e]
  exact cnts_mid _ _ (by intro n hn; simp at hn; rcases hn with rfl | rfl; exact hf.1; exact hf.2)
theorem Good.peak_ : cntAt bs (posO c c.outs.length) = c.peak := by
  have hk := h.k
  have e : bs = (savC c ++ c.outs.flatMap spanBy) ++ (cntB c.peak ++ []) := by
    rw [← h.2.1]; simp only [savL, List.append_assoc, List.append_nil]
  have := cntAt_mid (savC c ++ c.outs.flatMap spanBy) [] (n := c.peak) hk.m.peak
  rw [← e, List.length_append, spans_len] at this
  exact this
end
end Go.Proofs.Ythcnnificgbmhaa
