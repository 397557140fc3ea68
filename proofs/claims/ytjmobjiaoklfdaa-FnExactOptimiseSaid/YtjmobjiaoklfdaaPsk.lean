/- The dead pass as a plain function. Conditions: those of each. l4dead: the reference's, walked. Conditions: those of each. -/
import Derived.Test.YtjmobjiaoklfdaaPsg
set_option linter.unusedVariables false
set_option linter.unusedSimpArgs false
namespace Go.Proofs.Ytjmobjiaoklfdaa
open Go.Am
open FlCore (canon isNan)

theorem stor_one {α : Type} {f : α → Value} {K : Heap} {b lo : Nat} {xs : List α} (h : Buf (Enc.one f) K lo (some ⟨b, 0, none⟩) xs) {i off : Nat} (y : α) (hi : i < xs.length) (ho : off = 0 + i * 1) {l : List Value} (hl : l = [f y]) :
    Buf (Enc.one f) (K.stor b off l) lo (some ⟨b, 0, none⟩) (xs.set i y) ∧ K.stOK b off 1 ∧ But (some ⟨b, 0, none⟩) K (K.stor b off l) := by
  subst hl
  cases h with
  | blk h1 h2 =>
    obtain ⟨s1, s2⟩ := stor_but (Enc.one f) h2 (i := i) (o := off) (l := [f y]) y hi (by show off = i * 1; omega) rfl
    refine ⟨.blk h1 s1, ⟨_, _, h2, ?_⟩, s2⟩
    rw [flat_len]
    show off + 1 ≤ xs.length * 1
    omega
def bAt (l : List Bool) (i : Nat) : Bool := (l[i]?).getD false
theorem bAt_set {l : List Bool} {i : Nat} (b : Bool) (hi : i < l.length) (j : Nat) : bAt (l.set i b) j = if j = i then b else bAt l j := by
  unfold bAt
  rw [List.getElem?_set]
  by_cases h : i = j
  · subst h; simp [hi]
  · have h' : ¬ j = i := fun e => h e.symm
    simp [h, h']
theorem bAt_len {l : List Bool} {i : Nat} (h : ¬ i < l.length) : bAt l i = false := by unfold bAt; rw [List.getElem?_eq_none (by omega)]; rfl
/-- All of a list are set. -/
def setAll (os : List Int) (b : Bool) (l : List Bool) : List Bool := os.foldl (fun l o => l.set o.toNat (bAt l o.toNat || b)) l
theorem setAll_len (os : List Int) (b : Bool) : ∀ (l : List Bool), (setAll os b l).length = l.length := by
  induction os with
  | nil => intro l; rfl
  | cons o r ih => intro l; show (setAll r b _).length = _; rw [ih, List.length_set]
theorem setAll_at (b : Bool) (j : Nat) : ∀ (os : List Int) (l : List Bool), (∀ o ∈ os, o.toNat < l.length) → bAt (setAll os b l) j = (bAt l j || (b && os.any fun o => decide (o.toNat = j)))
  | [], l, _ => by simp [setAll]
  | o :: r, l, h => by
    show bAt (setAll r b (l.set o.toNat (bAt l o.toNat || b))) j = _
    rw [setAll_at b j r _ (fun x hx => by rw [List.length_set]; exact h x (by simp [hx])), bAt_set _ (h o (by simp))]
    by_cases hj : j = o.toNat
    · subst hj
      cases bAt l o.toNat <;> cases b <;> simp
    · have h' : ¬ o.toNat = j := fun e => hj e.symm
      simp [hj, h']
theorem setAll_snoc (os : List Int) (o : Int) (b : Bool) (l : List Bool) : setAll (os ++ [o]) b l = (setAll os b l).set o.toNat (bAt (setAll os b l) o.toNat || b) := by
  unfold setAll; rw [List.foldl_append]; rfl
theorem setAll_false (os : List Int) (l : List Bool) : setAll os false l = l := by
  induction os generalizing l with
  | nil => rfl
  | cons o r ih =>
    show setAll r false (l.set o.toNat (bAt l o.toNat || false)) = l
    have : l.set o.toNat (bAt l o.toNat || false) = l := by
      apply List.ext_getElem?
      intro i
      rw [List.getElem?_set]
      split
      · rename_i e; subst e
        split
        · rename_i hlt
          unfold bAt
          rw [List.getElem?_eq_getElem hlt]; simp
        · rename_i hlt; rw [List.getElem?_eq_none (by omega)]
      · rfl
    rw [this]; exact ih l
/-- What the reference marks, from the top down to n - d. -/
def nS (g : Graph) : Nat → List Bool
  | 0 => List.replicate g.vals.length false
  | d + 1 => setAll (argsL ((g.vals[g.vals.length - (d + 1)]?).getD v0)) (bAt (nS g d) (g.vals.length - (d + 1)) || g.outs.contains ((g.vals.length - (d + 1) : Nat) : Int)) ((nS g d).set (g.vals.length - (d + 1)) (bAt (nS g d) (g.vals.length - (d + 1)) || g.outs.contains ((g.vals.length - (d + 1) : Nat) : Int)))
/-- What the program marks. -/
def nI (g : Graph) : Nat → List Bool
  | 0 => setAll g.outs true (List.replicate g.vals.length false)
  | d + 1 => setAll (argsL ((g.vals[g.vals.length - (d + 1)]?).getD v0)) (bAt (nI g d) (g.vals.length - (d + 1))) (nI g d)
theorem nS_len (g : Graph) : ∀ d, (nS g d).length = g.vals.length
  | 0 => by simp [nS]
  | d + 1 => by simp only [nS]; rw [setAll_len, List.length_set, nS_len g d]
theorem nI_len (g : Graph) : ∀ d, (nI g d).length = g.vals.length
  | 0 => by simp only [nI]; rw [setAll_len]; simp
  | d + 1 => by simp only [nI]; rw [setAll_len, nI_len g d]
theorem args_in {v : Val} {n : Int} (h : OpsIn v n) : ∀ o ∈ argsL v, 0 ≤ o ∧ o < n := fun o ho => by
  unfold argsL at ho
  rcases opnd4 v.op with e | e | e | e <;> rw [e] at ho
  · simp at ho
  · simp at ho; subst ho; exact h.a (by omega)
  · simp at ho; rcases ho with rfl | rfl
    · exact h.a (by omega)
    · exact h.b (by omega)
  · simp at ho; rcases ho with rfl | rfl | rfl
    · exact h.a (by omega)
    · exact h.b (by omega)
    · exact h.c (by omega)
theorem any_out {os : List Int} {n : Nat} (h : ∀ o ∈ os, 0 ≤ o ∧ o < (n : Int)) (j : Nat) : (os.any fun o => decide (o.toNat = j)) = os.contains (j : Int) := by
  rw [Bool.eq_iff_iff, List.any_eq_true, List.contains_iff_mem]
  constructor
  · rintro ⟨o, ho, he⟩
    have := h o ho
    have e : o = (j : Int) := by simp at he; omega
    rw [← e]; exact ho
  · intro ho; exact ⟨_, ho, by simp⟩
theorem nIS {g : Graph} (hops : OpsG g.vals) (houts : ∀ o ∈ g.outs, 0 ≤ o ∧ o < (g.vals.length : Int)) : ∀ d, d ≤ g.vals.length → ∀ j, bAt (nI g d) j = (bAt (nS g d) j || g.outs.contains (j : Int))
  | 0, _, j => by
    simp only [nI, nS]
    rw [setAll_at true j _ _ (fun o ho => by have := houts o ho; simp; omega), any_out houts]
    simp
  | d + 1, hd, j => by
    have IH := nIS hops houts d (by omega)
    have hi : g.vals.length - (d + 1) < g.vals.length := by omega
    have hv : (g.vals[g.vals.length - (d + 1)]?).getD v0 = g.vals[g.vals.length - (d + 1)] := by rw [List.getElem?_eq_getElem hi]; rfl
    have hin := args_in (hops _ _ (List.getElem?_eq_getElem hi))
    simp only [nI, nS, hv]
    rw [setAll_at _ j _ _ (fun o ho => by have := hin o ho; rw [nI_len]; omega), setAll_at _ j _ _ (fun o ho => by have := hin o ho; rw [List.length_set, nS_len]; omega), bAt_set _ (by rw [nS_len]; exact hi), IH j, IH (g.vals.length - (d + 1))]
    by_cases hj : j = g.vals.length - (d + 1)
    · subst hj
      simp only [if_true]
      generalize bAt (nS g d) (g.vals.length - (d + 1)) = x
      generalize g.outs.contains ((g.vals.length - (d + 1) : Nat) : Int) = y
      generalize (argsL g.vals[g.vals.length - (d + 1)]).any _ = z
      cases x <;> cases y <;> cases z <;> rfl
    · simp only [if_neg hj]
      generalize bAt (nS g d) (g.vals.length - (d + 1)) = x
      generalize g.outs.contains ((g.vals.length - (d + 1) : Nat) : Int) = y
      generalize g.outs.contains (j : Int) = y2
      generalize (argsL g.vals[g.vals.length - (d + 1)]).any _ = z
      generalize bAt (nS g d) j = x2
      cases x <;> cases y <;> cases z <;> cases x2 <;> cases y2 <;> rfl
/-- What is an output is marked when its turn has come. -/
theorem nS_out {g : Graph} (hops : OpsG g.vals) : ∀ d, d ≤ g.vals.length → ∀ j, g.vals.length - d ≤ j → j < g.vals.length → g.outs.contains (j : Int) = true → bAt (nS g d) j = true
  | 0, _, j, h1, h2, _ => by omega
  | d + 1, hd, j, h1, h2, ho => by
    have hi : g.vals.length - (d + 1) < g.vals.length := by omega
    have hv : (g.vals[g.vals.length - (d + 1)]?).getD v0 = g.vals[g.vals.length - (d + 1)] := by rw [List.getElem?_eq_getElem hi]; rfl
    have hin := args_in (hops _ _ (List.getElem?_eq_getElem hi))
    simp only [nS, hv]
    rw [setAll_at _ j _ _ (fun o ho => by have := hin o ho; rw [List.length_set, nS_len]; omega), bAt_set _ (by rw [nS_len]; exact hi)]
    by_cases hj : j = g.vals.length - (d + 1)
    · subst hj
      rw [if_pos rfl, ho]; simp
    · rw [if_neg hj, nS_out hops d (by omega) j (by omega) h2 ho]; simp
theorem need_eq {g : Graph} (hv : validB g = true) : nI g g.vals.length = nS g g.vals.length := by
  have hops := valid_ops hv
  apply List.ext_getElem?
  intro j
  by_cases hj : j < g.vals.length
  · have h1 := nIS hops (valid_outs hv) g.vals.length (Nat.le_refl _) j
    have h2 : bAt (nI g g.vals.length) j = bAt (nS g g.vals.length) j := by
      rw [h1]
      cases hc : g.outs.contains (j : Int) with
      | false => simp
      | true => rw [nS_out hops g.vals.length (Nat.le_refl _) j (by omega) hj hc]; rfl
    have e1 := List.getElem?_eq_getElem (show j < (nI g g.vals.length).length by rw [nI_len]; exact hj)
    have e2 := List.getElem?_eq_getElem (show j < (nS g g.vals.length).length by rw [nS_len]; exact hj)
    unfold bAt at h2
    rw [e1, e2] at h2 ⊢
    simpa using h2
  · rw [List.getElem?_eq_none (by rw [nI_len]; omega), List.getElem?_eq_none (by rw [nS_len]; omega)]
def needed (g : Graph) : List Bool := nS g g.vals.length
/-- The new places and the values that stay. -/
def dd (g : Graph) : Nat → List Int × List Val
  | 0 => (List.replicate g.vals.length 0, [])
  | k + 1 => if bAt (needed g) k then ((dd g k).1.set k ((dd g k).2.length : Int), (dd g k).2 ++ [withV ((g.vals[k]?).getD v0) ((dd g k).1.set k ((dd g k).2.length : Int))]) else dd g k
theorem dd_len (g : Graph) : ∀ k, (dd g k).1.length = g.vals.length ∧ (dd g k).2.length ≤ k
  | 0 => by simp [dd]
  | k + 1 => by
    have := dd_len g k
    simp only [dd]
    split
    · simp; omega
    · omega
def deadG (g : Graph) : Graph := ⟨g.ins, (dd g g.vals.length).2, g.outs.map (atV (dd g g.vals.length).1)⟩
end Go.Proofs.Ytjmobjiaoklfdaa

set_option linter.unusedVariables false
namespace Go.Proofs.Ytjmobjiaoklfdaa
open Go.Am
open FlCore (canon isNan)

theorem at_oneI {α : Type} {f : α → Value} {H : Heap} {b o : Nat} {xs : List α} (h : Rd (Enc.one f) H (some ⟨b, o, none⟩) xs) {j : Int} {n : Nat} (hn : j.toNat = n) {x : α} (hx : xs[n]? = some x) : H.cell? b (o + j.toNat * 1) = some (f x) := by
  subst hn
  obtain ⟨b', o', h1, h2⟩ := h.cell hx
  cases h1
  exact h2
theorem bAt_get {l : List Bool} {i : Nat} (h : i < l.length) : l[i]? = some (bAt l i) := by
  unfold bAt
  rw [List.getElem?_eq_getElem h]; rfl
set_option maxHeartbeats 2000000 in
theorem l4dead_ec (H : Heap) (p q r : Option Addr) (g : Graph) (hg : RdG H p q r g) (hv : validB g = true) :
    EC Try.prog 43 [gV p q r g] H (GR H (deadG g)) := by
  obtain ⟨h1, h2, h3⟩ := valid_lens hv
  have hops := valid_ops hv
  have houts := valid_outs hv
  refine EC_fn ctx (fun _ => true) Try.func43 rfl rfl rfl ?_
  refine ⟨⟨by omega, by omega, by omega, by dsimp only; omega⟩, ?_⟩
  have hb0 : Buf dBool (H.push (.cells (repL g.vals.length [.bool false]) 1 true)) H.next (some ⟨H.next, 0, none⟩) (nS g 0) := by
    refine .blk (Nat.le_refl _) ?_
    rw [push_blk, flat_rep dBool false [.bool false] rfl]; rfl
  have hw0 : IntKind.i64.wrap ((g.vals.length : Int) - 1) = (g.vals.length : Int) - 1 - ((0 : Nat) : Int) := by rw [wrap_i64 (by omega) (by omega)]; omega
  refine loop_ind ctx (fun _ => true) (fun m E K => ∃ d : Nat, d ≤ g.vals.length ∧ m = g.vals.length - d ∧ E = ⟨[(1, .pointer (some ⟨0, 0, some 0⟩)), (2, .pointer (some ⟨1, 0, some 0⟩)), (3, .int .i64 (g.vals.length : Int)), (4, .slice (some ⟨H.next, 0, none⟩) g.vals.length g.vals.length), (5, .int .i64 ((g.vals.length : Int) - 1 - (d : Int)))], [[sv p g.ins, sv q g.vals, sv r g.outs], [.slice none 0 0, .slice none 0 0, .slice none 0 0]]⟩ ∧ Ext H K ∧ Buf dBool K H.next (some ⟨H.next, 0, none⟩) (nS g d))
    (E0 := ⟨[(1, .pointer (some ⟨0, 0, some 0⟩)), (2, .pointer (some ⟨1, 0, some 0⟩)), (3, .int .i64 (g.vals.length : Int)), (4, .slice (some ⟨H.next, 0, none⟩) g.vals.length g.vals.length), (5, .int .i64 ((g.vals.length : Int) - 1 - ((0 : Nat) : Int)))], [[sv p g.ins, sv q g.vals, sv r g.outs], [.slice none 0 0, .slice none 0 0, .slice none 0 0]]⟩) ⟨0, Nat.zero_le _, rfl, rfl, Ext.push _ _, hb0⟩ (by (refine ⟨?_, ?_⟩ <;> repeat' first | exact trivial | exact congrArg (fun x => some (Value.int .i64 x)) hw0 | exact rfl | refine ⟨?_, ?_⟩ | fail)) ?_
  rintro m E K ⟨d, hd, rfl, rfl, eK, bN⟩
  have hgK := hg.mono eK
  have hlen := nS_len g d
  refine ⟨fun hge => ?_, fun hlt => ?_⟩
  · have hd1 : d < g.vals.length := by simp at hge; omega
    obtain ⟨i, hi⟩ : ∃ i, i = g.vals.length - (d + 1) := ⟨_, rfl⟩
    have hil : i < g.vals.length := by omega
    have hji : ((g.vals.length : Int) - 1 - (d : Int)).toNat = i := by omega
    have hjv : (g.vals.length : Int) - 1 - (d : Int) = (i : Int) := by omega
    have hnS : nS g (d + 1) = setAll (argsL g.vals[i]) (bAt (nS g d) i || g.outs.contains (i : Int)) ((nS g d).set i (bAt (nS g d) i || g.outs.contains (i : Int))) := by
      simp only [nS]; rw [← hi, List.getElem?_eq_getElem hil]; rfl
    have hin := hops i _ (List.getElem?_eq_getElem hil)
    have hargs := args_in hin
    have hcell := at_oneI bN.rd hji (bAt_get (show i < (nS g d).length by omega))
    have hlw : IntKind.i64.wrap ((g.vals.length : Int) - 1 - (d : Int) - 1) = (g.vals.length : Int) - 1 - ((d + 1 : Nat) : Int) := by rw [wrap_i64 (by omega) (by omega)]; omega
    obtain ⟨bg, og_, rfl⟩ := rdV_some hg.vals (by omega)
    obtain ⟨c0, _, _, _, cA⟩ := valF_at hgK.vals (i := (g.vals.length : Int) - 1 - (d : Int)) (by omega) (by omega)
    have hvi : vAtI g.vals ((g.vals.length : Int) - 1 - (d : Int)) = g.vals[i] := by unfold vAtI; rw [hji, List.getElem?_eq_getElem hil]; rfl
    rw [hvi] at c0 cA
    have hneed := fun K (h : Ext H K) => l4needed_pc K p (some ⟨bg, og_, none⟩) r g (hg.mono h).outs ((g.vals.length : Int) - 1 - (d : Int)) (by omega)
    generalize (g.vals.length : Int) - 1 - (d : Int) = j at *
    obtain ⟨bN1, hst1, hbut1⟩ := stor_one bN (i := i) (off := 0 + j.toNat * 1) (bAt (nS g d) i || g.outs.contains j) (by omega) (by rw [hji]) rfl
    refine ⟨⟨by omega, by omega⟩, .bool (bAt (nS g d) i), hcell, .bool (g.outs.contains j), fun _ => hneed K eK, ⟨by omega, by omega⟩, hst1, ?_⟩
    have hcond : (bif bAt (nS g d) i then true else g.outs.contains j) = (bAt (nS g d) i || g.outs.contains j) := by cases bAt (nS g d) i <;> rfl
    have e1 : Ext H (K.stor H.next (0 + j.toNat * 1) [.bool (bAt (nS g d) i || g.outs.contains j)]) := eK.stor (Nat.le_refl _)
    rw [← hcond] at bN1 e1
    rw [show ((i : Nat) : Int) = j by omega, ← hcond] at hnS
    clear hst1 hbut1
    generalize hB : (bif bAt (nS g d) i then true else g.outs.contains j) = b at *
    have hL1 : ((nS g d).set i b).length = g.vals.length := by rw [List.length_set, hlen]
    have hbi : bAt ((nS g d).set i b) i = b := by rw [bAt_set _ (by omega), if_pos rfl]
    have h3o := opnd3 g.vals[i].op
    have hal := argsL_len g.vals[i]
    refine loop_ind ctx (fun _ => true) (fun m E K => ∃ k : Nat, (k : Int) ≤ opnd g.vals[i].op ∧ m = 3 - k ∧ E = ⟨[(1, .pointer (some ⟨0, 0, some 0⟩)), (2, .pointer (some ⟨1, 0, some 0⟩)), (3, .int .i64 (g.vals.length : Int)), (4, .slice (some ⟨H.next, 0, none⟩) g.vals.length g.vals.length), (5, .int .i64 j), (6, .int .i64 (k : Int))], [[sv p g.ins, sv (some ⟨bg, og_, none⟩) g.vals, sv r g.outs], [.slice none 0 0, .slice none 0 0, .slice none 0 0]]⟩ ∧ Ext H K ∧ Buf dBool K H.next (some ⟨H.next, 0, none⟩) (setAll ((argsL g.vals[i]).take k) b ((nS g d).set i b)) ∧ (b = false → k = 0))
      (E0 := ⟨[(1, .pointer (some ⟨0, 0, some 0⟩)), (2, .pointer (some ⟨1, 0, some 0⟩)), (3, .int .i64 (g.vals.length : Int)), (4, .slice (some ⟨H.next, 0, none⟩) g.vals.length g.vals.length), (5, .int .i64 j), (6, .int .i64 ((0 : Nat) : Int))], [[sv p g.ins, sv (some ⟨bg, og_, none⟩) g.vals, sv r g.outs], [.slice none 0 0, .slice none 0 0, .slice none 0 0]]⟩) ⟨0, by omega, rfl, rfl, e1, bN1, fun _ => rfl⟩ (by (refine ⟨?_, ?_⟩ <;> repeat' first | exact trivial | exact congrArg (fun x => some (Value.int .i64 x)) (wrap_nat (by omega)) | exact sv_eq (by simp; done) | exact rfl | refine ⟨?_, ?_⟩ | fail)) ?_
    clear bN1 e1 bN hgK c0 cA hcell
    rintro m E K ⟨k, hk, rfl, rfl, eK, bN, hbk⟩
    have hgK := hg.mono eK
    have hsl : (setAll ((argsL g.vals[i]).take k) b ((nS g d).set i b)).length = g.vals.length := by rw [setAll_len, hL1]
    obtain ⟨c0, _, _, _, cA⟩ := valF_at hgK.vals (i := j) (by omega) (by omega)
    rw [hvi] at c0 cA
    have hbb : bAt (setAll ((argsL g.vals[i]).take k) b ((nS g d).set i b)) i = b := by
      rw [setAll_at b i _ _ (fun o ho => by have := hargs o (List.mem_of_mem_take ho); omega), hbi]
      cases b <;> simp
    have hcb := at_oneI bN.rd hji (bAt_get (show i < (setAll ((argsL g.vals[i]).take k) b ((nS g d).set i b)).length by omega))
    rw [hbb] at hcb
    refine ⟨⟨by omega, by omega⟩, .int .i64 g.vals[i].op, c0, _, l1operands_pc K g.vals[i].op, ?_, fun v K hR => by cases hR.1⟩
    rintro _ K ⟨hx, rfl⟩
    cases hx
    refine ⟨fun _ => ⟨by omega, by omega⟩, .bool b, fun _ => hcb, fun hgo => ?_, fun hstop => ?_⟩
    · have hkb : (k : Int) < opnd g.vals[i].op ∧ b = true := by
        by_cases hko : (k : Int) < opnd g.vals[i].op
        · simp [hko] at hgo; exact ⟨hko, hgo⟩
        · simp [hko] at hgo
      obtain ⟨hko, rfl⟩ := hkb
      have hfk := argsL_get (v := g.vals[i]) (j := k) (by omega)
      have hfin := hargs _ (List.mem_of_getElem? hfk)
      refine ⟨⟨by omega, by omega⟩, valV g.vals[i], cA, _, l1field_pc K g.vals[i] k, ?_, fun v K hR => by cases hR.1⟩
      rintro _ K ⟨hx, rfl⟩
      cases hx
      obtain ⟨bN2, hst2, hbut2⟩ := stor_one bN (i := (fieldV g.vals[i] k).toNat) (off := 0 + (fieldV g.vals[i] k).toNat * 1) true (by omega) rfl rfl
      have hwk := wrap_nat (k := k) (by omega)
      refine ⟨⟨hfin.1, by omega⟩, hst2, ?_⟩
      refine ⟨3 - (k + 1), ⟨[(1, .pointer (some ⟨0, 0, some 0⟩)), (2, .pointer (some ⟨1, 0, some 0⟩)), (3, .int .i64 (g.vals.length : Int)), (4, .slice (some ⟨H.next, 0, none⟩) g.vals.length g.vals.length), (5, .int .i64 j), (6, .int .i64 ((k + 1 : Nat) : Int))], [[sv p g.ins, sv (some ⟨bg, og_, none⟩) g.vals, sv r g.outs], [.slice none 0 0, .slice none 0 0, .slice none 0 0]]⟩, by omega, (by (refine ⟨?_, ?_⟩ <;> repeat' first | exact trivial | exact congrArg (fun x => some (Value.int .i64 x)) hwk | exact rfl | refine ⟨?_, ?_⟩ | fail)), k + 1, by omega, rfl, rfl, eK.stor (Nat.le_refl _), ?_, fun h => by cases h⟩
      rw [List.take_add_one, hfk, Option.toList_some, setAll_snoc]
      have : (bAt (setAll ((argsL g.vals[i]).take k) true ((nS g d).set i true)) (fieldV g.vals[i] k).toNat || true) = true := by simp
      rw [this]
      exact bN2
    · have hfin : setAll ((argsL g.vals[i]).take k) b ((nS g d).set i b) = nS g (d + 1) := by
        rw [hnS]
        cases b with
        | false => rw [setAll_false, setAll_false]
        | true =>
          have hk' : (k : Int) = opnd g.vals[i].op := by
            by_cases hko : (k : Int) < opnd g.vals[i].op
            · simp [hko] at hstop
            · omega
          rw [List.take_of_length_le (by omega)]
      rw [hfin] at bN
      exact ⟨g.vals.length - (d + 1), ⟨[(1, .pointer (some ⟨0, 0, some 0⟩)), (2, .pointer (some ⟨1, 0, some 0⟩)), (3, .int .i64 (g.vals.length : Int)), (4, .slice (some ⟨H.next, 0, none⟩) g.vals.length g.vals.length), (5, .int .i64 ((g.vals.length : Int) - 1 - ((d + 1 : Nat) : Int)))], [[sv p g.ins, sv (some ⟨bg, og_, none⟩) g.vals, sv r g.outs], [.slice none 0 0, .slice none 0 0, .slice none 0 0]]⟩, by omega, (by (refine ⟨?_, ?_⟩ <;> repeat' first | exact trivial | exact congrArg (fun x => some (Value.int .i64 x)) hlw | exact rfl | refine ⟨?_, ?_⟩ | fail)), d + 1, by omega, rfl, rfl, eK, bN⟩
  · have hd2 : d = g.vals.length := by simp at hlt; omega
    subst hd2
    obtain ⟨Kb, rfl⟩ : ∃ Kb, Kb = K := ⟨K, rfl⟩
    change Buf dBool Kb H.next (some ⟨H.next, 0, none⟩) (needed g) at bN
    have hnl : (needed g).length = g.vals.length := nS_len g g.vals.length
    clear hlen hgK
    have hgK := hg.mono eK
    refine ⟨⟨by omega, by omega, by omega, by dsimp only; omega⟩, ?_⟩
    have bT0 : Buf dInt (Kb.push (.cells (repL g.vals.length [.int .i64 0]) 1 true)) Kb.next (some ⟨Kb.next, 0, none⟩) (dd g 0).1 := by
      refine .blk (Nat.le_refl _) ?_
      rw [push_blk, flat_rep dInt 0 [.int .i64 0] rfl]; rfl
    refine ⟨_, l2copyInts_ec _ p g.ins (hgK.ins.mono (Ext.push _ _)) (by omega), ?_, fun v K hR => hR.no.elim⟩
    rintro _ K2 ⟨p1, hx, e2, bp⟩
    cases hx
    have eb : Ext Kb K2 := (Ext.push _ _).trans e2
    have n2 := e2.next
    have n2' : Kb.next + 1 ≤ K2.next := n2
    have hp1 : ∀ b o, p1 = some ⟨b, o, none⟩ → Kb.next < b ∧ b < K2.next := fun b o e => bp.lt e
    refine loop_ind ctx (fun _ => true) (fun m E K => ∃ (k : Nat) (qo : Option Addr), k ≤ g.vals.length ∧ m = g.vals.length - k ∧ E = ⟨[(1, .pointer (some ⟨0, 0, some 0⟩)), (2, .pointer (some ⟨1, 0, some 0⟩)), (3, .int .i64 (g.vals.length : Int)), (4, .slice (some ⟨H.next, 0, none⟩) g.vals.length g.vals.length), (7, .slice (some ⟨Kb.next, 0, none⟩) g.vals.length g.vals.length), (8, .pointer (some ⟨2, 0, some 0⟩)), (9, .int .i64 ((k : Nat) : Int))], [[sv p g.ins, sv q g.vals, sv r g.outs], [.slice none 0 0, .slice none 0 0, .slice none 0 0], [sv p1 g.ins, sv qo (dd g (k)).2, .slice none 0 0]]⟩ ∧ Ext Kb K ∧ K2.next ≤ K.next ∧ Buf dInt K Kb.next (some ⟨Kb.next, 0, none⟩) (dd g k).1 ∧ Buf dInt K Kb.next p1 g.ins ∧ Buf dVal K K2.next qo (dd g k).2)
      (E0 := ⟨[(1, .pointer (some ⟨0, 0, some 0⟩)), (2, .pointer (some ⟨1, 0, some 0⟩)), (3, .int .i64 (g.vals.length : Int)), (4, .slice (some ⟨H.next, 0, none⟩) g.vals.length g.vals.length), (7, .slice (some ⟨Kb.next, 0, none⟩) g.vals.length g.vals.length), (8, .pointer (some ⟨2, 0, some 0⟩)), (9, .int .i64 ((0 : Nat) : Int))], [[sv p g.ins, sv q g.vals, sv r g.outs], [.slice none 0 0, .slice none 0 0, .slice none 0 0], [sv p1 g.ins, sv none (dd g (0)).2, .slice none 0 0]]⟩) ⟨0, none, Nat.zero_le _, rfl, rfl, eb, Nat.le_refl _, bT0.mono e2, bp.wider (Nat.le_succ _), .nil⟩ (by (refine ⟨?_, ?_⟩ <;> repeat' first | exact trivial | exact congrArg (fun x => some (Value.int .i64 x)) (wrap_nat (by omega)) | exact sv_eq (by simp; done) | exact rfl | refine ⟨?_, ?_⟩ | fail)) ?_
    clear bT0 bp
    rintro m E K ⟨k, qo, hk, rfl, rfl, e3, n3, bT, bp, bq⟩
    have EK := eK.trans e3
    have bNK := bN.mono e3
    obtain ⟨hd1, hd2⟩ := dd_len g k
    refine ⟨fun hlt => ?_, fun hge => ?_⟩
    · have hlt : k < g.vals.length := by simpa using hlt
      obtain ⟨bg, og_, rfl⟩ := rdV_some hg.vals (by omega)
      have hgk := hg.mono EK
      have hin := hops k _ (List.getElem?_eq_getElem hlt)
      have hcell := at_oneI bNK.rd (j := (k : Int)) rfl (bAt_get (show k < (needed g).length by omega))
      have hwk := wrap_nat (k := k) (by omega)
      refine ⟨⟨by omega, by omega⟩, .bool (bAt (needed g) k), hcell, fun hy => ?_, fun hn => ?_⟩
      · have hdd : dd g (k + 1) = ((dd g k).1.set k ((dd g k).2.length : Int), (dd g k).2 ++ [withV g.vals[k] ((dd g k).1.set k ((dd g k).2.length : Int))]) := by
          simp only [dd]; rw [if_pos hy, List.getElem?_eq_getElem hlt]; rfl
        obtain ⟨bT4, hst4, hbut4⟩ := stor_one bT (i := k) (off := 0 + (k : Int).toNat * 1) ((dd g k).2.length : Int) (by omega) (by rfl) rfl
        refine ⟨⟨by omega, by omega⟩, hst4, ?_⟩
        have o4 : Out Kb.next (Kb.next + 1) _ _ := hbut4.out fun b o e => by cases e; omega
        have e4 : Ext Kb (K.stor Kb.next (0 + (k : Int).toNat * 1) [.int .i64 ((dd g k).2.length : Int)]) := e3.stor (Nat.le_refl _)
        have n4 : K.next ≤ (K.stor Kb.next (0 + (k : Int).toNat * 1) [.int .i64 ((dd g k).2.length : Int)]).next := o4.next
        have hp4 := bp.out o4 fun b o e => .inr (by have := hp1 b o e; omega)
        have bq4 := bq.out o4 fun b o e => .inr (by have := bq.lt e; omega)
        have hgk4 := hg.mono (eK.trans e4)
        have hva := (valF_at hgk4.vals (i := (k : Int)) (by omega) (by omega)).2.2.2.2
        have hvk : vAtI g.vals (k : Int) = g.vals[k] := by unfold vAtI; rw [show ((k : Int)).toNat = k from rfl, List.getElem?_eq_getElem hlt]; rfl
        rw [hvk] at hva
        have hTl : ((dd g k).1.set k ((dd g k).2.length : Int)).length = g.vals.length := by rw [List.length_set, hd1]
        have hpc := l4with_pc (K.stor Kb.next (0 + (k : Int).toNat * 1) [.int .i64 ((dd g k).2.length : Int)]) (some ⟨Kb.next, 0, none⟩) ((dd g k).1.set k ((dd g k).2.length : Int)) g.vals[k] bT4.rd (by rw [hTl]; exact hin.mono (by omega))
        rw [show sv (some ⟨Kb.next, 0, none⟩) ((dd g k).1.set k ((dd g k).2.length : Int)) = .slice (some ⟨Kb.next, 0, none⟩) g.vals.length g.vals.length by show Value.slice _ _ _ = _; rw [hTl]] at hpc
        generalize hw : withV g.vals[k] ((dd g k).1.set k ((dd g k).2.length : Int)) = w at *
        have hb1 := bq4.mono (Ext.push (K.stor Kb.next (0 + (k : Int).toNat * 1) [.int .i64 ((dd g k).2.length : Int)]) (.cells (flat dVal [w]) 6 true))
        refine ⟨.leaf [([0, 1, 2, 3, 4, 5, 6, 7, 8], some 9), ([], some 10), ([11], some 12), ([], none)] [0, 1], by kernel_rfl, ⟨by omega, by omega⟩, valV g.vals[k], hva, valV w, hpc, _, run_push _ _ _ _ (Nat.le_refl 6), by dsimp only; omega, by dsimp only; omega, _, hb1.own, ?_⟩
        refine ⟨g.vals.length - (k + 1), ⟨[(1, .pointer (some ⟨0, 0, some 0⟩)), (2, .pointer (some ⟨1, 0, some 0⟩)), (3, .int .i64 (g.vals.length : Int)), (4, .slice (some ⟨H.next, 0, none⟩) g.vals.length g.vals.length), (7, .slice (some ⟨Kb.next, 0, none⟩) g.vals.length g.vals.length), (8, .pointer (some ⟨2, 0, some 0⟩)), (9, .int .i64 ((k + 1 : Nat) : Int))], [[sv p g.ins, sv (some ⟨bg, og_, none⟩) g.vals, sv r g.outs], [.slice none 0 0, .slice none 0 0, .slice none 0 0], [sv p1 g.ins, sv (some ⟨(K.stor Kb.next (0 + (k : Int).toNat * 1) [.int .i64 ((dd g k).2.length : Int)]).next + 1, 0, none⟩) (dd g (k + 1)).2, .slice none 0 0]]⟩, by omega, ?_, k + 1, some ⟨(K.stor Kb.next (0 + (k : Int).toNat * 1) [.int .i64 ((dd g k).2.length : Int)]).next + 1, 0, none⟩, by omega, rfl, rfl, ?_, ?_, ?_, ?_, ?_⟩
        · rw [hdd]
          dsimp only
          rw [← sv_appX _ _ ([w] : List Val) rfl]
          exact (by (refine ⟨?_, ?_⟩ <;> repeat' first | exact trivial | exact congrArg (fun x => some (Value.int .i64 x)) hwk | exact rfl | refine ⟨?_, ?_⟩ | fail))
        · exact (hb1.killO (e4.push' _) (by omega)).push' _
        · show K2.next ≤ (K.stor Kb.next (0 + (k : Int).toNat * 1) [.int .i64 ((dd g k).2.length : Int)]).next + 1 + 1; omega
        · rw [hdd]
          exact ((bT4.mono (Ext.push _ _)).killB hb1 fun b f e => by cases e; omega).mono (Ext.push _ _)
        · exact ((hp4.mono (Ext.push _ _)).killB hb1 fun b f e => (hp1 b f e).2).mono (Ext.push _ _)
        · rw [hdd]
          exact hb1.app rfl (by show K2.next ≤ (K.stor Kb.next (0 + (k : Int).toNat * 1) [.int .i64 ((dd g k).2.length : Int)]).next + 1; omega)
      · have hdd : dd g (k + 1) = dd g k := by
          simp only [dd]; rw [if_neg (by rw [hn]; simp)]
        refine ⟨g.vals.length - (k + 1), ⟨[(1, .pointer (some ⟨0, 0, some 0⟩)), (2, .pointer (some ⟨1, 0, some 0⟩)), (3, .int .i64 (g.vals.length : Int)), (4, .slice (some ⟨H.next, 0, none⟩) g.vals.length g.vals.length), (7, .slice (some ⟨Kb.next, 0, none⟩) g.vals.length g.vals.length), (8, .pointer (some ⟨2, 0, some 0⟩)), (9, .int .i64 ((k + 1 : Nat) : Int))], [[sv p g.ins, sv (some ⟨bg, og_, none⟩) g.vals, sv r g.outs], [.slice none 0 0, .slice none 0 0, .slice none 0 0], [sv p1 g.ins, sv qo (dd g (k + 1)).2, .slice none 0 0]]⟩, by omega, ?_, k + 1, qo, by omega, rfl, rfl, e3, n3, by rw [hdd]; exact bT, bp, by rw [hdd]; exact bq⟩
        rw [hdd]
        exact (by (refine ⟨?_, ?_⟩ <;> repeat' first | exact trivial | exact congrArg (fun x => some (Value.int .i64 x)) hwk | exact rfl | refine ⟨?_, ?_⟩ | fail))
    · have hk' : k = g.vals.length := by simp at hge; omega
      subst hk'
      obtain ⟨Kc, rfl⟩ : ∃ Kc, Kc = K := ⟨K, rfl⟩
      have hmlen : (g.outs.map (atV (dd g g.vals.length).1)).length = g.outs.length := by simp
      refine loop_ind ctx (fun _ => true) (fun m E K => ∃ (k : Nat) (ro : Option Addr), k ≤ g.outs.length ∧ m = g.outs.length - k ∧ E = ⟨[(1, .pointer (some ⟨0, 0, some 0⟩)), (2, .pointer (some ⟨1, 0, some 0⟩)), (7, .slice (some ⟨Kb.next, 0, none⟩) g.vals.length g.vals.length), (8, .pointer (some ⟨2, 0, some 0⟩)), (10, .int .i64 ((k : Nat) : Int))], [[sv p g.ins, sv q g.vals, sv r g.outs], [.slice none 0 0, .slice none 0 0, .slice none 0 0], [sv p1 g.ins, sv qo (dd g g.vals.length).2, sv ro ((g.outs.map (atV (dd g g.vals.length).1)).take (k))]]⟩ ∧ Ext Kc K ∧ Buf dInt K Kc.next ro ((g.outs.map (atV (dd g g.vals.length).1)).take k))
        (E0 := ⟨[(1, .pointer (some ⟨0, 0, some 0⟩)), (2, .pointer (some ⟨1, 0, some 0⟩)), (7, .slice (some ⟨Kb.next, 0, none⟩) g.vals.length g.vals.length), (8, .pointer (some ⟨2, 0, some 0⟩)), (10, .int .i64 ((0 : Nat) : Int))], [[sv p g.ins, sv q g.vals, sv r g.outs], [.slice none 0 0, .slice none 0 0, .slice none 0 0], [sv p1 g.ins, sv qo (dd g g.vals.length).2, sv none ((g.outs.map (atV (dd g g.vals.length).1)).take (0))]]⟩) ⟨0, none, Nat.zero_le _, rfl, rfl, Ext.refl _, .nil⟩ (by (refine ⟨?_, ?_⟩ <;> repeat' first | exact trivial | exact congrArg (fun x => some (Value.int .i64 x)) (wrap_nat (by omega)) | exact sv_eq (by simp; done) | exact rfl | refine ⟨?_, ?_⟩ | fail)) ?_
      rintro m E K ⟨k, ro, hk, rfl, rfl, e5, br⟩
      have EK := EK.trans e5
      have hgk := hg.mono EK
      refine ⟨fun hlt => ?_, fun hge => ?_⟩
      · have hlt : k < g.outs.length := by simpa using hlt
        obtain ⟨br_, or_, rfl⟩ := rdI_some hg.outs (by omega)
        have hin := houts _ (List.getElem_mem hlt)
        have c1 := at_cellI hgk.outs (j := (k : Int)) (by omega) (by omega)
        have hat : atV g.outs (k : Int) = g.outs[k] := by unfold atV; rw [show ((k : Int)).toNat = k from rfl, List.getElem?_eq_getElem hlt]; rfl
        rw [hat] at c1
        have c2 := at_cellI (bT.mono e5).rd (j := g.outs[k]) hin.1 (by rw [hd1]; exact hin.2)
        have hwk := wrap_nat (k := k) (by omega)
        have htk : (g.outs.map (atV (dd g g.vals.length).1)).take (k + 1) = (g.outs.map (atV (dd g g.vals.length).1)).take k ++ [atV (dd g g.vals.length).1 g.outs[k]] := by
          rw [List.take_succ_eq_append_getElem (by rw [hmlen]; exact hlt), List.getElem_map]
        have htl : ((g.outs.map (atV (dd g g.vals.length).1)).take k).length = k := by rw [List.length_take, hmlen]; omega
        have hb1 := br.mono (Ext.push K (.cells (flat dInt [atV (dd g g.vals.length).1 g.outs[k]]) 1 true))
        refine ⟨.leaf [([0, 1, 2, 3, 4, 5, 6, 7, 8, 9], some 10), ([], some 11), ([12], some 13), ([], none)] [0, 1], by kernel_rfl, ⟨by omega, by omega⟩, _, c1, ⟨hin.1, by omega⟩, _, c2, _, run_push _ _ _ _ (Nat.le_refl 1), by dsimp only; omega, by dsimp only; omega, _, hb1.own, ?_⟩
        refine ⟨g.outs.length - (k + 1), ⟨[(1, .pointer (some ⟨0, 0, some 0⟩)), (2, .pointer (some ⟨1, 0, some 0⟩)), (7, .slice (some ⟨Kb.next, 0, none⟩) g.vals.length g.vals.length), (8, .pointer (some ⟨2, 0, some 0⟩)), (10, .int .i64 ((k + 1 : Nat) : Int))], [[sv p g.ins, sv q g.vals, sv (some ⟨br_, or_, none⟩) g.outs], [.slice none 0 0, .slice none 0 0, .slice none 0 0], [sv p1 g.ins, sv qo (dd g g.vals.length).2, sv (some ⟨K.next + 1, 0, none⟩) ((g.outs.map (atV (dd g g.vals.length).1)).take (k + 1))]]⟩, by omega, ?_, k + 1, some ⟨K.next + 1, 0, none⟩, by omega, rfl, rfl, (hb1.killO (e5.push' _) (Nat.le_refl _)).push' _, ?_⟩
        · rw [htk, ← sv_appX _ _ ([atV (dd g g.vals.length).1 g.outs[k]] : List Int) rfl]
          exact (by (refine ⟨?_, ?_⟩ <;> repeat' first | exact trivial | exact congrArg (fun x => some (Value.int .i64 x)) hwk | exact rfl | refine ⟨?_, ?_⟩ | fail))
        · rw [htk]
          exact hb1.app rfl (by show Kc.next ≤ K.next + 1; have := e5.next; omega)
      · have hk2 : k = g.outs.length := by simp at hge; omega
        subst hk2
        rw [List.take_of_length_le (by rw [hmlen]; exact Nat.le_refl _)] at br ⊢
        have nK := eK.next
        exact ⟨p1, qo, ro, rfl, EK, ownG_of ((bp.mono e5).wider nK) ((bq.mono e5).wider (by omega)) (br.wider (by omega)) (fun b e => ⟨fun e' => by have := (hp1 b 0 e).2; have := bq.lt e'; omega, fun e' => by have := (hp1 b 0 e).2; have := br.lt e'; omega⟩) (fun b e e' => by have := bq.lt e; have := br.lt e'; omega)⟩
end Go.Proofs.Ytjmobjiaoklfdaa
