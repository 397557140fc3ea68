/- Valid values, the spec's side. Condition: the graph's slices read. Valid values, the program's side. Condition: the graph's slices read. -/
import Derived.Test.YtaaelokodfildaaGv
set_option linter.unusedVariables false
set_option linter.unusedSimpArgs false
namespace Go.Proofs.Ytaaelokodfildaa
open Go.Am

def argOK (i : Int) (v : Val) (k : Int) : Bool := if k < opnd v.op then decide (0 ≤ fieldV v k ∧ fieldV v k < i) else decide (fieldV v k = 0) || (decide (k = 2) && placeB v.op)
def lenAt (vals : List Val) (j : Int) : Int := ((vals[j.toNat]?).map (·.len)).getD 0
def argLen (vals : List Val) (v : Val) (k : Int) : Int := if k < opnd v.op then lenAt vals (fieldV v k) else 0
def inputOK (ins : List Int) (v : Val) : Bool := decide (0 ≤ v.a ∧ v.a < ins.length ∧ v.len = (ins[v.a.toNat]?).getD 0 ∧ v.b = 0 ∧ v.c = 0)
def vokB (g : Graph) (i : Int) (v : Val) : Bool :=
  decide (0 ≤ v.op ∧ v.op ≤ 13) && okLen v.len && (if v.op = 0 then inputOK g.ins v else argOK i v 0 && argOK i v 1 && argOK i v 2 && fitsB v (argLen g.vals v 0) (argLen g.vals v 1) (argLen g.vals v 2))

def lensTo (vals : List Val) (v : Val) (k : Nat) : List Int := (List.range k).map fun j : Nat => argLen vals v j
@[simp] theorem lensTo_len (vals : List Val) (v : Val) (k : Nat) : (lensTo vals v k).length = k := by simp [lensTo]
theorem lensTo_succ (vals : List Val) (v : Val) (k : Nat) : lensTo vals v (k + 1) = lensTo vals v k ++ [argLen vals v k] := by simp [lensTo, List.range_succ]
theorem vok_head {g : Graph} {i : Int} {v : Val} (h : ¬ (0 ≤ v.op ∧ v.op ≤ 13 ∧ okLen v.len = true)) : vokB g i v = false := by
  unfold vokB
  cases hq : okLen v.len with
  | false => simp
  | true =>
    rw [show decide (0 ≤ v.op ∧ v.op ≤ 13) = false by simp [hq] at h ⊢; omega]
    simp
theorem vok_arg {g : Graph} {i : Int} {v : Val} (h0 : v.op ≠ 0) {k : Nat} (hk : k < 3) (h : argOK i v k = false) : vokB g i v = false := by
  unfold vokB
  rw [if_neg h0]
  have : k = 0 ∨ k = 1 ∨ k = 2 := by omega
  rcases this with rfl | rfl | rfl
  · rw [show argOK i v 0 = false from h]; simp
  · rw [show argOK i v 1 = false from h]; simp
  · rw [show argOK i v 2 = false from h]; simp

abbrev vE (i : Nat) (p q r : Option Addr) (g : Graph) (v : Val) (a : Option Addr) (k : Nat) : Env := ⟨[(1, .int .i64 i), (2, .pointer (some ⟨0, 0, some 0⟩)), (5, .pointer (some ⟨1, 0, some 0⟩)), (6, .int .i64 (opnd v.op)), (7, sv a (lensTo g.vals v k)), (8, .int .i64 k)], [[sv p g.ins, sv q g.vals, sv r g.outs], vcells v]⟩
theorem l1valOK_ec (H : Heap) (p q r : Option Addr) (g : Graph) (hg : RdG H p q r g) (i : Nat) (v : Val) (hv : g.vals[i]? = some v) (hl : g.vals.length ≤ 1048576) (hli : g.ins.length ≤ 1048576) :
    EC Try.prog 31 [gV p q r g, .int .i64 i] H fun e H' => e = .ret (.bool (vokB g i v)) ∧ Ext H H' := by
  have hi : i < g.vals.length := (List.getElem?_eq_some_iff.1 hv).1
  obtain ⟨b, off, rfl, hc⟩ := hg.vals.val hv
  refine EC_fn ctx (fun _ => true) Try.func31 rfl rfl rfl ?_
  refine ⟨⟨by omega, by omega⟩, valV v, hc, fun h => ⟨?_, Ext.refl H⟩, fun h1 => ⟨fun h => ?_, fun h2 => ?_⟩⟩
  · rw [vok_head (by simp [okLen] at h ⊢; omega)]
    rfl
  · simp at h
    simp at h1
    have fin : ∀ q : Bool, (q = true ↔ vokB g i v = true) → AEnd.ret (.bool q) = .ret (.bool (vokB g i v)) ∧ Ext H H := fun q e => ⟨congrArg _ (congrArg _ (Bool.eq_iff_iff.2 e)), Ext.refl H⟩
    rcases hg.ins.sh with hp | ⟨b', o', hp⟩ <;> subst hp <;> refine ⟨.leaf [([0, 1, 2, 3, 4, 5, 6, 7, 8, 9, 10, 11, 12, 13, 14, 15, 16, 17, 18, 19, 20, 21, 22, 23, 24, 25, 26, 27, 28, 29, 30, 31, 32], none)] [], by kernel_rfl, fun hx => ?_, .int .i64 ((g.ins[v.a.toNat]?).getD 0), fun hx => ?_, ?_⟩
    · simp at hx
      obtain ⟨_, _, hq, _⟩ := hg.ins.cell (List.getElem?_eq_getElem (show v.a.toNat < g.ins.length by omega))
      cases hq
    · simp at hx
      obtain ⟨_, _, hq, _⟩ := hg.ins.cell (List.getElem?_eq_getElem (show v.a.toNat < g.ins.length by omega))
      cases hq
    · refine fin _ ?_
      simp [vokB, inputOK, okLen, h]; omega
    · simp at hx; omega
    · simp at hx
      have hlt : v.a.toNat < g.ins.length := by omega
      obtain ⟨p', o', hq, hc'⟩ := hg.ins.cell (List.getElem?_eq_getElem hlt)
      cases hq
      rw [List.getElem?_eq_getElem hlt]
      exact hc'
    · refine fin _ ?_
      simp [vokB, inputOK, okLen, h]; omega
  simp at h1 h2
  have hop : decide (0 ≤ v.op ∧ v.op ≤ 13) = true := by simp; omega
  have hlen : okLen v.len = true := by simp [okLen]; omega
  refine ⟨_, l1operands_pc H _, ?_, fun v K hR => by cases hR.1⟩
  rintro _ K ⟨hx, rfl⟩
  cases hx
  refine loop_ind ctx (fun _ => true) (fun m E K' => ∃ k a, k ≤ 3 ∧ m = 3 - k ∧ E = vE i p (some ⟨b, off, none⟩) r g v a k ∧
      Ext K K' ∧ Buf dInt K' K.next a (lensTo g.vals v k) ∧ ∀ j : Nat, j < k → argOK i v j = true)
    ⟨0, none, Nat.zero_le _, rfl, rfl, Ext.refl K, .nil, fun j hj => absurd hj (by omega)⟩ (by (refine ⟨?_, ?_⟩ <;> repeat' first | exact trivial | exact congrArg (fun x => some (Value.int .i64 x)) (wrap_nat (by omega)) | exact sv_eq (by simp; done) | exact rfl | refine ⟨?_, ?_⟩ | fail)) ?_
  rintro m E K' ⟨k, a, hk, rfl, rfl, he, hb, hok⟩
  refine ⟨fun hlt => ?_, fun hge => ?_⟩
  · have hlt : k < 3 := by simp at hlt; omega
    refine ⟨_, l1field_pc K' _ _, ?_, fun v K hR => by cases hR.1⟩
    rintro _ K'' ⟨hx, rfl⟩
    cases hx
    have hbl := lensTo_len g.vals v k
    refine ⟨fun hn => ?_, fun hn => ?_⟩
    · simp at hn
      refine ⟨fun hf => ⟨?_, he⟩, fun hf => ?_⟩
      · rw [vok_arg h2 hlt (by rw [argOK, if_pos hn]; simp at hf ⊢; omega)]
        rfl
      · simp at hf
        have hok' : argOK i v k = true := by rw [argOK, if_pos hn]; simp; omega
        have hx : g.vals[(fieldV v k).toNat]? = some g.vals[(fieldV v k).toNat] := List.getElem?_eq_getElem (by omega)
        obtain ⟨b', off', hq, _, hcl, _⟩ := (hg.vals.mono he).valF hx
        cases hq
        refine ⟨⟨by omega, by omega⟩, _, hcl, _, run_push _ _ _ _ (by simp), by dsimp only; omega, by dsimp only; omega, _, (hb.mono (Ext.push _ _)).own, ?_⟩
        refine ⟨3 - (k + 1), vE i p (some ⟨b, off, none⟩) r g v (some ⟨K''.next + 1, 0, none⟩) (k + 1), by omega, by (refine ⟨?_, ?_⟩ <;> repeat' first | exact trivial | exact congrArg (fun x => some (Value.int .i64 x)) (wrap_nat (by omega)) | exact sv_eq (by simp; done) | exact rfl | refine ⟨?_, ?_⟩ | fail), k + 1, _, by omega, rfl, rfl, ?_, ?_, ?_⟩
        · exact ((hb.mono (Ext.push _ _)).killO (he.push' _) (Nat.le_refl _)).push' _
        · rw [lensTo_succ]
          refine (hb.mono (Ext.push _ _)).app ?_ (Nat.le_trans he.next (Nat.le_succ _))
          simp [argLen, if_pos hn, lenAt, hx, flat]
          rfl
        · intro j hj
          rcases Nat.lt_succ_iff_lt_or_eq.1 hj with hj | rfl
          · exact hok j hj
          · exact hok'
    · simp at hn
      refine ⟨fun hf => ⟨?_, he⟩, fun hf => ?_⟩
      · rw [vok_arg h2 hlt (by rw [argOK, if_neg (by omega)]; simp [placeB] at hf ⊢; omega)]
        rfl
      · have hok' : argOK i v k = true := by rw [argOK, if_neg (by omega)]; simp [placeB] at hf ⊢; omega
        refine ⟨_, run_push _ _ _ _ (by simp), by dsimp only; omega, by dsimp only; omega, _, (hb.mono (Ext.push _ _)).own, ?_⟩
        refine ⟨3 - (k + 1), vE i p (some ⟨b, off, none⟩) r g v (some ⟨K''.next + 1, 0, none⟩) (k + 1), by omega, by (refine ⟨?_, ?_⟩ <;> repeat' first | exact trivial | exact congrArg (fun x => some (Value.int .i64 x)) (wrap_nat (by omega)) | exact sv_eq (by simp; done) | exact rfl | refine ⟨?_, ?_⟩ | fail), k + 1, _, by omega, rfl, rfl, ?_, ?_, ?_⟩
        · exact ((hb.mono (Ext.push _ _)).killO (he.push' _) (Nat.le_refl _)).push' _
        · rw [lensTo_succ]
          refine (hb.mono (Ext.push _ _)).app ?_ (Nat.le_trans he.next (Nat.le_succ _))
          rw [argLen, if_neg (by omega)]
          rfl
        · intro j hj
          rcases Nat.lt_succ_iff_lt_or_eq.1 hj with hj | rfl
          · exact hok j hj
          · exact hok'
  · have hk : k = 3 := by simp at hge; omega
    subst hk
    have g0 : (lensTo g.vals v 3)[0]? = some (argLen g.vals v 0) := rfl
    have g1 : (lensTo g.vals v 3)[1]? = some (argLen g.vals v 1) := rfl
    have g2 : (lensTo g.vals v 3)[2]? = some (argLen g.vals v 2) := rfl
    have hbl := lensTo_len g.vals v 3
    obtain ⟨b', o', hq, c0⟩ := hb.rd.cell g0
    obtain ⟨_, _, hq', c1⟩ := hb.rd.cell g1
    rw [hq] at hq'; cases hq'
    obtain ⟨_, _, hq', c2⟩ := hb.rd.cell g2
    rw [hq] at hq'; cases hq'
    subst hq
    refine ⟨.leaf [([0, 1, 2, 3, 4, 5, 6, 7, 8, 9, 10, 11], none)] [], by kernel_rfl, ⟨by omega, by omega⟩, _, c0, ⟨by omega, by omega⟩, _, c1, ⟨by omega, by omega⟩, _, c2, _, l1fits_pc K' v _ _ _ (by simp at hop; omega) (by simp at hop; omega) hlen, ?_, he⟩
    congr 2
    unfold vokB
    rw [hop, hlen, if_neg h2, show argOK i v 0 = true from hok 0 (by omega), show argOK i v 1 = true from hok 1 (by omega), show argOK i v 2 = true from hok 2 (by omega)]
    rfl
end Go.Proofs.Ytaaelokodfildaa

set_option linter.unusedVariables false
namespace Go.Proofs.Ytaaelokodfildaa
open Go.Am

abbrev lenTo (vals : List Val) (v : Val) (j k : Nat) : Value := .int .i64 (if j < k then argLen vals v j else 0)
abbrev iE (i : Nat) (p q r : Option Addr) (g : Graph) (v : Val) (k : Nat) : Env := ⟨[(1, .int .i64 i), (2, .pointer (some ⟨0, 0, some 0⟩)), (5, .pointer (some ⟨1, 0, some 0⟩)), (6, .int .i64 (opnd v.op)), (7, .pointer (some ⟨2, 0, some 0⟩)),
  (74, .agg #[.int .i64 v.a, .int .i64 v.b, .int .i64 v.c]), (75, .int .i64 k)], [[sv p g.ins, sv q g.vals, sv r g.outs], vcells v, [lenTo g.vals v 0 k, lenTo g.vals v 1 k, lenTo g.vals v 2 k]]⟩
set_option maxHeartbeats 800000 in
theorem valOk_pc (H : Heap) (p q r : Option Addr) (g : Graph) (hg : RdG H p q r g) (i : Nat) (v : Val) (hv : g.vals[i]? = some v) (hl : g.vals.length ≤ 1048576) (hli : g.ins.length ≤ 1048576) :
    PC Try.prog 44 [gV p q r g, .int .i64 i] H (.bool (vokB g i v)) := by
  have hi : i < g.vals.length := (List.getElem?_eq_some_iff.1 hv).1
  obtain ⟨b, off, rfl, hc⟩ := hg.vals.val hv
  refine EC_fn ctx (fun _ => true) Try.func44 rfl rfl rfl ?_
  refine ⟨⟨by omega, by omega⟩, valV v, hc, _, fun _ => lenOk_pc H _, fun h => pbool ?_, fun h1 => ⟨fun h => ?_, fun h2 => ?_⟩⟩
  · rw [vok_head (by rintro ⟨x, y, z⟩; simp [z] at h; omega)]
  · simp at h
    simp at h1
    have fin : ∀ q : Bool, (q = true ↔ vokB g i v = true) → AEnd.ret (.bool q) = .ret (.bool (vokB g i v)) ∧ H = H := fun q e => pbool (Bool.eq_iff_iff.2 e)
    rcases hg.ins.sh with hp | ⟨b', o', hp⟩ <;> subst hp <;> refine ⟨.leaf [([0, 1, 2, 3, 4, 5, 6, 7, 8, 9, 10, 11, 12, 13, 14, 15, 16, 17, 18, 19, 20, 21, 22, 23, 24, 25, 26, 27, 28, 29, 30, 31, 32], none)] [], by kernel_rfl, fun hx => ?_, .int .i64 ((g.ins[v.a.toNat]?).getD 0), fun hx => ?_, ?_⟩
    · simp at hx
      obtain ⟨_, _, hq, _⟩ := hg.ins.cell (List.getElem?_eq_getElem (show v.a.toNat < g.ins.length by omega))
      cases hq
    · simp at hx
      obtain ⟨_, _, hq, _⟩ := hg.ins.cell (List.getElem?_eq_getElem (show v.a.toNat < g.ins.length by omega))
      cases hq
    · refine fin _ ?_
      simp [vokB, inputOK, h, h1]; omega
    · simp at hx; omega
    · simp at hx
      have hlt : v.a.toNat < g.ins.length := by omega
      obtain ⟨p', o', hq, hc'⟩ := hg.ins.cell (List.getElem?_eq_getElem hlt)
      cases hq
      rw [List.getElem?_eq_getElem hlt]
      exact hc'
    · refine fin _ ?_
      simp [vokB, inputOK, h, h1]; omega
  simp at h1 h2
  have hop : decide (0 ≤ v.op ∧ v.op ≤ 13) = true := by simp; omega
  have hlen : okLen v.len = true := h1.2
  refine ⟨_, operands_pc H _, ?_, fun v K hR => by cases hR.1⟩
  rintro _ K ⟨hx, rfl⟩
  cases hx
  refine loop_ind ctx (fun _ => true) (fun m E K' => ∃ k, k ≤ 3 ∧ m = 3 - k ∧ E = iE i p (some ⟨b, off, none⟩) r g v k ∧ K' = K ∧ ∀ j : Nat, j < k → argOK i v j = true)
    ⟨0, Nat.zero_le _, rfl, rfl, rfl, fun j hj => absurd hj (by omega)⟩ (by (refine ⟨?_, ?_⟩ <;> repeat' first | exact trivial | exact congrArg (fun x => some (Value.int .i64 x)) (wrap_nat (by omega)) | exact sv_eq (by simp; done) | exact rfl | refine ⟨?_, ?_⟩ | fail)) ?_
  rintro m E K' ⟨k, hk, rfl, rfl, rfl, hok⟩
  refine ⟨fun hlt => ?_, fun hge => ?_⟩
  · have hlt : k < 3 := by simp at hlt; omega
    have hfv : ([Value.int .i64 v.a, .int .i64 v.b, .int .i64 v.c])[k]? = some (.int .i64 (fieldV v k)) := by
      have : k = 0 ∨ k = 1 ∨ k = 2 := by omega
      rcases this with rfl | rfl | rfl <;> rfl
    refine ⟨.int .i64 (fieldV v k), ⟨by omega, by omega, by simpa using hfv⟩, fun hn => ?_, fun hn => ?_⟩
    · simp at hn
      refine ⟨fun hf => pbool ?_, fun hf => ?_⟩
      · rw [vok_arg h2 hlt (by rw [argOK, if_pos hn]; simp at hf ⊢; omega)]
      · simp at hf
        have hok' : argOK i v k = true := by rw [argOK, if_pos hn]; simp; omega
        have hx : g.vals[(fieldV v k).toNat]? = some g.vals[(fieldV v k).toNat] := List.getElem?_eq_getElem (by omega)
        obtain ⟨b', off', hq, _, hcl, _⟩ := hg.vals.valF hx
        cases hq
        have hl2 : g.vals[(fieldV v k).toNat].len = argLen g.vals v k := by simp [argLen, if_pos hn, lenAt, hx]
        rw [hl2] at hcl
        have hok2 : ∀ j : Nat, j < k + 1 → argOK i v j = true := fun j hj => by
          rcases Nat.lt_succ_iff_lt_or_eq.1 hj with hj | rfl
          · exact hok j hj
          · exact hok'
        have : k = 0 ∨ k = 1 ∨ k = 2 := by omega
        rcases this with rfl | rfl | rfl
        · refine ⟨⟨by omega, by omega⟩, _, hcl, ⟨by omega, by omega⟩, ?_⟩
          exact ⟨2, iE i p (some ⟨b, off, none⟩) r g v 1, by omega, by (refine ⟨?_, ?_⟩ <;> repeat' first | exact trivial | exact congrArg (fun x => some (Value.int .i64 x)) (wrap_nat (by omega)) | exact sv_eq (by simp; done) | exact rfl | refine ⟨?_, ?_⟩ | fail), 1, by omega, rfl, rfl, rfl, hok2⟩
        · refine ⟨⟨by omega, by omega⟩, _, hcl, ⟨by omega, by omega⟩, ?_⟩
          exact ⟨1, iE i p (some ⟨b, off, none⟩) r g v 2, by omega, by (refine ⟨?_, ?_⟩ <;> repeat' first | exact trivial | exact congrArg (fun x => some (Value.int .i64 x)) (wrap_nat (by omega)) | exact sv_eq (by simp; done) | exact rfl | refine ⟨?_, ?_⟩ | fail), 2, by omega, rfl, rfl, rfl, hok2⟩
        · refine ⟨⟨by omega, by omega⟩, _, hcl, ⟨by omega, by omega⟩, ?_⟩
          exact ⟨0, iE i p (some ⟨b, off, none⟩) r g v 3, by omega, by (refine ⟨?_, ?_⟩ <;> repeat' first | exact trivial | exact congrArg (fun x => some (Value.int .i64 x)) (wrap_nat (by omega)) | exact sv_eq (by simp; done) | exact rfl | refine ⟨?_, ?_⟩ | fail), 3, by omega, rfl, rfl, rfl, hok2⟩
    · simp at hn
      refine ⟨_, fun _ => hasPlace_pc K' _, fun hf => pbool ?_, fun hf => ?_⟩
      · rw [vok_arg h2 hlt (by rw [argOK, if_neg (by omega)]; simp at hf ⊢; exact ⟨hf.1, fun e => by rcases hf.2 with h | h <;> first | omega | exact h⟩)]
      · have hok' : argOK i v k = true := by rw [argOK, if_neg (by omega)]; simp at hf ⊢; by_cases hz : fieldV v k = 0; exact .inl hz; exact .inr ⟨by omega, (hf hz).2⟩
        have hok2 : ∀ j : Nat, j < k + 1 → argOK i v j = true := fun j hj => by
          rcases Nat.lt_succ_iff_lt_or_eq.1 hj with hj | rfl
          · exact hok j hj
          · exact hok'
        have hz : argLen g.vals v k = 0 := by rw [argLen, if_neg (by omega)]
        have hz' : ∀ j, lenTo g.vals v j (k + 1) = lenTo g.vals v j k := fun j => by
          unfold lenTo
          by_cases h : j < k
          · rw [if_pos h, if_pos (by omega)]
          · rw [if_neg h]
            by_cases h' : j = k
            · subst h'; rw [if_pos (by omega), hz]
            · rw [if_neg (by omega)]
        refine ⟨3 - (k + 1), iE i p (some ⟨b, off, none⟩) r g v (k + 1), by omega, ?_, k + 1, by omega, rfl, rfl, rfl, hok2⟩
        unfold iE
        rw [hz' 0, hz' 1, hz' 2]
        (refine ⟨?_, ?_⟩ <;> repeat' first | exact trivial | exact congrArg (fun x => some (Value.int .i64 x)) (wrap_nat (by omega)) | exact sv_eq (by simp; done) | exact rfl | refine ⟨?_, ?_⟩ | fail)
  · have hk : k = 3 := by simp at hge; omega
    subst hk
    refine ⟨⟨by omega, by omega⟩, ⟨by omega, by omega⟩, ⟨by omega, by omega⟩, _, fits_pc K' v (argLen g.vals v 0) (argLen g.vals v 1) (argLen g.vals v 2) (by simp at hop; omega) (by simp at hop; omega) hlen, ?_, fun v K hR => by cases hR.1⟩
    rintro _ K ⟨hx, rfl⟩
    cases hx
    refine pbool ?_
    unfold vokB
    rw [hop, hlen, if_neg h2, show argOK i v 0 = true from hok 0 (by omega), show argOK i v 1 = true from hok 1 (by omega), show argOK i v 2 = true from hok 2 (by omega)]
    rfl
end Go.Proofs.Ytaaelokodfildaa
