/- The fold pass as a plain function. Conditions: those of each. l4fold: the reference's, walked. Conditions: those of each. -/
import Derived.Test.YtjmobjiaoklfdaaPsd
import Derived.Test.YtjmobjiaoklfdaaKerc
import Derived.Test.YtjmobjiaoklfdaaEvc
import Derived.Test.YtjmobjiaoklfdaaPsk
set_option linter.unusedVariables false
set_option linter.unusedSimpArgs false
namespace Go.Proofs.Ytjmobjiaoklfdaa
open Go.Am
open FlCore (canon isNan)

def partF (vals : List Val) (v : Val) (k : Nat) : List Nat := if (k : Int) < opnd v.op then List.replicate (vAtI vals (fieldV v k)).len.toNat (vAtI vals (fieldV v k)).k else []
def allC (vals : List Val) (v : Val) : Bool := decide (0 < opnd v.op) && (argsL v).all fun o => decide ((vAtI vals o).op = 1)
def uniB (r : List Nat) : Bool := decide (0 < r.length) && r.all fun x => x == (r[0]?).getD 0
def resF (vals : List Val) (v : Val) : List Nat := kern v (partF vals v 0) (partF vals v 1) (partF vals v 2)
def foldV (vals : List Val) (v : Val) : Val := if allC vals v && uniB (resF vals v) then ⟨1, v.len, 0, 0, 0, ((resF vals v)[0]?).getD 0⟩ else v
/-- The values so far. -/
def fl (vals : List Val) : Nat → List Val
  | 0 => []
  | k + 1 => fl vals k ++ [foldV (fl vals k) ((vals[k]?).getD v0)]
theorem fl_len (vals : List Val) : ∀ k, (fl vals k).length = k
  | 0 => rfl
  | k + 1 => by simp [fl, fl_len vals k]
theorem foldV_len (vals : List Val) (v : Val) : (foldV vals v).len = v.len := by unfold foldV; split <;> rfl
theorem fl_lens {vals : List Val} : ∀ (k : Nat), k ≤ vals.length → ∀ (j : Nat) (w : Val), (fl vals k)[j]? = some w → ∃ v : Val, vals[j]? = some v ∧ w.len = v.len
  | 0, _, j, w, h => by simp [fl] at h
  | k + 1, hk, j, w, h => by
    have hv : (vals[k]?).getD v0 = vals[k] := by rw [List.getElem?_eq_getElem (by omega)]; rfl
    simp only [fl, hv] at h
    by_cases hj : j < k
    · rw [List.getElem?_append_left (by rw [fl_len]; exact hj)] at h
      exact fl_lens k (by omega) j w h
    · rw [List.getElem?_append_right (by rw [fl_len]; omega), fl_len] at h
      have : j - k = 0 := by
        have := (List.getElem?_eq_some_iff.1 h).1
        simp at this; omega
      rw [this] at h
      simp at h
      subst h
      have : j = k := by omega
      subst this
      exact ⟨vals[j], List.getElem?_eq_getElem (by omega), foldV_len _ _⟩
/-- The copy's values, the first k of them folded. -/
def curF (vals : List Val) (k : Nat) : List Val := fl vals k ++ vals.drop k
theorem curF_zero (vals : List Val) : curF vals 0 = vals := by simp [curF, fl]
theorem curF_len {vals : List Val} {k : Nat} (hk : k ≤ vals.length) : (curF vals k).length = vals.length := by simp [curF, fl_len]; omega
theorem curF_set {vals : List Val} {k : Nat} (hk : k < vals.length) : (curF vals k).set k (foldV (fl vals k) vals[k]) = curF vals (k + 1) := by
  have hd : vals.drop k = vals[k] :: vals.drop (k + 1) := List.drop_eq_getElem_cons hk
  simp only [curF, fl, hd]
  rw [List.set_append, if_neg (by rw [fl_len]; omega), fl_len, Nat.sub_self, List.set_cons_zero, List.getElem?_eq_getElem hk]
  simp
theorem curF_get {vals : List Val} {k : Nat} (hk : k < vals.length) : vAtI (curF vals k) (k : Int) = vals[k] := by
  unfold vAtI curF
  rw [show ((k : Int)).toNat = k from rfl, List.getElem?_append_right (by rw [fl_len]; omega), fl_len, Nat.sub_self, List.drop_eq_getElem_cons hk]
  rfl
theorem curF_at {vals : List Val} {k : Nat} {j : Int} (h0 : 0 ≤ j) (h1 : j < k) : vAtI (curF vals k) j = vAtI (fl vals k) j := by
  unfold vAtI curF
  rw [List.getElem?_append_left (by rw [fl_len]; omega)]
theorem curF_same {vals : List Val} {k : Nat} (hk : k < vals.length) (h : foldV (fl vals k) vals[k] = vals[k]) : curF vals (k + 1) = curF vals k := by
  rw [← curF_set hk, h]
  apply List.ext_getElem?
  intro i
  rw [List.getElem?_set]
  split
  · rename_i e; subst e
    have hg := curF_get hk
    unfold vAtI at hg
    rw [show ((k : Int)).toNat = k from rfl, List.getElem?_eq_getElem (by rw [curF_len (by omega)]; exact hk)] at hg
    simp only [Option.getD_some] at hg
    rw [if_pos (by rw [curF_len (by omega)]; exact hk), List.getElem?_eq_getElem (by rw [curF_len (by omega)]; exact hk), hg]
  · rfl
theorem fl_all (vals : List Val) : curF vals vals.length = fl vals vals.length := by simp [curF]
def foldG (g : Graph) : Graph := ⟨g.ins, fl g.vals g.vals.length, g.outs⟩
theorem kern_const {n : Int} (x : Nat) (h : okLen n = true) : kern ⟨1, n, 0, 0, 0, x⟩ [] [] [] = List.replicate n.toNat x := by
  have h1 : kOK ⟨1, n, 0, 0, 0, x⟩ [] [] [] = true := by
    unfold kOK headB fitsB
    simp [h, eachB]
  unfold kern
  rw [if_pos h1]
  unfold kpre
  apply List.ext_getElem
  · simp
  · intro i h2 h3
    simp [kel, eachB]
theorem valid_vok {g : Graph} (h : validB g = true) {i : Nat} {v : Val} (hv : g.vals[i]? = some v) : vokB g i v = true := by
  simp only [validB, Bool.and_eq_true, decide_eq_true_eq] at h
  obtain ⟨⟨⟨⟨⟨⟨v1, v2⟩, v3⟩, v4⟩, v5⟩, v6⟩, v7⟩ := h
  rw [List.all_eq_true] at v5
  have hi : i < g.vals.length := (List.getElem?_eq_some_iff.1 hv).1
  have := v5 i (List.mem_range.2 hi)
  rw [vAt_get hv] at this
  exact this
theorem valid_len {g : Graph} (h : validB g = true) {i : Nat} {v : Val} (hv : g.vals[i]? = some v) : okLen v.len = true := by
  have := valid_vok h hv
  simp only [vokB, Bool.and_eq_true] at this
  exact this.1.2
theorem field_arg {v : Val} {k : Nat} (hk : (k : Int) < opnd v.op) : fieldV v k ∈ argsL v := List.mem_of_getElem? (argsL_get (v := v) (j := k) (by omega))
/-- An operand's length is what it was. -/
theorem fl_okLen {g : Graph} (h : validB g = true) {i : Nat} (hi : i ≤ g.vals.length) {j : Int} (h0 : 0 ≤ j) (h1 : j < i) : (vAtI (fl g.vals i) j).len = lenAt g.vals j ∧ okLen (vAtI (fl g.vals i) j).len = true := by
  have hg := vAtI_get (vals := fl g.vals i) h0 (by rw [fl_len]; exact h1)
  obtain ⟨v, k1, k2⟩ := fl_lens i hi _ _ hg
  have := valid_len h k1
  refine ⟨by unfold lenAt; rw [k1]; simpa using k2, by rw [k2]; exact this⟩
theorem part_len {g : Graph} (h : validB g = true) {i : Nat} {v : Val} (hv : g.vals[i]? = some v) (k : Nat) : ((partF (fl g.vals i) v k).length : Int) = argLen g.vals v k := by
  have hi : i < g.vals.length := (List.getElem?_eq_some_iff.1 hv).1
  unfold partF argLen
  split
  · rename_i hk
    have ho := fun hops : OpsIn v i => (show 0 ≤ fieldV v k ∧ fieldV v k < i from by
      have h3 := opnd3 v.op
      have hk3 : k = 0 ∨ k = 1 ∨ k = 2 := by omega
      rcases hk3 with rfl | rfl | rfl
      · simpa [fieldV] using hops.a (by omega)
      · simpa [fieldV] using hops.b (by omega)
      · simpa [fieldV] using hops.c (by omega))
    obtain ⟨a0, a1⟩ := ho (valid_ops h i v hv)
    obtain ⟨e1, e2⟩ := fl_okLen h (by omega) a0 a1
    rw [List.length_replicate, ← e1]
    simp [okLen] at e2
    omega
  · rfl
theorem fold_kOK {g : Graph} (h : validB g = true) {i : Nat} {v : Val} (hv : g.vals[i]? = some v) (ho : 0 < opnd v.op) : kOK v (partF (fl g.vals i) v 0) (partF (fl g.vals i) v 1) (partF (fl g.vals i) v 2) = true := by
  have hvk := valid_vok h hv
  have hop : v.op ≠ 0 := fun e => by rw [e] at ho; exact absurd ho (by decide)
  have h1 := part_len h hv 0
  have h2 := part_len h hv 1
  have h3 := part_len h hv 2
  simp only [vokB, if_neg hop, Bool.and_eq_true, decide_eq_true_eq] at hvk
  obtain ⟨⟨⟨k0, k1⟩, k2⟩, ⟨_, k4⟩⟩ := hvk
  unfold kOK headB
  rw [h1, h2, h3]
  have : decide (1 ≤ v.op ∧ v.op ≤ 13) = true := by simp; omega
  rw [this, k2]
  simpa using k4
theorem fold_pos {g : Graph} (h : validB g = true) {i : Nat} {v : Val} (hv : g.vals[i]? = some v) (ho : 0 < opnd v.op) : 0 < (resF (fl g.vals i) v).length := by
  unfold resF kern
  rw [if_pos (fold_kOK h hv ho)]
  have := valid_len h hv
  simp [okLen] at this
  simp; omega
end Go.Proofs.Ytjmobjiaoklfdaa

set_option linter.unusedVariables false
namespace Go.Proofs.Ytjmobjiaoklfdaa
open Go.Am
open FlCore (canon isNan)

theorem l4uniform_pc (H : Heap) (a : Option Addr) (xs : List Nat) (h : Rd dFlt H a xs) (hl : xs.length ≤ 1048576) :
    PC Try.prog 61 [sv a xs] H (.bool (uniB xs)) := by
  refine EC_fn ctx (fun _ => true) Try.func61 rfl rfl rfl ?_
  refine loop_ind ctx (fun _ => true) (fun m E K => ∃ k : Nat, k ≤ xs.length ∧ m = xs.length - k ∧ E = ⟨[(0, sv a xs), (3, .int .i64 (k : Int))], []⟩ ∧ K = H ∧ (xs.take k).all (fun x => x == (xs[0]?).getD 0) = true)
    (E0 := ⟨[(0, sv a xs), (3, .int .i64 ((0 : Nat) : Int))], []⟩) ⟨0, Nat.zero_le _, rfl, rfl, rfl, by simp⟩ (by (refine ⟨?_, ?_⟩ <;> repeat' first | exact trivial | exact congrArg (fun x => some (Value.int .i64 x)) (wrap_nat (by omega)) | exact sv_eq (by simp; done) | exact rfl | refine ⟨?_, ?_⟩ | fail)) ?_
  rintro m E K ⟨k, hk, rfl, rfl, rfl, ht⟩
  refine ⟨fun hlt => ?_, fun hge => ?_⟩
  · have hlt : k < xs.length := by simpa using hlt
    obtain ⟨b, o, rfl, c1⟩ := h.cell (List.getElem?_eq_getElem hlt)
    obtain ⟨b', o', e, c0⟩ := h.cell (List.getElem?_eq_getElem (show 0 < xs.length by omega))
    cases e
    have hwk := wrap_nat (k := k) (by omega)
    have h0 : (xs[0]?).getD 0 = xs[0] := by rw [List.getElem?_eq_getElem (by omega)]; rfl
    refine ⟨.leaf [([0, 1, 2, 3, 4, 5, 6, 7, 8], none)] [], by kernel_rfl, ⟨by omega, by omega⟩, _, c1, ⟨by omega, by omega⟩, _, c0, .bool (xs[k] == xs[0]), specSame_pc _ _ _, fun hy => pbool ?_, fun hn => ?_⟩
    · have hy : (xs[k] == xs[0]) = false := by simpa using hy
      unfold uniB
      have : (xs.all fun x => x == (xs[0]?).getD 0) = false := by
        rw [List.all_eq_false]
        exact ⟨_, List.getElem_mem hlt, by rw [h0, hy]; simp⟩
      rw [this]; simp
    · have hn : (xs[k] == xs[0]) = true := by simpa using hn
      refine ⟨xs.length - (k + 1), ⟨[(0, sv (some ⟨b, o, none⟩) xs), (3, .int .i64 ((k + 1 : Nat) : Int))], []⟩, by omega, (by (refine ⟨?_, ?_⟩ <;> repeat' first | exact trivial | exact congrArg (fun x => some (Value.int .i64 x)) hwk | exact rfl | refine ⟨?_, ?_⟩ | fail)), k + 1, by omega, rfl, rfl, rfl, ?_⟩
      rw [List.take_succ_eq_append_getElem hlt, List.all_append, ht, h0]
      simp [hn]
  · have hk' : k = xs.length := by simp at hge; omega
    subst hk'
    rw [List.take_of_length_le (Nat.le_refl _)] at ht
    refine pbool ?_
    unfold uniB
    rw [ht, Bool.and_true]
    by_cases hp : 0 < xs.length <;> simp [hp]
theorem args_take {v : Val} {j : Nat} (h : (j : Int) < opnd v.op) : (argsL v).take (j + 1) = (argsL v).take j ++ [fieldV v j] := by
  rw [List.take_add_one, argsL_get (by omega)]; rfl
theorem args_over {v : Val} {j : Nat} (h : ¬ (j : Int) < opnd v.op) : (argsL v).take (j + 1) = (argsL v).take j := by
  have := argsL_len v
  have := opnd3 v.op
  rw [List.take_of_length_le (by omega), List.take_of_length_le (by omega)]
theorem bif_and (a b : Bool) : (bif a then b else false) = (a && b) := by cases a <;> rfl
set_option maxHeartbeats 2000000 in
theorem l4fold_ec (H : Heap) (p q r : Option Addr) (g : Graph) (hg : RdG H p q r g) (hv : validB g = true) :
    EC Try.prog 44 [gV p q r g] H (GR H (foldG g)) := by
  obtain ⟨h1, h2, h3⟩ := valid_lens hv
  have hops := valid_ops hv
  refine EC_fn ctx (fun _ => true) Try.func44 rfl rfl rfl ?_
  refine ⟨_, l2copy_ec H p q r g hg (by omega) (by omega) (by omega), ?_, fun v K hR => hR.no.elim⟩
  rintro _ K0 ⟨p1, q1, r1, hx, e0, og⟩
  cases hx
  refine loop_ind ctx (fun _ => true) (fun m E K => ∃ k : Nat, k ≤ g.vals.length ∧ m = g.vals.length - k ∧ E = ⟨[(1, .pointer (some ⟨0, 0, some 0⟩)), (2, .pointer (some ⟨1, 0, some 0⟩)), (3, .pointer (some ⟨2, 0, some 0⟩)), (4, .int .i64 ((k : Nat) : Int))], [[sv p g.ins, sv q g.vals, sv r g.outs], [.slice none 0 0, .slice none 0 0, .slice none 0 0], [sv p1 g.ins, .slice q1 g.vals.length g.vals.length, sv r1 g.outs]]⟩ ∧ OwnG K H.next K0.next p1 q1 r1 ⟨g.ins, curF g.vals k, g.outs⟩ ∧ Out H.next K0.next K0 K)
    (E0 := ⟨[(1, .pointer (some ⟨0, 0, some 0⟩)), (2, .pointer (some ⟨1, 0, some 0⟩)), (3, .pointer (some ⟨2, 0, some 0⟩)), (4, .int .i64 ((0 : Nat) : Int))], [[sv p g.ins, sv q g.vals, sv r g.outs], [.slice none 0 0, .slice none 0 0, .slice none 0 0], [sv p1 g.ins, .slice q1 g.vals.length g.vals.length, sv r1 g.outs]]⟩) ⟨0, Nat.zero_le _, rfl, rfl, by rw [curF_zero]; exact og, Out.of_ext (Ext.refl _)⟩ (by (refine ⟨?_, ?_⟩ <;> repeat' first | exact trivial | exact congrArg (fun x => some (Value.int .i64 x)) (wrap_nat (by omega)) | exact sv_eq (by simp; done) | exact rfl | refine ⟨?_, ?_⟩ | fail)) ?_
  clear og
  rintro m E K ⟨k, hk, rfl, rfl, og, o⟩
  have eK := Out.ext e0 o
  have hgK := hg.mono eK
  have hcl := curF_len (vals := g.vals) hk
  refine ⟨fun hlt => ?_, fun hge => ?_⟩
  · have hlt : k < g.vals.length := by simpa using hlt
    obtain ⟨bq, rfl⟩ := bufV_some og.s (by show 0 < (curF g.vals k).length; omega)
    obtain ⟨bg, og_, rfl⟩ := rdV_some hg.vals (by omega)
    have hva := (valF_at hgK.vals (i := (k : Int)) (by omega) (by omega)).2.2.2.2
    have hvk : vAtI g.vals (k : Int) = g.vals[k] := by unfold vAtI; rw [show ((k : Int)).toNat = k from rfl, List.getElem?_eq_getElem hlt]; rfl
    rw [hvk] at hva
    have hxv := List.getElem?_eq_getElem hlt
    have hin : OpsIn g.vals[k] k := hops k _ hxv
    have hvl := valid_len hv hxv
    have hwk := wrap_nat (k := k) (by omega)
    have h3o := opnd3 g.vals[k].op
    have hargs := args_in hin
    refine ⟨⟨by omega, by omega⟩, valV g.vals[k], hva, _, l1operands_pc K g.vals[k].op, ?_, fun v K hR => by cases hR.1⟩
    obtain ⟨Ki, rfl⟩ : ∃ Ki, Ki = K := ⟨K, rfl⟩
    rintro _ K ⟨hx, rfl⟩
    cases hx
    have hal0 : decide (opnd g.vals[k].op > 0) = (decide (0 < opnd g.vals[k].op) && ((argsL g.vals[k]).take 0).all fun o => decide ((vAtI (fl g.vals k) o).op = 1)) := by simp
    refine loop_ind ctx (fun _ => true) (fun m E KX => ∃ (j : Nat) (a : Option Addr) (es : List SlE), j ≤ 3 ∧ m = 3 - j ∧ E = ⟨[(1, .pointer (some ⟨0, 0, some 0⟩)), (2, .pointer (some ⟨1, 0, some 0⟩)), (3, .pointer (some ⟨2, 0, some 0⟩)), (4, .int .i64 (k : Int)), (5, .pointer (some ⟨3, 0, some 0⟩)), (6, .int .i64 (opnd g.vals[k].op)), (7, .bool (decide (0 < opnd g.vals[k].op) && ((argsL g.vals[k]).take j).all fun o => decide ((vAtI (fl g.vals k) o).op = 1))), (8, .slice a es.length es.length), (9, .int .i64 ((j : Nat) : Int))], [[sv p g.ins, sv (some ⟨bg, og_, none⟩) g.vals, sv r g.outs], [.slice none 0 0, .slice none 0 0, .slice none 0 0], [sv p1 g.ins, .slice (some ⟨bq, 0, none⟩) g.vals.length g.vals.length, sv r1 g.outs], vcells g.vals[k]]⟩ ∧ snds es = ((List.range j).map fun j : Nat => partF (fl g.vals k) g.vals[k] j) ∧ Vals K KX a es)
      (E0 := ⟨[(1, .pointer (some ⟨0, 0, some 0⟩)), (2, .pointer (some ⟨1, 0, some 0⟩)), (3, .pointer (some ⟨2, 0, some 0⟩)), (4, .int .i64 (k : Int)), (5, .pointer (some ⟨3, 0, some 0⟩)), (6, .int .i64 (opnd g.vals[k].op)), (7, .bool (decide (0 < opnd g.vals[k].op) && ((argsL g.vals[k]).take 0).all fun o => decide ((vAtI (fl g.vals k) o).op = 1))), (8, .slice none 0 0), (9, .int .i64 ((0 : Nat) : Int))], [[sv p g.ins, sv (some ⟨bg, og_, none⟩) g.vals, sv r g.outs], [.slice none 0 0, .slice none 0 0, .slice none 0 0], [sv p1 g.ins, .slice (some ⟨bq, 0, none⟩) g.vals.length g.vals.length, sv r1 g.outs], vcells g.vals[k]]⟩) ⟨0, none, [], Nat.zero_le _, rfl, rfl, rfl, Vals.nil K⟩ (by rw [← hal0]; (refine ⟨?_, ?_⟩ <;> repeat' first | exact trivial | exact congrArg (fun x => some (Value.int .i64 x)) (wrap_nat (by omega)) | exact sv_eq (by simp; done) | exact rfl | refine ⟨?_, ?_⟩ | fail)) ?_
    rintro m E K2 ⟨j, a, es, hj, rfl, rfl, hsn, hV⟩
    have hel : es.length = j := by have := congrArg List.length hsn; simpa [snds] using this
    have og2 := og.mono hV.extK
    have o2 := o.trans (Out.of_ext hV.extK)
    refine ⟨fun hlt2 => ?_, fun hge2 => ?_⟩
    · have hj3 : j < 3 := by simp at hlt2; omega
      have hwj := wrap_nat (k := j) (by omega)
      have hPT : ((List.range (j + 1)).map fun j : Nat => partF (fl g.vals k) g.vals[k] j) = ((List.range j).map fun j : Nat => partF (fl g.vals k) g.vals[k] j) ++ [partF (fl g.vals k) g.vals[k] j] := by rw [List.range_succ, List.map_append]; rfl
      refine ⟨fun hjo => ?_, fun hjo => ?_⟩
      · have hjo : (j : Int) < opnd g.vals[k].op := by simpa using hjo
        have hf := hargs _ (field_arg hjo)
        have hcA := (valF_at og2.s.rd (i := fieldV g.vals[k] j) hf.1 (by show _ < ((curF g.vals k).length : Int); omega)).2.2.2.2
        rw [show (⟨g.ins, curF g.vals k, g.outs⟩ : Graph).vals = curF g.vals k from rfl, curF_at hf.1 hf.2] at hcA
        have hok := (fl_okLen hv (i := k) (by omega) hf.1 hf.2).2
        have hal1 : (decide (0 < opnd g.vals[k].op) && ((argsL g.vals[k]).take (j + 1)).all fun o => decide ((vAtI (fl g.vals k) o).op = 1)) = ((decide (0 < opnd g.vals[k].op) && ((argsL g.vals[k]).take j).all fun o => decide ((vAtI (fl g.vals k) o).op = 1)) && decide ((vAtI (fl g.vals k) (fieldV g.vals[k] j)).op = 1)) := by
          rw [args_take hjo, List.all_append, Bool.and_assoc]; simp
        have hpt : partF (fl g.vals k) g.vals[k] j = List.replicate (vAtI (fl g.vals k) (fieldV g.vals[k] j)).len.toNat (vAtI (fl g.vals k) (fieldV g.vals[k] j)).k := by unfold partF; rw [if_pos hjo]
        generalize vAtI (fl g.vals k) (fieldV g.vals[k] j) = c at *
        refine ⟨.leaf [([0, 1, 2, 3, 4, 5, 6], some 7), ([], some 8), ([], none)] [0, 1, 2, 3, 4, 5, 6], by kernel_rfl, .int .i64 (fieldV g.vals[k] j), fun H' => l1field_pc H' g.vals[k] j, ⟨hf.1, by omega⟩, valV c, hcA, Ext.refl _, Ext.refl _, ?_⟩
        have hke := specKernel_ec K2 none none none ⟨1, c.len, 0, 0, 0, c.k⟩ [] [] [] Rd.nil Rd.nil Rd.nil (by simp) (by simp) (by simp)
        rw [kern_const _ hok, ← hpt] at hke
        refine ⟨_, hke, ?_, fun v K hR => by obtain ⟨_, h, _⟩ := hR; cases h⟩
        rintro _ K3 ⟨oo, hx, e3, bo⟩
        cases hx
        have hown := ((hV.buf.mono e3).mono (Ext.push K3 (.cells [.slice oo (partF (fl g.vals k) g.vals[k] j).length (partF (fl g.vals k) g.vals[k] j).length] 1 true))).own
        refine ⟨_, run_push _ _ _ _ (Nat.le_refl 1), by dsimp only; omega, by dsimp only; omega, _, hown, ?_⟩
        refine ⟨3 - (j + 1), ⟨[(1, .pointer (some ⟨0, 0, some 0⟩)), (2, .pointer (some ⟨1, 0, some 0⟩)), (3, .pointer (some ⟨2, 0, some 0⟩)), (4, .int .i64 (k : Int)), (5, .pointer (some ⟨3, 0, some 0⟩)), (6, .int .i64 (opnd g.vals[k].op)), (7, .bool (decide (0 < opnd g.vals[k].op) && ((argsL g.vals[k]).take (j + 1)).all fun o => decide ((vAtI (fl g.vals k) o).op = 1))), (8, .slice (some ⟨K3.next + 1, 0, none⟩) (es.length + 1) (es.length + 1)), (9, .int .i64 ((j + 1 : Nat) : Int))], [[sv p g.ins, sv (some ⟨bg, og_, none⟩) g.vals, sv r g.outs], [.slice none 0 0, .slice none 0 0, .slice none 0 0], [sv p1 g.ins, .slice (some ⟨bq, 0, none⟩) g.vals.length g.vals.length, sv r1 g.outs], vcells g.vals[k]]⟩, by omega, ?_, j + 1, some ⟨K3.next + 1, 0, none⟩, es ++ [(oo, partF (fl g.vals k) g.vals[k] j)], by omega, rfl, by rw [List.length_append]; rfl, by rw [hPT, ← hsn]; simp [snds], hV.app e3 bo _ rfl⟩
        rw [hal1, ← bif_and]
        exact (by (refine ⟨?_, ?_⟩ <;> repeat' first | exact trivial | exact congrArg (fun x => some (Value.int .i64 x)) hwj | exact rfl | refine ⟨?_, ?_⟩ | fail))
      · have hjo : ¬ (j : Int) < opnd g.vals[k].op := by simpa using hjo
        have hpt : partF (fl g.vals k) g.vals[k] j = [] := by unfold partF; rw [if_neg hjo]
        have hown := (hV.buf.mono (Ext.push K2 (.cells [.slice none 0 0] 1 true))).own
        refine ⟨_, run_push _ _ _ _ (Nat.le_refl 1), by dsimp only; omega, by dsimp only; omega, _, hown, ?_⟩
        refine ⟨3 - (j + 1), ⟨[(1, .pointer (some ⟨0, 0, some 0⟩)), (2, .pointer (some ⟨1, 0, some 0⟩)), (3, .pointer (some ⟨2, 0, some 0⟩)), (4, .int .i64 (k : Int)), (5, .pointer (some ⟨3, 0, some 0⟩)), (6, .int .i64 (opnd g.vals[k].op)), (7, .bool (decide (0 < opnd g.vals[k].op) && ((argsL g.vals[k]).take (j + 1)).all fun o => decide ((vAtI (fl g.vals k) o).op = 1))), (8, .slice (some ⟨K2.next + 1, 0, none⟩) (es.length + 1) (es.length + 1)), (9, .int .i64 ((j + 1 : Nat) : Int))], [[sv p g.ins, sv (some ⟨bg, og_, none⟩) g.vals, sv r g.outs], [.slice none 0 0, .slice none 0 0, .slice none 0 0], [sv p1 g.ins, .slice (some ⟨bq, 0, none⟩) g.vals.length g.vals.length, sv r1 g.outs], vcells g.vals[k]]⟩, by omega, ?_, j + 1, some ⟨K2.next + 1, 0, none⟩, es ++ [(none, [])], by omega, rfl, by rw [List.length_append]; rfl, by rw [hPT, hpt, ← hsn]; simp [snds], hV.app (Ext.refl _) .nil _ rfl⟩
        rw [args_over hjo]
        exact (by (refine ⟨?_, ?_⟩ <;> repeat' first | exact trivial | exact congrArg (fun x => some (Value.int .i64 x)) hwj | exact rfl | refine ⟨?_, ?_⟩ | fail))
    · have hj3 : j = 3 := by simp at hge2; omega
      subst hj3
      have hall : (decide (0 < opnd g.vals[k].op) && ((argsL g.vals[k]).take 3).all fun o => decide ((vAtI (fl g.vals k) o).op = 1)) = allC (fl g.vals k) g.vals[k] := by
        have := argsL_len g.vals[k]
        unfold allC; rw [List.take_of_length_le (by omega)]
      rw [hall]
      refine ⟨fun hno => ?_, fun hyes => ?_⟩
      · have hno : allC (fl g.vals k) g.vals[k] = false := by simpa using hno
        have hfv : foldV (fl g.vals k) g.vals[k] = g.vals[k] := by unfold foldV; rw [hno]; rfl
        rw [← curF_same hlt hfv] at og2
        exact ⟨g.vals.length - (k + 1), ⟨[(1, .pointer (some ⟨0, 0, some 0⟩)), (2, .pointer (some ⟨1, 0, some 0⟩)), (3, .pointer (some ⟨2, 0, some 0⟩)), (4, .int .i64 ((k + 1 : Nat) : Int))], [[sv p g.ins, sv (some ⟨bg, og_, none⟩) g.vals, sv r g.outs], [.slice none 0 0, .slice none 0 0, .slice none 0 0], [sv p1 g.ins, .slice (some ⟨bq, 0, none⟩) g.vals.length g.vals.length, sv r1 g.outs]]⟩, by omega, (by (refine ⟨?_, ?_⟩ <;> repeat' first | exact trivial | exact congrArg (fun x => some (Value.int .i64 x)) hwk | exact rfl | refine ⟨?_, ?_⟩ | fail)), k + 1, by omega, rfl, rfl, og2, o2⟩
      · have hyes : allC (fl g.vals k) g.vals[k] = true := by simpa using hyes
        obtain ⟨a0, a1, a2, rfl⟩ : ∃ a0 a1 a2, es = [(a0, partF (fl g.vals k) g.vals[k] 0), (a1, partF (fl g.vals k) g.vals[k] 1), (a2, partF (fl g.vals k) g.vals[k] 2)] := by
          match es, hel, hsn with
          | [(x0, y0), (x1, y1), (x2, y2)], _, hsn =>
            simp [snds, List.range_succ] at hsn
            obtain ⟨rfl, rfl, rfl⟩ := hsn
            exact ⟨x0, x1, x2, rfl⟩
        have hss := hV.ss
        obtain ⟨ba, oa, rfl, c0⟩ := hss.out.cell (i := 0) rfl
        obtain ⟨_, _, e1, c1⟩ := hss.out.cell (i := 1) rfl
        cases e1
        obtain ⟨_, _, e2, c2⟩ := hss.out.cell (i := 2) rfl
        cases e2
        have hpl : ∀ j, (partF (fl g.vals k) g.vals[k] j).length ≤ 1048576 := fun j => by
          unfold partF
          split
          · rename_i hjo
            have hf := hargs _ (field_arg hjo)
            have := (fl_okLen hv (i := k) (by omega) hf.1 hf.2).2
            simp [okLen] at this
            simp; omega
          · simp
        have hke := specKernel_ec K2 a0 a1 a2 g.vals[k] _ _ _ (hss.inn (a0, partF (fl g.vals k) g.vals[k] 0) (by simp)) (hss.inn (a1, partF (fl g.vals k) g.vals[k] 1) (by simp)) (hss.inn (a2, partF (fl g.vals k) g.vals[k] 2) (by simp)) (hpl 0) (hpl 1) (hpl 2)
        refine ⟨.leaf [([0, 1, 2, 3, 4, 5, 6, 7, 8, 9], some 10), ([11], none)] [], by kernel_rfl, ⟨by omega, by simp⟩, _, c0, ⟨by omega, by simp⟩, _, c1, ⟨by omega, by simp⟩, _, c2, ?_⟩
        refine ⟨_, hke, ?_, fun v K hR => by obtain ⟨_, h, _⟩ := hR; cases h⟩
        rintro _ K3 ⟨oo, hx, e3, bo⟩
        cases hx
        have og3 := og2.mono e3
        have o3 := o2.trans (Out.of_ext e3)
        change Buf dFlt K3 K2.next oo (resF (fl g.vals k) g.vals[k]) at bo
        have ho0 : 0 < opnd g.vals[k].op := by
          unfold allC at hyes
          simp only [Bool.and_eq_true, decide_eq_true_eq] at hyes
          exact hyes.1
        have hpos := fold_pos hv hxv ho0
        have hrl : (resF (fl g.vals k) g.vals[k]).length ≤ 1000 := by
          simp [okLen] at hvl
          unfold resF kern
          split
          · simp; omega
          · simp
        refine ⟨_, l4uniform_pc K3 oo (resF (fl g.vals k) g.vals[k]) bo.rd (by omega), ?_, fun v K hR => by cases hR.1⟩
        rintro _ K3 ⟨hx, rfl⟩
        cases hx
        refine ⟨fun hu => ?_, fun hu => ?_⟩
        · have hfv : foldV (fl g.vals k) g.vals[k] = ⟨1, g.vals[k].len, 0, 0, 0, ((resF (fl g.vals k) g.vals[k])[0]?).getD 0⟩ := by
            unfold foldV; rw [hyes, hu]; rfl
          have hr0 : (resF (fl g.vals k) g.vals[k])[0]? = some (((resF (fl g.vals k) g.vals[k])[0]?).getD 0) := by rw [List.getElem?_eq_getElem hpos]; rfl
          obtain ⟨bo_, oo_, rfl, cr⟩ := bo.rd.cell hr0
          obtain ⟨og4, hst, hbut⟩ := og3.setV rfl (i := k) (v := ⟨1, g.vals[k].len, 0, 0, 0, ((resF (fl g.vals k) g.vals[k])[0]?).getD 0⟩) (by show k < (curF g.vals k).length; omega) (off := 0 + k * 6) rfl rfl
          have hset : (curF g.vals k).set k ⟨1, g.vals[k].len, 0, 0, 0, ((resF (fl g.vals k) g.vals[k])[0]?).getD 0⟩ = curF g.vals (k + 1) := by rw [← hfv]; exact curF_set hlt
          simp only [hset] at og4
          have ol := hbut.out (lo := H.next) (hi := K0.next) (fun b o e => by cases e; exact ⟨(og3.s.lt rfl).1, og3.hi_.2.1 _ _ rfl⟩)
          refine ⟨.leaf [([0, 1, 2, 3, 4, 5, 6, 7, 8, 9], some 10), ([], none)] [], by kernel_rfl, ⟨by omega, Int.ofNat_lt.2 hpos⟩, _, cr, ⟨by omega, by omega⟩, hst, ?_⟩
          exact ⟨g.vals.length - (k + 1), ⟨[(1, .pointer (some ⟨0, 0, some 0⟩)), (2, .pointer (some ⟨1, 0, some 0⟩)), (3, .pointer (some ⟨2, 0, some 0⟩)), (4, .int .i64 ((k + 1 : Nat) : Int))], [[sv p g.ins, sv (some ⟨bg, og_, none⟩) g.vals, sv r g.outs], [.slice none 0 0, .slice none 0 0, .slice none 0 0], [sv p1 g.ins, .slice (some ⟨bq, 0, none⟩) g.vals.length g.vals.length, sv r1 g.outs]]⟩, by omega, (by (refine ⟨?_, ?_⟩ <;> repeat' first | exact trivial | exact congrArg (fun x => some (Value.int .i64 x)) hwk | exact rfl | refine ⟨?_, ?_⟩ | fail)), k + 1, by omega, rfl, rfl, og4, o3.trans ol⟩
        · have hfv : foldV (fl g.vals k) g.vals[k] = g.vals[k] := by unfold foldV; rw [hu]; simp
          rw [← curF_same hlt hfv] at og3
          exact ⟨g.vals.length - (k + 1), ⟨[(1, .pointer (some ⟨0, 0, some 0⟩)), (2, .pointer (some ⟨1, 0, some 0⟩)), (3, .pointer (some ⟨2, 0, some 0⟩)), (4, .int .i64 ((k + 1 : Nat) : Int))], [[sv p g.ins, sv (some ⟨bg, og_, none⟩) g.vals, sv r g.outs], [.slice none 0 0, .slice none 0 0, .slice none 0 0], [sv p1 g.ins, .slice (some ⟨bq, 0, none⟩) g.vals.length g.vals.length, sv r1 g.outs]]⟩, by omega, (by (refine ⟨?_, ?_⟩ <;> repeat' first | exact trivial | exact congrArg (fun x => some (Value.int .i64 x)) hwk | exact rfl | refine ⟨?_, ?_⟩ | fail)), k + 1, by omega, rfl, rfl, og3, o3⟩
  · have hk' : k = g.vals.length := by simp at hge; omega
    subst hk'
    rw [fl_all] at og
    refine ⟨p1, q1, r1, ?_, eK, og.i, og.s, og.o, ⟨fun b f e => Nat.lt_of_lt_of_le (og.hi_.1 b f e) o.next, fun b f e => Nat.lt_of_lt_of_le (og.hi_.2.1 b f e) o.next, fun b f e => Nat.lt_of_lt_of_le (og.hi_.2.2 b f e) o.next⟩, og.ne⟩
    show AEnd.ret (.agg #[sv p1 g.ins, .slice q1 g.vals.length g.vals.length, sv r1 g.outs]) = .ret (.agg #[sv p1 g.ins, .slice q1 (fl g.vals g.vals.length).length (fl g.vals g.vals.length).length, sv r1 g.outs])
    rw [fl_len]
end Go.Proofs.Ytjmobjiaoklfdaa
