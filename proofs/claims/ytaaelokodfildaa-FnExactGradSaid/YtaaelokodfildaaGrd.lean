/- The reference's gradient, walked. Conditions: the graph is valid, the indexes are its own. l2grad: the reference's gradient, walked. Conditions: the graph is valid, the indexes are its own. -/
import Derived.Test.YtaaelokodfildaaGrb
set_option linter.unusedVariables false
set_option linter.unusedSimpArgs false
namespace Go.Proofs.Ytaaelokodfildaa
open Go.Am

theorem cellB {H : Heap} {b o : Nat} {l : List Bool} (h : Rd dBool H (some ⟨b, o, none⟩) l) {j : Int} (h0 : 0 ≤ j) (hj : j < l.length) : H.cell? b (o + j.toNat * 1) = some (.bool (baL l j.toNat)) := by
  obtain ⟨b', o', e, hc⟩ := h.cell (baL_get (l := l) (i := j.toNat) (by omega))
  cases e
  exact hc
theorem repB_len (n : Nat) : (repL n [Value.bool false]).length = n := by rw [flat_rep dBool false [.bool false] rfl, flat_len]; simp; exact Nat.mul_one n
set_option maxHeartbeats 1000000 in
theorem l2active_ec (H : Heap) (p q r : Option Addr) (g : Graph) (s x : Nat) (hg : RdG H p q r g) (hv : validB g = true) (hs : s < g.vals.length) (hx : x < g.vals.length) :
    EC Try.prog 33 [gV p q r g, int' s, int' x] H fun e K => e = .ret (sv (some ⟨H.next, 0, none⟩) (acL g.vals.length g.vals x (s - x))) ∧ K = H.push (.cells (flat dBool (acL g.vals.length g.vals x (s - x))) 1 true) := by
  obtain ⟨h1, h2, h3⟩ := valid_lens hv
  have hops := valid_ops hv
  obtain ⟨bq, oq, rfl⟩ := rdV_some hg.vals (by omega)
  have hwk := wrap_nat (k := x) (by omega)
  refine EC_fn ctx (fun _ => true) Try.func33 rfl rfl rfl ?_
  refine ⟨⟨by omega, by omega, by omega, by dsimp only; omega⟩, ?_⟩
  refine ⟨⟨by omega, by omega⟩, stOK_push _ _ _ _ _ (by have := repB_len g.vals.length; show 0 + x * 1 + 1 ≤ (repL g.vals.length [Value.bool false]).length; omega), ?_⟩
  have hst : (H.push (.cells (repL g.vals.length [Value.bool false]) 1 true)).stor H.next (0 + ((x : Int)).toNat * 1) [.bool true] = H.push (.cells (flat dBool (acL g.vals.length g.vals x 0)) 1 true) := by
    rw [flat_rep dBool false [.bool false] rfl]
    exact stor_elem dBool H _ true (by simpa using hx) (by show 0 + x * 1 = x * 1; omega) rfl
  refine loop_ind ctx (fun _ => true) (fun m E K => ∃ d : Nat, d ≤ s - x ∧ m = s - x - d ∧ E = ⟨[(1, int' s), (3, .pointer (some ⟨0, 0, some 0⟩)), (7, .slice (some ⟨H.next, 0, none⟩) g.vals.length g.vals.length), (8, int' ((x + d + 1 : Nat) : Int))], [[sv p g.ins, sv (some ⟨bq, oq, none⟩) g.vals, sv r g.outs]]⟩ ∧ K = H.push (.cells (flat dBool (acL g.vals.length g.vals x d)) 1 true))
    (E0 := ⟨[(1, int' s), (3, .pointer (some ⟨0, 0, some 0⟩)), (7, .slice (some ⟨H.next, 0, none⟩) g.vals.length g.vals.length), (8, int' ((x + 0 + 1 : Nat) : Int))], [[sv p g.ins, sv (some ⟨bq, oq, none⟩) g.vals, sv r g.outs]]⟩) ⟨0, Nat.zero_le _, rfl, rfl, hst⟩ (by (refine ⟨?_, ?_⟩ <;> repeat' first | exact trivial | exact congrArg (fun x => some (Value.int .i64 x)) hwk | exact rfl | refine ⟨?_, ?_⟩ | fail)) ?_
  clear hst
  rintro m E K ⟨d, hd, rfl, rfl, hK⟩
  have hwk2 : IntKind.i64.wrap (((x + d + 1 : Nat) : Int) + 1) = ((x + (d + 1) + 1 : Nat) : Int) := by rw [wrap_i64 (by omega) (by omega)]; omega
  refine ⟨fun hlt => ?_, fun hge => ?_⟩
  · have hlt : x + d + 1 ≤ s := by simp at hlt; omega
    have hvk : g.vals[x + d + 1]? = some (vAtI g.vals ((x + d + 1 : Nat) : Int)) := vAtI_get (vals := g.vals) (i := ((x + d + 1 : Nat) : Int)) (by omega) (by omega)
    have hin := hops _ _ hvk
    have hac : acL g.vals.length g.vals x (d + 1) = (acL g.vals.length g.vals x d).set (x + d + 1) (anyK (acL g.vals.length g.vals x d) (vAtI g.vals ((x + d + 1 : Nat) : Int)) (argsL (vAtI g.vals ((x + d + 1 : Nat) : Int))).length) := rfl
    have hml := acL_len g.vals.length g.vals x d
    have hfalse := acL_false g.vals.length g.vals x hx d (x + d + 1) (by omega)
    have h3' := opnd3 (vAtI g.vals ((x + d + 1 : Nat) : Int)).op
    have c0 : ∀ l, (H.push (.cells (flat dBool l) 1 true)).cell? bq (oq + (((x + d + 1 : Nat) : Int)).toNat * 6) = some (.int .i64 (vAtI g.vals ((x + d + 1 : Nat) : Int)).op) := fun l => (valF_at ((hg.mono (Ext.push H _)).vals) (i := ((x + d + 1 : Nat) : Int)) (by omega) (by omega)).1
    have hva : ∀ l, (H.push (.cells (flat dBool l) 1 true)).aggAt bq (oq + (((x + d + 1 : Nat) : Int)).toNat * 6) 6 (valV (vAtI g.vals ((x + d + 1 : Nat) : Int))) := fun l => (valF_at ((hg.mono (Ext.push H _)).vals) (i := ((x + d + 1 : Nat) : Int)) (by omega) (by omega)).2.2.2.2
    generalize hvv : vAtI g.vals ((x + d + 1 : Nat) : Int) = v at *
    generalize hst : acL g.vals.length g.vals x d = ac at *
    subst hK
    refine loop_ind ctx (fun _ => true) (fun m E K => ∃ k : Nat, k ≤ (opnd v.op).toNat ∧ m = (opnd v.op).toNat - k ∧ E = ⟨[(1, int' s), (3, .pointer (some ⟨0, 0, some 0⟩)), (7, .slice (some ⟨H.next, 0, none⟩) g.vals.length g.vals.length), (8, int' ((x + d + 1 : Nat) : Int)), (9, int' (k : Int))], [[sv p g.ins, sv (some ⟨bq, oq, none⟩) g.vals, sv r g.outs]]⟩ ∧ K = H.push (.cells (flat dBool (ac.set (x + d + 1) (anyK ac v k))) 1 true))
      (E0 := ⟨[(1, int' s), (3, .pointer (some ⟨0, 0, some 0⟩)), (7, .slice (some ⟨H.next, 0, none⟩) g.vals.length g.vals.length), (8, int' ((x + d + 1 : Nat) : Int)), (9, int' ((0 : Nat) : Int))], [[sv p g.ins, sv (some ⟨bq, oq, none⟩) g.vals, sv r g.outs]]⟩) ⟨0, Nat.zero_le _, rfl, rfl, by rw [show anyK ac v 0 = false by unfold anyK; simp, set_false hfalse]⟩ (by (refine ⟨?_, ?_⟩ <;> repeat' first | exact trivial | exact congrArg (fun x => some (Value.int .i64 x)) (wrap_nat (by omega)) | exact sv_eq (by simp; done) | exact rfl | refine ⟨?_, ?_⟩ | fail)) ?_
    rintro m E K ⟨k, hk, rfl, rfl, hK⟩
    have hc0 := c0 (ac.set (x + d + 1) (anyK ac v k))
    have hva0 := hva (ac.set (x + d + 1) (anyK ac v k))
    rw [← hK] at hc0 hva0
    refine ⟨⟨by omega, by omega⟩, _, hc0, _, l1operands_pc _ _, ?_, fun v K hR => by cases hR.1⟩
    rintro _ K1 ⟨hxx, rfl⟩
    cases hxx
    have hwk3 := wrap_nat (k := k) (by omega)
    refine ⟨fun hlt2 => ?_, fun hge2 => ?_⟩
    · have hlt2 : k < (opnd v.op).toNat := by simp at hlt2; omega
      have hfld := opnd_fieldB hin (k := (k : Int)) (by omega) (by omega)
      have hsucc := anyK_succ ac v hlt2
      have hrd : Rd dBool K1 (some ⟨H.next, 0, none⟩) (ac.set (x + d + 1) (anyK ac v k)) := by rw [hK]; exact Rd.push H true
      have hcb := cellB hrd (j := fieldV v k) hfld.1 (by rw [List.length_set, hml]; omega)
      have hsame : baL (ac.set (x + d + 1) (anyK ac v k)) (fieldV v k).toNat = baL ac (fieldV v k).toNat := by
        rw [baL_set _ _ _ _ (by rw [hml]; omega), if_neg (by omega)]
      rw [hsame] at hcb
      refine ⟨⟨by omega, by omega⟩, valV v, hva0, _, l1field_pc _ v k, ?_, fun v K hR => by cases hR.1⟩
      rintro _ K2 ⟨hxx, rfl⟩
      cases hxx
      refine ⟨⟨hfld.1, by omega⟩, _, hcb, fun ht => ?_, fun hf => ?_⟩
      · subst hK
        refine ⟨⟨by omega, by omega⟩, stOK_elem dBool H _ (by rw [List.length_set, hml]; show x + d + 1 < _; omega) (Nat.zero_add _) rfl, ?_⟩
        refine ⟨(opnd v.op).toNat - (k + 1), ⟨[(1, int' s), (3, .pointer (some ⟨0, 0, some 0⟩)), (7, .slice (some ⟨H.next, 0, none⟩) g.vals.length g.vals.length), (8, int' ((x + d + 1 : Nat) : Int)), (9, int' ((k + 1 : Nat) : Int))], [[sv p g.ins, sv (some ⟨bq, oq, none⟩) g.vals, sv r g.outs]]⟩, by omega, (by (refine ⟨?_, ?_⟩ <;> repeat' first | exact trivial | exact congrArg (fun x => some (Value.int .i64 x)) hwk3 | exact rfl | refine ⟨?_, ?_⟩ | fail)), k + 1, by omega, rfl, rfl, ?_⟩
        refine (stor_elem dBool H _ true (k := x + d + 1) (by rw [List.length_set, hml]; omega) (Nat.zero_add _) rfl).trans ?_
        rw [List.set_set, hsucc, ht, Bool.or_true]
        rfl
      · refine ⟨(opnd v.op).toNat - (k + 1), ⟨[(1, int' s), (3, .pointer (some ⟨0, 0, some 0⟩)), (7, .slice (some ⟨H.next, 0, none⟩) g.vals.length g.vals.length), (8, int' ((x + d + 1 : Nat) : Int)), (9, int' ((k + 1 : Nat) : Int))], [[sv p g.ins, sv (some ⟨bq, oq, none⟩) g.vals, sv r g.outs]]⟩, by omega, (by (refine ⟨?_, ?_⟩ <;> repeat' first | exact trivial | exact congrArg (fun x => some (Value.int .i64 x)) hwk3 | exact rfl | refine ⟨?_, ?_⟩ | fail)), k + 1, by omega, rfl, rfl, ?_⟩
        rw [hK, hsucc, hf, Bool.or_false]
    · have hk2 : k = (opnd v.op).toNat := by simp at hge2; omega
      subst hk2
      refine ⟨s - x - (d + 1), ⟨[(1, int' s), (3, .pointer (some ⟨0, 0, some 0⟩)), (7, .slice (some ⟨H.next, 0, none⟩) g.vals.length g.vals.length), (8, int' ((x + (d + 1) + 1 : Nat) : Int))], [[sv p g.ins, sv (some ⟨bq, oq, none⟩) g.vals, sv r g.outs]]⟩, by omega, (by (refine ⟨?_, ?_⟩ <;> repeat' first | exact trivial | exact congrArg (fun x => some (Value.int .i64 x)) hwk2 | exact rfl | refine ⟨?_, ?_⟩ | fail)), d + 1, by omega, rfl, rfl, ?_⟩
      rw [hK, hac, argsL_len]
  · have hge : ¬ x + d + 1 ≤ s := by simp at hge; omega
    obtain rfl : d = s - x := by omega
    exact ⟨by rw [show AEnd.ret (sv (some ⟨H.next, 0, none⟩) (acL g.vals.length g.vals x (s - x))) = .ret (.slice (some ⟨H.next, 0, none⟩) g.vals.length g.vals.length) by rw [show sv (some ⟨H.next, 0, none⟩) (acL g.vals.length g.vals x (s - x)) = .slice (some ⟨H.next, 0, none⟩) g.vals.length g.vals.length by show Value.slice _ _ _ = _; rw [acL_len]]]; rfl, hK⟩
end Go.Proofs.Ytaaelokodfildaa

set_option linter.unusedVariables false
namespace Go.Proofs.Ytaaelokodfildaa
open Go.Am

/-- The reference's walk: a graph of its own, slopes, what is active. -/
structure LS (H K : Heap) (p q r : Option Addr) (ins outs : List Int) (st : List Val × List Int) (A S : Nat) (ac : List Bool) : Prop where
  og : OwnG K H.next K.next p q r ⟨ins, st.1, outs⟩
  sl : K.blk S = some (.cells (flat dInt st.2) 1 true)
  ac : K.blk A = some (.cells (flat dBool ac) 1 true)
  hS : H.next ≤ S
  hA : H.next ≤ A
  nS : ∀ o, p ≠ some ⟨S, o, none⟩ ∧ q ≠ some ⟨S, o, none⟩ ∧ r ≠ some ⟨S, o, none⟩
  nA : ∀ o, q ≠ some ⟨A, o, none⟩
  AS : A ≠ S
  e : Ext H K
section
variable {H K : Heap} {p q r : Option Addr} {ins outs : List Int} {st : List Val × List Int} {A S : Nat} {ac : List Bool}
theorem LS.rdS (h : LS H K p q r ins outs st A S ac) : Rd dInt K (some ⟨S, 0, none⟩) st.2 := Rd.blk h.sl
theorem LS.rdA (h : LS H K p q r ins outs st A S ac) : Rd dBool K (some ⟨A, 0, none⟩) ac := Rd.blk h.ac
theorem LS.mv (h : LS H K p q r ins outs st A S ac) {K' : Heap} {q' : Option Addr} {vs' : List Val} (m : Mv K q K' q') (og' : OwnG K' H.next K'.next p q' r ⟨ins, vs', outs⟩) : LS H K' p q' r ins outs (vs', st.2) A S ac := by
  have lS := K.lt _ _ h.sl
  have lA := K.lt _ _ h.ac
  refine ⟨og', m.same _ _ (fun o => (h.nS o).2.1) h.sl, m.same _ _ h.nA h.ac, h.hS, h.hA, fun o => ⟨(h.nS o).1, fun e => ?_, (h.nS o).2.2⟩, fun o e => ?_, h.AS, m.ext h.e fun b o e => ?_⟩
  · rcases m.new with h' | ⟨b, h', hb⟩
    · rw [h'] at e; exact (h.nS o).2.1 e
    · rw [h'] at e; cases e; omega
  · rcases m.new with h' | ⟨b, h', hb⟩
    · rw [h'] at e; exact h.nA o e
    · rw [h'] at e; cases e; omega
  · subst e
    obtain ⟨st1, st2⟩ := st
    have hs := h.og.s
    dsimp only at hs
    cases hs with
    | blk h1 h2 => exact h1
theorem LS.set (h : LS H K p q r ins outs st A S ac) {i o : Nat} (y : Int) (hi : i < st.2.length) (ho : o = 0 + i * 1) : K.stOK S o 1 ∧ LS H (K.stor S o [int' y]) p q r ins outs (st.1, st.2.set i y) A S ac := by
  subst ho
  obtain ⟨s1, s2⟩ := stor_but dInt h.sl (i := i) (o := 0 + i * 1) (l := [int' y]) y hi (by show 0 + i * 1 = i * 1; omega) rfl
  refine ⟨⟨_, _, h.sl, by rw [flat_len]; show 0 + i * 1 + 1 ≤ st.2.length * 1; omega⟩, keep_own h.og S h.nS (fun x c hx hc => (stor_other hx).trans hc), s1, (stor_other h.AS).trans h.ac, h.hS, h.hA, h.nS, h.nA, h.AS, ⟨h.e.next, fun x c hc => (stor_other (by have := H.lt _ _ hc; have := h.hS; omega)).trans (h.e.same x c hc)⟩⟩
end
/-- Value i's slopes on the way. -/
def gie (vals : List Val) (act : Nat → Bool) (st : List Val × List Int) (i k : Nat) : List Val × List Int :=
  if act i = true ∧ 0 ≤ atV st.2 i then gin vals act (vAtI vals i) i (atV st.2 i) st k else st
theorem gie_all (vals : List Val) (act : Nat → Bool) (st : List Val × List Int) (i : Nat) : gie vals act st i (opnd (vAtI vals i).op).toNat = gi vals act st i := rfl
theorem gie_zero (vals : List Val) (act : Nat → Bool) (st : List Val × List Int) (i : Nat) : gie vals act st i 0 = st := by unfold gie; split <;> rfl
theorem gie_ok {vals : List Val} {s : Nat} (C : GC vals s) {act : Nat → Bool} {m : Nat} {st : List Val × List Int} (h : GOK vals s m st) {i : Nat} (hi : i ≤ s) (k : Nat) (hk : k ≤ (opnd (vAtI vals (i : Int)).op).toNat) :
    GOK vals s (m + 4 * k) (gie vals act st i k) ∧ atV (gie vals act st i k).2 (i : Int) = atV st.2 (i : Int) := by
  unfold gie
  split
  · rename_i hc
    obtain ⟨a1, a2, a3⟩ := gin_ok C h hi hc.2 (act := act) k hk
    exact ⟨a1, a3 _ (Int.le_refl _)⟩
  · exact ⟨⟨h.len, h.bd, h.pre.le (by omega)⟩, rfl⟩
theorem gie_succ (vals : List Val) (act : Nat → Bool) (st : List Val × List Int) (i k : Nat) : gie vals act st i (k + 1) = if act i = true ∧ 0 ≤ atV st.2 i then gk vals act (vAtI vals i) i (atV st.2 i) (gie vals act st i k) k else gie vals act st i k := by
  unfold gie
  split <;> rfl
/-- What l2grad leaves. -/
def GRD (H : Heap) (g : Graph) (y : List Val × Int) (e : AEnd) (K : Heap) : Prop := ∃ p q r, e = .ret (.tuple #[gV p q r ⟨g.ins, y.1, g.outs⟩, .int .i64 y.2]) ∧ Ext H K ∧ OwnG K H.next K.next p q r ⟨g.ins, y.1, g.outs⟩
theorem GRD.no {H K : Heap} {g : Graph} {y : List Val × Int} {v : Value} (h : GRD H g y (.pan v) K) : False := by obtain ⟨_, _, _, h, _⟩ := h; cases h
theorem valid_opB {g : Graph} (h : validB g = true) {i : Nat} {v : Val} (hv : g.vals[i]? = some v) : 0 ≤ v.op ∧ v.op ≤ 13 := by
  simp only [validB, Bool.and_eq_true, decide_eq_true_eq] at h
  obtain ⟨⟨⟨⟨⟨⟨v1, v2⟩, v3⟩, v4⟩, v5⟩, v6⟩, v7⟩ := h
  rw [List.all_eq_true] at v5
  have hi : i < g.vals.length := (List.getElem?_eq_some_iff.1 hv).1
  have := v5 i (List.mem_range.2 hi)
  rw [vAt_get hv] at this
  simp only [vokB, Bool.and_eq_true, decide_eq_true_eq] at this
  exact this.1.1
set_option maxHeartbeats 2000000 in
theorem l2grad_ec (H : Heap) (p q r : Option Addr) (g : Graph) (s x : Nat) (hg : RdG H p q r g) (hv : validB g = true) (hs : s < g.vals.length) (hx : x < g.vals.length) :
    EC Try.prog 14 [gV p q r g, int' s, int' x] H (GRD H g (gradP g.vals s x)) := by
  obtain ⟨h1, h2, h3⟩ := valid_lens hv
  have C := GC.of hv hs
  have hops := valid_ops hv
  obtain ⟨bq0, oq0, rfl⟩ := rdV_some hg.vals (by omega)
  refine EC_fn ctx (fun _ => true) Try.func14 rfl rfl rfl ?_
  refine ⟨_, l2active_ec H p _ r g s x hg hv hs hx, ?_, fun v K hR => by cases hR.1⟩
  rintro _ K1 ⟨hxx, hK1⟩
  cases hxx
  have e1 : Ext H K1 := by rw [hK1]; exact Ext.push _ _
  have hA1 : K1.blk H.next = some (.cells (flat dBool (acL g.vals.length g.vals x (s - x))) 1 true) := by rw [hK1]; exact push_blk _ _
  have n1 : K1.next = H.next + 1 := by rw [hK1]; rfl
  clear hK1
  have hlx := (valF_at (hg.mono e1).vals (i := (x : Int)) (by omega) (by omega)).2.1
  rw [← lenAt_v2 (vs := g.vals) (o := (x : Int)) rfl (by omega) (by omega)] at hlx
  refine ⟨⟨by omega, by omega⟩, _, hlx, ?_⟩
  refine ⟨_, l2copy_ec K1 p _ r g (hg.mono e1) (by omega) (by omega) (by omega), ?_, fun v K hR => hR.no.elim⟩
  rintro _ K2 ⟨p1, q1, r1, hxx, e2, og⟩
  cases hxx
  have n2 := e2.next
  have hA2 := e2.same _ _ hA1
  obtain ⟨bq, hq⟩ := bufq_some og.s (by omega)
  subst hq
  have og' : OwnG K2 H.next K2.next p1 (some ⟨bq, 0, none⟩) r1 g := ⟨og.i.wider (by omega), og.s.wider (by omega), og.o.wider (by omega), og.hi_, og.ne⟩
  have hac : (acL g.vals.length g.vals x (s - x)).length = g.vals.length := acL_len _ _ _ _
  have hcA := cellB (Rd.blk (d := dBool) hA2) (j := (s : Int)) (by omega) (by rw [hac]; omega)
  have eH2 := e1.trans e2
  have hpc := fun hc d hd => grad_pre (x := x) C hc d hd
  have hgz : (s < x ∨ baL (acL g.vals.length g.vals x (s - x)) s = false) → gradP g.vals s x = (g.vals ++ [opV 1 (lenAt g.vals x) 0 0 0], (g.vals.length : Int)) := fun h => by unfold gradP; rw [if_pos h]
  have hgn : ¬ (s < x ∨ baL (acL g.vals.length g.vals x (s - x)) s = false) → gradP g.vals s x = if atV (gr g.vals (baL (acL g.vals.length g.vals x (s - x))) s (g0 g.vals s) (s - x)).2 x < 0 then
    ((gr g.vals (baL (acL g.vals.length g.vals x (s - x))) s (g0 g.vals s) (s - x)).1 ++ [opV 1 (lenAt g.vals x) 0 0 0], ((gr g.vals (baL (acL g.vals.length g.vals x (s - x))) s (g0 g.vals s) (s - x)).1.length : Int))
    else ((gr g.vals (baL (acL g.vals.length g.vals x (s - x))) s (g0 g.vals s) (s - x)).1, atV (gr g.vals (baL (acL g.vals.length g.vals x (s - x))) s (g0 g.vals s) (s - x)).2 x) := fun h => by unfold gradP; rw [if_neg h]
  have hal : (acL g.vals.length g.vals x (s - x)).length = g.vals.length := acL_len _ _ _ _
  generalize gradP g.vals s x = y at *
  generalize acL g.vals.length g.vals x (s - x) = ac at *
  refine ⟨fun _ => ⟨by omega, by omega⟩, _, fun _ => hcA, fun hz => ?_, fun hz => ?_⟩
  · have hc : s < x ∨ baL ac s = false := by
      by_cases q : s < x
      · exact .inl q
      · right
        have q' : ¬ ((s : Int) < (x : Int)) := by omega
        simp [q'] at hz; exact hz
    rw [hgz hc]
    refine ⟨.leaf [([0, 1, 2], some 3), ([], some 4), ([], none)] [], by kernel_rfl, _, l2zeros_pc _ _, ?_⟩
    refine ⟨_, l2put_ec K2 H.next p1 _ r1 g _ og' (by omega) (by omega), ?_, fun v K hR => hR.no.elim⟩
    rintro _ K3 ⟨q2, hxx, o2, m2⟩
    cases hxx
    refine ⟨.leaf [([0, 1, 2], some 3), ([4], none)] [], by kernel_rfl, _, l2last_putB _ _ _ _ _ _ (by rw [putG_len]; omega), ?_⟩
    exact ⟨p1, q2, r1, rfl, m2.ext eH2 (fun b o e => by cases e; exact (og'.s.lt rfl).1), o2⟩
  · have hc : ¬ (s < x ∨ baL ac s = false) := by
      rintro (h | h)
      · have h' : (s : Int) < (x : Int) := by omega
        simp [h'] at hz
      · simp [h] at hz
    rw [hgn hc]
    clear hgz hgn hz
    have hxs : x ≤ s := by omega
    have hwn : (IntKind.i64.wrap ((s : Int) + 1)).toNat = s + 1 := by rw [wrap_nat (by omega)]; rfl
    have hw1 : IntKind.i64.wrap ((s : Int) + 1) = (s : Int) + 1 := by rw [wrap_i64 (by omega) (by omega)]
    refine ⟨⟨by omega, by omega, by omega, by dsimp only; omega⟩, ?_⟩
    -- no slope
    refine loop_ind ctx (fun _ => true) (fun m E K => ∃ k, k ≤ s + 1 ∧ m = s + 1 - k ∧ E = ⟨[(1, int' s), (2, int' x), (3, .pointer (some ⟨0, 0, some 0⟩)), (6, .pointer (some ⟨1, 0, some 0⟩)), (8, sv (some ⟨H.next, 0, none⟩) ac), (9, int' (lenAt g.vals x)), (10, .slice (some ⟨K2.next, 0, none⟩) (s + 1) (s + 1)), (11, int' ((k : Nat) : Int))], [[sv p1 g.ins, sv (some ⟨bq, 0, none⟩) g.vals, sv r1 g.outs], [.slice none 0 0, .slice none 0 0, .slice none 0 0]]⟩ ∧ K = K2.push (.cells (flat dInt (List.replicate k (-1) ++ List.replicate (s + 1 - k) 0)) dInt.sz true))
      (E0 := ⟨[(1, int' s), (2, int' x), (3, .pointer (some ⟨0, 0, some 0⟩)), (6, .pointer (some ⟨1, 0, some 0⟩)), (8, sv (some ⟨H.next, 0, none⟩) ac), (9, int' (lenAt g.vals x)), (10, .slice (some ⟨K2.next, 0, none⟩) (s + 1) (s + 1)), (11, int' ((0 : Nat) : Int))], [[sv p1 g.ins, sv (some ⟨bq, 0, none⟩) g.vals, sv r1 g.outs], [.slice none 0 0, .slice none 0 0, .slice none 0 0]]⟩) ⟨0, Nat.zero_le _, rfl, rfl, ?_⟩ (by (refine ⟨?_, ?_⟩ <;> repeat' first | exact trivial | exact congrArg (fun n => some (Value.slice (some ⟨K2.next, 0, none⟩) n n)) hwn | exact rfl | refine ⟨?_, ?_⟩ | fail)) ?_
    · show K2.push (.cells (repL (IntKind.i64.wrap ((s : Int) + 1)).toNat [.int .i64 0]) 1 true) = _
      rw [hwn, flat_rep dInt 0 [.int .i64 0] rfl]; rfl
    rintro m E K ⟨k, hk, rfl, rfl, hK⟩
    refine ⟨fun hlt => ?_, fun hge => ?_⟩
    · have hlt : k < s + 1 := by simp at hlt; omega
      have hlt' : k < (List.replicate k (-1 : Int) ++ List.replicate (s + 1 - k) 0).length := by simp; omega
      subst hK
      have hwk := wrap_nat (k := k) (by omega)
      refine ⟨⟨by omega, by omega⟩, stOK_elem dInt K2 _ hlt' (Nat.zero_add _) rfl, ?_⟩
      refine ⟨s + 1 - (k + 1), ⟨[(1, int' s), (2, int' x), (3, .pointer (some ⟨0, 0, some 0⟩)), (6, .pointer (some ⟨1, 0, some 0⟩)), (8, sv (some ⟨H.next, 0, none⟩) ac), (9, int' (lenAt g.vals x)), (10, .slice (some ⟨K2.next, 0, none⟩) (s + 1) (s + 1)), (11, int' ((k + 1 : Nat) : Int))], [[sv p1 g.ins, sv (some ⟨bq, 0, none⟩) g.vals, sv r1 g.outs], [.slice none 0 0, .slice none 0 0, .slice none 0 0]]⟩, by omega, (by (refine ⟨?_, ?_⟩ <;> repeat' first | exact trivial | exact congrArg (fun x => some (Value.int .i64 x)) hwk | exact rfl | refine ⟨?_, ?_⟩ | fail)), k + 1, by omega, rfl, rfl, ?_⟩
      refine (stor_elem dInt K2 _ (-1) hlt' (Nat.zero_add _) rfl).trans ?_
      congr 2
      rw [List.set_append, if_neg (by simp), List.length_replicate, Nat.sub_self, show s + 1 - k = (s + 1 - (k + 1)) + 1 by omega, List.replicate_succ, List.set_cons_zero, List.replicate_succ', List.append_assoc]
      rfl
    have hk : k = s + 1 := by simp at hge; omega
    subst hk
    have L0 : LS H K p1 (some ⟨bq, 0, none⟩) r1 g.ins g.outs (g.vals, List.replicate (s + 1) (-1)) H.next K2.next ac := by
      have hK' : K = K2.push (.cells (flat dInt (List.replicate (s + 1) (-1))) 1 true) := by
        rw [hK, Nat.sub_self, List.replicate_zero, List.append_nil]; rfl
      rw [hK']
      refine ⟨(og'.mono (Ext.push _ _)).grow (Nat.le_succ _), push_blk _ _, (Ext.push _ _).same _ _ hA2, by omega, by omega, fun o => ⟨fun e => ?_, fun e => ?_, fun e => ?_⟩, fun o e => ?_, by omega, eH2.push' _⟩
      · have := og.hi_.1 _ _ e; omega
      · have := og.hi_.2.1 _ _ e; omega
      · have := og.hi_.2.2 _ _ e; omega
      · cases e; have := (og.s.lt rfl).1; omega
    clear hK
    refine ⟨_, l2put_ec K H.next p1 _ r1 g oneV L0.og L0.e.next (by omega), ?_, fun v K hR => hR.no.elim⟩
    rintro _ K3 ⟨q3, hxx, o3, m3⟩
    cases hxx
    have L1 := L0.mv m3 (vs' := g.vals ++ [oneV]) o3
    refine ⟨_, l2last_putB K3 _ _ _ _ _ (by rw [putG_len]; omega), ?_, fun v K hR => by cases hR.1⟩
    rintro _ K3 ⟨hxx, rfl⟩
    cases hxx
    obtain ⟨k2, L2⟩ := L1.set (i := s) (o := 0 + ((s : Int)).toNat * 1) (g.vals.length : Int) (by simp) rfl
    refine ⟨⟨by omega, by omega⟩, k2, ?_⟩
    have L2 : LS H (K3.stor K2.next (0 + ((s : Int)).toNat * 1) [int' (g.vals.length : Int)]) p1 q3 r1 g.ins g.outs (gr g.vals (baL ac) s (g0 g.vals s) 0) H.next K2.next ac := L2
    clear L0 L1 k2
    refine loop_ind ctx (fun _ => true) (fun m E K => ∃ (d : Nat) (q' : Option Addr), d ≤ s - x ∧ m = s - x - d ∧ E = ⟨[(1, int' s), (2, int' x), (3, .pointer (some ⟨0, 0, some 0⟩)), (6, .pointer (some ⟨1, 0, some 0⟩)), (8, sv (some ⟨H.next, 0, none⟩) ac), (9, int' (lenAt g.vals x)), (10, .slice (some ⟨K2.next, 0, none⟩) (s + 1) (s + 1)), (12, int' ((s - d : Nat) : Int))], [[sv p1 g.ins, sv q' (gr g.vals (baL ac) s (g0 g.vals s) d).1, sv r1 g.outs], [.slice none 0 0, .slice none 0 0, .slice none 0 0]]⟩ ∧ LS H K p1 q' r1 g.ins g.outs (gr g.vals (baL ac) s (g0 g.vals s) d) H.next K2.next ac)
      (E0 := ⟨[(1, int' s), (2, int' x), (3, .pointer (some ⟨0, 0, some 0⟩)), (6, .pointer (some ⟨1, 0, some 0⟩)), (8, sv (some ⟨H.next, 0, none⟩) ac), (9, int' (lenAt g.vals x)), (10, .slice (some ⟨K2.next, 0, none⟩) (s + 1) (s + 1)), (12, int' ((s : Nat) : Int))], [[sv p1 g.ins, sv q3 (gr g.vals (baL ac) s (g0 g.vals s) 0).1, sv r1 g.outs], [.slice none 0 0, .slice none 0 0, .slice none 0 0]]⟩) ⟨0, q3, Nat.zero_le _, rfl, rfl, L2⟩ (by (refine ⟨?_, ?_⟩ <;> repeat' first | exact trivial | exact rfl | refine ⟨?_, ?_⟩ | fail)) ?_
    clear L2
    rintro m E K ⟨d, q', hd, rfl, rfl, L⟩
    have ok := gr_ok C (baL ac) d
    obtain ⟨e, he, hel, hew⟩ := ok.pre
    obtain ⟨bq', hq'⟩ : ∃ bq', q' = some ⟨bq', 0, none⟩ := bufq_some L.og.s (by show 0 < (gr g.vals (baL ac) s (g0 g.vals s) d).1.length; rw [he]; simp; omega)
    subst hq'
    refine ⟨fun hgt => ?_, fun hle => ?_⟩
    · have hgt : x < s - d := by simp at hgt; omega
      have hgr : gr g.vals (baL ac) s (g0 g.vals s) (d + 1) = gi g.vals (baL ac) (gr g.vals (baL ac) s (g0 g.vals s) d) (s - d) := rfl
      generalize hst : gr g.vals (baL ac) s (g0 g.vals s) d = st at *
      obtain ⟨i, hi⟩ : ∃ i, i = s - d := ⟨_, rfl⟩
      rw [← hi] at hgr hgt ⊢
      have hvk : g.vals[i]? = some (vAtI g.vals (i : Int)) := vAtI_get (vals := g.vals) (i := (i : Int)) (by omega) (by omega)
      have hin := hops _ _ hvk
      have hvo := valid_opB hv hvk
      refine loop_ind ctx (fun _ => true) (fun m E K => ∃ (k : Nat) (q' : Option Addr), k ≤ (opnd (vAtI g.vals (i : Int)).op).toNat ∧ m = (opnd (vAtI g.vals (i : Int)).op).toNat - k ∧ E = ⟨[(1, int' s), (2, int' x), (3, .pointer (some ⟨0, 0, some 0⟩)), (6, .pointer (some ⟨1, 0, some 0⟩)), (8, sv (some ⟨H.next, 0, none⟩) ac), (9, int' (lenAt g.vals x)), (10, .slice (some ⟨K2.next, 0, none⟩) (s + 1) (s + 1)), (12, int' ((i : Nat) : Int)), (13, int' ((k : Nat) : Int))], [[sv p1 g.ins, sv q' (gie g.vals (baL ac) st i k).1, sv r1 g.outs], [.slice none 0 0, .slice none 0 0, .slice none 0 0]]⟩ ∧ LS H K p1 q' r1 g.ins g.outs (gie g.vals (baL ac) st i k) H.next K2.next ac)
        (E0 := ⟨[(1, int' s), (2, int' x), (3, .pointer (some ⟨0, 0, some 0⟩)), (6, .pointer (some ⟨1, 0, some 0⟩)), (8, sv (some ⟨H.next, 0, none⟩) ac), (9, int' (lenAt g.vals x)), (10, .slice (some ⟨K2.next, 0, none⟩) (s + 1) (s + 1)), (12, int' ((i : Nat) : Int)), (13, int' ((0 : Nat) : Int))], [[sv p1 g.ins, sv (some ⟨bq', 0, none⟩) st.1, sv r1 g.outs], [.slice none 0 0, .slice none 0 0, .slice none 0 0]]⟩) ⟨0, some ⟨bq', 0, none⟩, Nat.zero_le _, rfl, by rw [gie_zero], by rw [gie_zero]; exact L⟩ (by (refine ⟨?_, ?_⟩ <;> repeat' first | exact trivial | exact rfl | refine ⟨?_, ?_⟩ | fail)) ?_
      rintro m E K ⟨k, q', hk, rfl, rfl, L⟩
      obtain ⟨okk, hsame⟩ := gie_ok C ok (act := baL ac) (i := i) (by omega) k hk
      have hsu := gie_succ g.vals (baL ac) st i k
      have h3' := opnd3 (vAtI g.vals (i : Int)).op
      obtain ⟨e2, he2, hel2, hew2⟩ := okk.pre
      have hwk := wrap_nat (k := k) (by omega)
      generalize hsk : gie g.vals (baL ac) st i k = sk at *
      obtain ⟨bk, hq'⟩ : ∃ bk, q' = some ⟨bk, 0, none⟩ := bufq_some L.og.s (by show 0 < sk.1.length; rw [he2]; simp; omega)
      subst hq'
      have hskl : sk.1.length ≤ 60000 := by rw [he2]; simp; omega
      have hskg : g.vals.length ≤ sk.1.length := by rw [he2]; simp
      have hvi : vAtI sk.1 (i : Int) = vAtI g.vals (i : Int) := vAtI_pre he2 (by omega) (by omega)
      obtain ⟨c0, _, _, _, hva⟩ := valF_at L.og.s.rd (i := (i : Int)) (by omega) (by dsimp only; omega)
      dsimp only at c0 hva
      rw [hvi] at c0 hva
      refine ⟨⟨by omega, by omega⟩, _, c0, _, l1operands_pc _ _, ?_, fun v K hR => by cases hR.1⟩
      rintro _ K4 ⟨hxx, rfl⟩
      cases hxx
      refine ⟨fun hlt => ?_, fun hge => ?_⟩
      · have hlt : k < (opnd (vAtI g.vals (i : Int)).op).toNat := by simp at hlt; omega
        have hfld := opnd_fieldB hin (k := (k : Int)) (by omega) (by omega)
        generalize hvv : vAtI g.vals (i : Int) = v at *
        have hAi := cellB L.rdA (j := (i : Int)) (by omega) (by omega)
        have hSi := at_cellI L.rdS (j := (i : Int)) (by omega) (by rw [okk.len]; omega)
        have hAo := cellB L.rdA (j := fieldV v k) hfld.1 (by omega)
        have hSo := at_cellI L.rdS (j := fieldV v k) hfld.1 (by rw [okk.len]; omega)
        rw [hsame] at hSi
        rw [show ((i : Int)).toNat = i from rfl] at hAi
        refine ⟨⟨by omega, by omega⟩, valV v, hva, _, l1field_pc _ v k, ?_, fun v K hR => by cases hR.1⟩
        rintro _ K5 ⟨hxx, rfl⟩
        cases hxx
        refine ⟨⟨by omega, by omega⟩, _, hAi, fun _ => ⟨by omega, by omega⟩, _, fun _ => hSi, fun _ => ⟨hfld.1, by omega⟩, _, fun _ => hAo, fun ht => ?_, fun hf => ?_⟩
        · have hno : gie g.vals (baL ac) st i (k + 1) = sk := by
            rw [hsu]
            split
            · rename_i hc'
              unfold gk
              rw [if_neg]
              rintro ⟨ho, _⟩
              have : ¬ atV st.2 (i : Int) < 0 := by omega
              simp [hc'.1, ho, this] at ht
            · rfl
          refine ⟨(opnd v.op).toNat - (k + 1), ⟨[(1, int' s), (2, int' x), (3, .pointer (some ⟨0, 0, some 0⟩)), (6, .pointer (some ⟨1, 0, some 0⟩)), (8, sv (some ⟨H.next, 0, none⟩) ac), (9, int' (lenAt g.vals x)), (10, .slice (some ⟨K2.next, 0, none⟩) (s + 1) (s + 1)), (12, int' ((i : Nat) : Int)), (13, int' ((k + 1 : Nat) : Int))], [[sv p1 g.ins, sv (some ⟨bk, 0, none⟩) (gie g.vals (baL ac) st i (k + 1)).1, sv r1 g.outs], [.slice none 0 0, .slice none 0 0, .slice none 0 0]]⟩, by omega, (by rw [hno]; exact (by (refine ⟨?_, ?_⟩ <;> repeat' first | exact trivial | exact congrArg (fun x => some (Value.int .i64 x)) hwk | exact rfl | refine ⟨?_, ?_⟩ | fail))), k + 1, (some ⟨bk, 0, none⟩), by omega, rfl, rfl,  ?_⟩
          rw [hno]; exact L
        · have hc' : baL ac i = true ∧ 0 ≤ atV st.2 (i : Int) ∧ baL ac (fieldV v k).toNat = true := by
            cases ha : baL ac i with
            | false => simp [ha] at hf
            | true =>
              by_cases hb : atV st.2 (i : Int) < 0
              · simp [ha, hb] at hf
              · cases ho : baL ac (fieldV v k).toNat with
                | false => simp [ha, ho] at hf
                | true => exact ⟨rfl, by omega, rfl⟩
          obtain ⟨ha, hd0, ho⟩ := hc'
          rw [if_pos ⟨ha, hd0⟩] at hsu
          have hrange : 0 ≤ v.a ∧ v.a < (i : Int) := hin.a (by omega)
          by_cases h8 : v.op = 8 ∧ k = 0
          · have hno : gie g.vals (baL ac) st i (k + 1) = sk := by
              rw [hsu]; unfold gk; rw [if_neg]; rintro ⟨_, h⟩; exact h h8
            refine ⟨.split 7 12 (.leaf [([0, 1, 2, 3, 4, 5, 6], some 12), ([], some 7), ([8, 9, 10, 11], some 13), ([14, 15], none)] [0, 1, 2, 3, 4, 5, 6, 10, 11, 100010, 100011, 200007, 200013]) (.leaf [([0, 1, 2, 3, 4, 5, 6], some 7), ([8, 9, 10, 11], some 12), ([], some 13), ([14, 15], none)] [8, 9, 10, 11, 100010, 100011]), by kernel_rfl, ⟨⟨by omega, by omega⟩, _, hSi, Ext.refl _, ?_⟩, ⟨⟨by omega, by omega⟩, _, hSi, ?_⟩⟩
            all_goals
              refine ⟨_, l2part_none K5 H.next p1 _ r1 ⟨g.ins, sk.1, g.outs⟩ v i k (atV st.2 (i : Int)) L.og L.e.next (by show sk.1.length ≤ _; omega) (by omega) (by show (i : Int) < sk.1.length; omega) hvi (by omega) ⟨hrange.1, by show v.a < sk.1.length; omega⟩ ⟨h8.1, by omega⟩, ?_, fun v K hR => hR.no.elim⟩
              rintro _ K6 ⟨q6, hxx, o6, m6⟩
              cases hxx
              have L6 := L.mv m6 o6
              dsimp only at o6 L6 ⊢
              refine ⟨fun _ => ?_, fun h => by simp at h⟩
              refine ⟨(opnd v.op).toNat - (k + 1), ⟨[(1, int' s), (2, int' x), (3, .pointer (some ⟨0, 0, some 0⟩)), (6, .pointer (some ⟨1, 0, some 0⟩)), (8, sv (some ⟨H.next, 0, none⟩) ac), (9, int' (lenAt g.vals x)), (10, .slice (some ⟨K2.next, 0, none⟩) (s + 1) (s + 1)), (12, int' ((i : Nat) : Int)), (13, int' ((k + 1 : Nat) : Int))], [[sv p1 g.ins, sv q6 (gie g.vals (baL ac) st i (k + 1)).1, sv r1 g.outs], [.slice none 0 0, .slice none 0 0, .slice none 0 0]]⟩, by omega, (by rw [hno]; exact (by (refine ⟨?_, ?_⟩ <;> repeat' first | exact trivial | exact congrArg (fun x => some (Value.int .i64 x)) hwk | exact rfl | refine ⟨?_, ?_⟩ | fail))), k + 1, q6, by omega, rfl, rfl,  ?_⟩
              rw [hno]; exact L6
          · refine ⟨.split 7 12 (.leaf [([0, 1, 2, 3, 4, 5, 6], some 12), ([], some 7), ([8, 9, 10, 11], some 13), ([14, 15], none)] [0, 1, 2, 3, 4, 5, 6, 10, 11, 100010, 100011, 200007, 200013]) (.leaf [([0, 1, 2, 3, 4, 5, 6], some 7), ([8, 9, 10, 11], some 12), ([], some 13), ([14, 15], none)] [8, 9, 10, 11, 100010, 100011]), by kernel_rfl, ⟨⟨by omega, by omega⟩, _, hSi, Ext.refl _, ?_⟩, ⟨⟨by omega, by omega⟩, _, hSi, ?_⟩⟩
            all_goals
              refine ⟨_, l2part_ec K5 H.next p1 _ r1 ⟨g.ins, sk.1, g.outs⟩ v i k (atV st.2 (i : Int)) L.og L.e.next (by show sk.1.length ≤ _; omega) (by omega) (by show (i : Int) < sk.1.length; omega) hvi ⟨by omega, by omega⟩ ⟨hrange.1, by show v.a < sk.1.length; omega⟩ hvo (by omega), ?_, fun v K hR => hR.no.elim⟩
              rintro _ K6 ⟨q6, hxx, o6, m6⟩
              cases hxx
              have hgk : gk g.vals (baL ac) v i (atV st.2 (i : Int)) sk k = if atV sk.2 (fieldV v k) < 0 then ((partP sk.1 v i k (atV st.2 (i : Int)) (lenAt g.vals v.a)).1, sk.2.set (fieldV v k).toNat (partP sk.1 v i k (atV st.2 (i : Int)) (lenAt g.vals v.a)).2)
                else ((partP sk.1 v i k (atV st.2 (i : Int)) (lenAt g.vals v.a)).1 ++ [opV 2 (lenAt g.vals (fieldV v k)) (atV sk.2 (fieldV v k)) (partP sk.1 v i k (atV st.2 (i : Int)) (lenAt g.vals v.a)).2 0], sk.2.set (fieldV v k).toNat ((partP sk.1 v i k (atV st.2 (i : Int)) (lenAt g.vals v.a)).1.length : Int)) := by
                unfold gk; rw [if_pos ⟨ho, h8⟩]
              have hbd0 : Bd (atV st.2 (i : Int)) sk.1 := by rw [← hsame]; exact okk.bd (i : Int)
              obtain ⟨hpl, _, _⟩ := partP_pre (v := v) (i := (i : Int)) (k := (k : Int)) (src := lenAt g.vals v.a) hbd0 (C.all v (List.mem_of_getElem? hvk)) (C.len v.a)
              have hsrc : lenAt (Graph.vals ⟨g.ins, sk.1, g.outs⟩) v.a = lenAt g.vals v.a := by
                show lenAt sk.1 v.a = _
                rw [he2]; unfold lenAt; rw [List.getElem?_append_left (by omega)]
              rw [hsrc] at o6
              have L6 := L.mv m6 (vs' := (partP sk.1 v i k (atV st.2 (i : Int)) (lenAt g.vals v.a)).1) o6
              rw [hsrc]
              obtain ⟨e5, he5, hel5, hew5⟩ := hpl
              dsimp only at o6 L6 ⊢
              generalize hmp : partP sk.1 v i k (atV st.2 (i : Int)) (lenAt g.vals v.a) = mp at *
              have hmpl : mp.1.length ≤ 70000 := by rw [he5]; simp; omega
              have hSo' := at_cellI L6.rdS (j := fieldV v k) hfld.1 (by dsimp only; rw [okk.len]; omega)
              refine ⟨fun h => by simp at h, fun _ => ?_⟩
              refine ⟨⟨hfld.1, by omega⟩, _, hSo', fun hneg => ?_, fun hpos => ?_⟩
              · have hneg : atV sk.2 (fieldV v k) < 0 := by simpa using hneg
                have hno : gie g.vals (baL ac) st i (k + 1) = (mp.1, sk.2.set (fieldV v k).toNat mp.2) := by rw [hsu, hgk, if_pos hneg]
                obtain ⟨k7, L7⟩ := L6.set (i := (fieldV v k).toNat) (o := 0 + (fieldV v k).toNat * 1) mp.2 (by dsimp only; rw [okk.len]; omega) rfl
                refine ⟨⟨hfld.1, by omega⟩, k7, ?_⟩
                refine ⟨(opnd v.op).toNat - (k + 1), ⟨[(1, int' s), (2, int' x), (3, .pointer (some ⟨0, 0, some 0⟩)), (6, .pointer (some ⟨1, 0, some 0⟩)), (8, sv (some ⟨H.next, 0, none⟩) ac), (9, int' (lenAt g.vals x)), (10, .slice (some ⟨K2.next, 0, none⟩) (s + 1) (s + 1)), (12, int' ((i : Nat) : Int)), (13, int' ((k + 1 : Nat) : Int))], [[sv p1 g.ins, sv q6 (gie g.vals (baL ac) st i (k + 1)).1, sv r1 g.outs], [.slice none 0 0, .slice none 0 0, .slice none 0 0]]⟩, by omega, (by rw [hno]; exact (by (refine ⟨?_, ?_⟩ <;> repeat' first | exact trivial | exact congrArg (fun x => some (Value.int .i64 x)) hwk | exact rfl | refine ⟨?_, ?_⟩ | fail))), k + 1, q6, by omega, rfl, rfl,  ?_⟩
                rw [hno]; exact L7
              · have hpos : ¬ atV sk.2 (fieldV v k) < 0 := by simpa using hpos
                obtain ⟨b6, hb6⟩ : ∃ b6, q6 = some ⟨b6, 0, none⟩ := bufq_some L6.og.s (by show 0 < mp.1.length; rw [he5, he2]; simp; omega)
                subst hb6
                have hlo := (valF_at L6.og.s.rd (i := fieldV v k) hfld.1 (by dsimp only; rw [he5, he2]; simp; omega)).2.1
                dsimp only at hlo
                rw [show vAtI mp.1 (fieldV v k) = vAtI g.vals (fieldV v k) from vAtI_pre (show mp.1 = g.vals ++ (e2 ++ e5) by rw [he5, he2]; simp) hfld.1 (by omega), ← lenAt_v2 (vs := g.vals) (o := fieldV v k) rfl hfld.1 (by omega)] at hlo
                have hno : gie g.vals (baL ac) st i (k + 1) = (mp.1 ++ [opV 2 (lenAt g.vals (fieldV v k)) (atV sk.2 (fieldV v k)) mp.2 0], sk.2.set (fieldV v k).toNat (mp.1.length : Int)) := by rw [hsu, hgk, if_neg hpos]
                refine ⟨.leaf [([0, 1, 2, 3, 4, 5, 6, 7, 8, 9, 10, 11, 12], some 13), ([], some 14), ([], none)] [], by kernel_rfl, ⟨hfld.1, by show fieldV v k < mp.1.length; rw [he5, he2]; simp; omega⟩, _, hlo, ⟨hfld.1, by omega⟩, _, hSo', _, l2op_pc _ _ _ _ _ _, ?_⟩
                refine ⟨_, l2put_ec K6 H.next p1 _ r1 ⟨g.ins, mp.1, g.outs⟩ (opV 2 (lenAt g.vals (fieldV v k)) (atV sk.2 (fieldV v k)) mp.2 0) L6.og L6.e.next (by show mp.1.length ≤ _; omega), ?_, fun v K hR => hR.no.elim⟩
                rintro _ K7 ⟨q7, hxx, o7, m7⟩
                cases hxx
                have L7 := L6.mv m7 (vs' := mp.1 ++ [opV 2 (lenAt g.vals (fieldV v k)) (atV sk.2 (fieldV v k)) mp.2 0]) o7
                dsimp only at L7
                refine ⟨_, l2last_putB K7 _ _ _ _ _ (by rw [putG_len]; show mp.1.length + 1 ≤ _; omega), ?_, fun v K hR => by cases hR.1⟩
                rintro _ K7 ⟨hxx, rfl⟩
                cases hxx
                obtain ⟨k8, L8⟩ := L7.set (i := (fieldV v k).toNat) (o := 0 + (fieldV v k).toNat * 1) (mp.1.length : Int) (by dsimp only; rw [okk.len]; omega) rfl
                refine ⟨⟨hfld.1, by omega⟩, k8, ?_⟩
                refine ⟨(opnd v.op).toNat - (k + 1), ⟨[(1, int' s), (2, int' x), (3, .pointer (some ⟨0, 0, some 0⟩)), (6, .pointer (some ⟨1, 0, some 0⟩)), (8, sv (some ⟨H.next, 0, none⟩) ac), (9, int' (lenAt g.vals x)), (10, .slice (some ⟨K2.next, 0, none⟩) (s + 1) (s + 1)), (12, int' ((i : Nat) : Int)), (13, int' ((k + 1 : Nat) : Int))], [[sv p1 g.ins, sv q7 (gie g.vals (baL ac) st i (k + 1)).1, sv r1 g.outs], [.slice none 0 0, .slice none 0 0, .slice none 0 0]]⟩, by omega, (by rw [hno]; exact (by (refine ⟨?_, ?_⟩ <;> repeat' first | exact trivial | exact congrArg (fun x => some (Value.int .i64 x)) hwk | exact rfl | refine ⟨?_, ?_⟩ | fail))), k + 1, q7, by omega, rfl, rfl,  ?_⟩
                rw [hno]; exact L8
      · have hk2 : k = (opnd (vAtI g.vals (i : Int)).op).toNat := by simp at hge; omega
        subst hk2
        rw [gie_all] at hsk
        have hwi : IntKind.i64.wrap ((i : Int) - 1) = ((s - (d + 1) : Nat) : Int) := by rw [wrap_i64 (by omega) (by omega)]; omega
        rw [← hsk, ← hgr] at L
        refine ⟨s - x - (d + 1), ⟨[(1, int' s), (2, int' x), (3, .pointer (some ⟨0, 0, some 0⟩)), (6, .pointer (some ⟨1, 0, some 0⟩)), (8, sv (some ⟨H.next, 0, none⟩) ac), (9, int' (lenAt g.vals x)), (10, .slice (some ⟨K2.next, 0, none⟩) (s + 1) (s + 1)), (12, int' ((s - (d + 1) : Nat) : Int))], [[sv p1 g.ins, sv (some ⟨bk, 0, none⟩) (gr g.vals (baL ac) s (g0 g.vals s) (d + 1)).1, sv r1 g.outs], [.slice none 0 0, .slice none 0 0, .slice none 0 0]]⟩, by omega, (by rw [hgr, hsk]; exact (by (refine ⟨?_, ?_⟩ <;> repeat' first | exact trivial | exact congrArg (fun x => some (Value.int .i64 x)) hwi | exact rfl | refine ⟨?_, ?_⟩ | fail))), d + 1, _, by omega, rfl, rfl, L⟩
    · have hle : s - d ≤ x := by simp at hle; omega
      obtain rfl : d = s - x := by omega
      have hSx := at_cellI L.rdS (j := (x : Int)) (by omega) (by rw [ok.len]; omega)
      have hvl : (gr g.vals (baL ac) s (g0 g.vals s) (s - x)).1.length ≤ 60000 := by rw [he]; simp; omega
      refine ⟨⟨by omega, by omega⟩, _, hSx, fun hneg => ?_, fun hpos => ?_⟩
      · have hneg : atV (gr g.vals (baL ac) s (g0 g.vals s) (s - x)).2 (x : Int) < 0 := by simpa using hneg
        rw [if_pos hneg]
        refine ⟨.leaf [([0, 1, 2], some 3), ([], some 4), ([], none)] [], by kernel_rfl, _, l2zeros_pc _ _, ?_⟩
        refine ⟨_, l2put_ec K H.next p1 _ r1 _ _ L.og L.e.next (by show (gr g.vals (baL ac) s (g0 g.vals s) (s - x)).1.length ≤ _; omega), ?_, fun v K hR => hR.no.elim⟩
        rintro _ K6 ⟨q6, hxx, o6, m6⟩
        cases hxx
        have L6 := L.mv m6 (vs' := (gr g.vals (baL ac) s (g0 g.vals s) (s - x)).1 ++ [opV 1 (lenAt g.vals x) 0 0 0]) o6
        refine ⟨.leaf [([0, 1, 2], some 3), ([4], none)] [], by kernel_rfl, _, l2last_putB _ _ _ _ _ _ (by rw [putG_len]; show (gr g.vals (baL ac) s (g0 g.vals s) (s - x)).1.length + 1 ≤ _; omega), ?_⟩
        exact ⟨p1, q6, r1, rfl, L6.e, o6⟩
      · have hpos : ¬ atV (gr g.vals (baL ac) s (g0 g.vals s) (s - x)).2 (x : Int) < 0 := by simpa using hpos
        rw [if_neg hpos]
        exact ⟨.leaf [([0, 1, 2, 3, 4], some 5), ([6], none)] [1, 2, 3, 4, 100001, 100002, 100003, 100004], by kernel_rfl, ⟨by omega, by omega⟩, _, hSx, Ext.refl _, p1, _, r1, rfl, L.e, L.og⟩
/-- What Grad answers. -/
def gdA (g : Graph) (s x : Int) : Graph × Int × Int :=
  if validB g = true ∧ (0 ≤ s ∧ s < g.vals.length) ∧ (0 ≤ x ∧ x < g.vals.length) then
    if lenAt g.vals s = 1 then
      if fitsL (gradP g.vals s.toNat x.toNat).1 then (⟨g.ins, (gradP g.vals s.toNat x.toNat).1, g.outs⟩, (gradP g.vals s.toNat x.toNat).2, 0) else (zGr, 0, 5)
    else (zGr, 0, 4)
  else (zGr, 0, 1)
set_option maxHeartbeats 1000000 in
theorem specGrad_ec (H : Heap) (p q r : Option Addr) (g : Graph) (s x : Int) (hg : RdG H p q r g) (h1 : g.ins.length ≤ 1048576) (h2 : g.vals.length ≤ 1048576) (h3 : g.outs.length ≤ 1048576) :
    EC Try.prog 5 [gV p q r g, .int .i64 s, .int .i64 x] H (JAR H (gdA g s x)) := by
  refine EC_fn ctx (fun _ => true) Try.func5 rfl rfl rfl ?_
  refine ⟨_, specValid_ec H p q r g hg h2 h1 h3, ?_, fun v K hR => by cases hR.1⟩
  rintro _ K ⟨hx, e1⟩
  cases hx
  refine ⟨fun h => ?_, fun h => ?_⟩
  · have hb : ¬ (validB g = true ∧ (0 ≤ s ∧ s < g.vals.length) ∧ (0 ≤ x ∧ x < g.vals.length)) := by
      rintro ⟨hv, ⟨a1, a2⟩, b1, b2⟩
      simp [hv, show ¬ s < 0 by omega, show ¬ (g.vals.length : Int) ≤ s by omega, show ¬ x < 0 by omega, show ¬ (g.vals.length : Int) ≤ x by omega] at h
    exact JAR.zero (c := 1) (by unfold gdA; rw [if_neg hb]) e1
  have hv : validB g = true := by
    cases hq : validB g with
    | true => rfl
    | false => simp [hq] at h
  have a1 : 0 ≤ s := by
    by_cases q : s < 0
    · simp [q] at h
    · omega
  have a2 : s < g.vals.length := by
    by_cases q : (g.vals.length : Int) ≤ s
    · simp [q] at h
    · omega
  have b1 : 0 ≤ x := by
    by_cases q : x < 0
    · simp [q] at h
    · omega
  have b2 : x < g.vals.length := by
    by_cases q : (g.vals.length : Int) ≤ x
    · simp [q] at h
    · omega
  clear h
  obtain ⟨l1, l2, l3⟩ := valid_lens hv
  have hgK := hg.mono e1
  obtain ⟨bq, oq, rfl⟩ := rdV_some hg.vals (by omega)
  have ls_ := (valF_at hgK.vals (i := s) a1 a2).2.1
  rw [← lenAt_v2 (vs := g.vals) (o := s) rfl a1 a2] at ls_
  refine ⟨⟨a1, a2⟩, _, ls_, fun h => ?_, fun h => ?_⟩
  · have hne : ¬ lenAt g.vals s = 1 := by simpa using h
    exact JAR.zero (c := 4) (by unfold gdA; rw [if_pos ⟨hv, ⟨a1, a2⟩, b1, b2⟩, if_neg hne]) e1
  have heq : lenAt g.vals s = 1 := by simpa using h
  have hja : gdA g s x = if fitsL (gradP g.vals s.toNat x.toNat).1 then (⟨g.ins, (gradP g.vals s.toNat x.toNat).1, g.outs⟩, (gradP g.vals s.toNat x.toNat).2, 0) else (zGr, 0, 5) := by
    unfold gdA; rw [if_pos ⟨hv, ⟨a1, a2⟩, b1, b2⟩, if_pos heq]
  obtain ⟨s', rfl⟩ : ∃ s' : Nat, s = s' := ⟨s.toNat, by omega⟩
  obtain ⟨x', rfl⟩ : ∃ x' : Nat, x = x' := ⟨x.toNat, by omega⟩
  simp only [Int.toNat_natCast] at hja
  obtain ⟨k1, k2⟩ := grad_lens hv (s := s') (x := x') (by omega) (by omega)
  refine ⟨_, l2grad_ec K p _ r g s' x' hgK hv (by omega) (by omega), ?_, fun v K hR => hR.no.elim⟩
  generalize gradP g.vals s' x' = y at *
  rintro _ K2 ⟨p1, q1, r1, hx, e2, og⟩
  cases hx
  refine ⟨_, l2fits_pc K2 p1 q1 r1 ⟨g.ins, y.1, g.outs⟩ og.s.rd (by dsimp only; omega) k2, ?_, fun v K hR => by cases hR.1⟩
  rintro _ K2 ⟨hx, rfl⟩
  cases hx
  refine ⟨fun h => ?_, fun h => ?_⟩
  · have hf : fitsL y.1 = false := by simpa using h
    exact JAR.zero (c := 5) (by rw [hja, hf]; rfl) (e1.trans e2)
  · have hf : fitsL y.1 = true := by simpa using h
    rw [hja, hf]
    exact ⟨p1, q1, r1, rfl, e1.trans e2, ⟨og.i.wider e1.next, og.s.wider e1.next, og.o.wider e1.next, og.hi_, og.ne⟩⟩
end Go.Proofs.Ytaaelokodfildaa
