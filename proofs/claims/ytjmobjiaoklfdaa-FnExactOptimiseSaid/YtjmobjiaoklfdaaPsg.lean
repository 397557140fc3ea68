/- replaced: the program's value with its operands renamed. Conditions: operands are indexes. sharing: the program's, walked for any test of equality. Conditions: those of each. -/
import Derived.Test.YtjmobjiaoklfdaaPsd
import Derived.Test.YtjmobjiaoklfdaaPse
set_option linter.unusedVariables false
set_option linter.unusedSimpArgs false
namespace Go.Proofs.Ytjmobjiaoklfdaa
open Go.Am
open FlCore (canon isNan)

theorem cell_at {H : Heap} {b : Nat} {cs : List Value} {esz : Nat} {rw_ : Bool} (h : H.blk b = some (.cells cs esz rw_)) (o : Nat) : H.cell? b o = cs[o]? := by unfold Heap.cell?; rw [h]
theorem aggV_at {K : Heap} {b : Nat} {v : Val} (h : K.blk b = some (.cells (vcells v) 6 true)) : K.aggAt b 0 6 (valV v) := by
  show K.run? b 0 6 = some (vcells v)
  unfold Heap.run?
  rw [h]
  rfl
def wK (v : Val) (to : List Int) (i : Nat) : Val := ⟨v.op, v.len, if 0 < i ∧ 0 < opnd v.op then atV to v.a else v.a, if 1 < i ∧ 1 < opnd v.op then atV to v.b else v.b, if 2 < i ∧ 2 < opnd v.op then atV to v.c else v.c, v.k⟩
def repPv (k : Nat) : Bool := !Nat.beq k 2
def WR (H : Heap) (w : Val) (e : AEnd) (K : Heap) : Prop := e = .ret (valV w) ∧ Ext H K
theorem replaced_ec (H : Heap) (q : Option Addr) (to : List Int) (v : Val) (ht : Rd dInt H q to) (hv : OpsIn v to.length) :
    EC Try.prog 65 [valV v, sv q to] H (WR H (withV v to)) := by
  refine EC_fn ctx repPv Try.func65 rfl rfl rfl ?_
  have hp3 := opnd3 v.op
  refine loop_ind ctx repPv (fun m E K => ∃ i : Nat, i ≤ 3 ∧ m = 3 - i ∧ E = ⟨[(1, sv q to), (2, .pointer (some ⟨H.next, 0, none⟩)), (4, .pointer (some ⟨0, 0, some 0⟩)), (10, .slice (some ⟨H.next + 1, 0, none⟩) 3 3), (11, .int .i64 3), (12, .int .i64 (i : Int))], [[.int .i64 0, .int .i64 0, .int .i64 0, .int .i64 0, .int .i64 0, .float .f64 0]]⟩ ∧ Ext H K ∧ K.blk H.next = some (.cells (vcells (wK v to i)) 6 true) ∧ K.blk (H.next + 1) = some (.cells [.pointer (some ⟨H.next, 2, none⟩), .pointer (some ⟨H.next, 3, none⟩), .pointer (some ⟨H.next, 4, none⟩)] 1 true))
    (E0 := ⟨[(1, sv q to), (2, .pointer (some ⟨H.next, 0, none⟩)), (4, .pointer (some ⟨0, 0, some 0⟩)), (10, .slice (some ⟨H.next + 1, 0, none⟩) 3 3), (11, .int .i64 3), (12, .int .i64 ((0 : Nat) : Int))], [[.int .i64 0, .int .i64 0, .int .i64 0, .int .i64 0, .int .i64 0, .float .f64 0]]⟩) ⟨0, Nat.zero_le _, rfl, rfl, (Ext.push H _).push' _, (Ext.push _ _).same _ _ (by rw [push_blk]; simp [wK]; rfl), push_blk (H.push _) _⟩ (by (refine ⟨?_, ?_⟩ <;> repeat' first | exact trivial | exact congrArg (fun x => some (Value.int .i64 x)) (wrap_nat (by omega)) | exact sv_eq (by simp; done) | exact rfl | refine ⟨?_, ?_⟩ | fail)) ?_
  rintro m E K ⟨i, hi, rfl, rfl, eK, hB, hP⟩
  refine ⟨fun hlt => ?_, fun hge => ?_⟩
  · have hlt : i < 3 := by simp at hlt; omega
    have h3 : i = 0 ∨ i = 1 ∨ i = 2 := by omega
    rcases h3 with rfl | rfl | rfl
    · have hb : K.blk H.next = some (.cells (vcells (wK v to 0)) 6 true) := hB
      have hfd : (wK v to 0).a = v.a := by simp [wK]
      refine ⟨⟨by omega, by omega⟩, .pointer (some ⟨H.next, 2, none⟩), by rw [cell_at hP]; rfl, .int .i64 v.op, cell_at hb 0, ?_⟩
      refine ⟨_, operands_pc K v.op, ?_, fun v K hR => by cases hR.1⟩
      rintro _ K9 ⟨hx, rfl⟩
      cases hx
      have hw : IntKind.i64.wrap ((0 : Nat) + 1 : Int) = ((1 : Nat) : Int) := by decide
      refine ⟨fun hlt => ?_, fun hge => ?_⟩
      · have hlt : (0 : Int) < opnd v.op := by simpa using hlt
        have hop := hv.a hlt
        obtain ⟨bt, ot, rfl⟩ := rdI_some ht (by omega)
        have htK : Rd dInt K9 (some ⟨bt, ot, none⟩) to := ht.mono eK
        have hst := Heap.stor_put hb 2 [.int .i64 (atV to v.a)]
        have hbut : But (some ⟨H.next, 0, none⟩) K9 (K9.stor H.next 2 [.int .i64 (atV to v.a)]) := ⟨by rw [hst]; rfl, fun x c hx hc => by
          have hne : x ≠ H.next := fun e => hx 0 (by rw [e])
          rw [hst, put_blk _ _ _ _ (K9.lt _ _ hb), if_neg hne]; exact hc⟩
        have hB' : (K9.stor H.next 2 [.int .i64 (atV to v.a)]).blk H.next = some (.cells (vcells (wK v to 1)) 6 true) := by
          rw [hst, put_blk _ _ _ _ (K9.lt _ _ hb), if_pos rfl]
          have : overL (vcells (wK v to 0)) 2 [.int .i64 (atV to v.a)] = vcells (wK v to 1) := by
            have h1 : (0 : Int) < opnd v.op := by omega
            simp [overL, wK, vcells, hlt, h1] <;> (try (intro hh; omega)) <;> (try omega)
          rw [this]
        refine ⟨.int .i64 v.a, by rw [cell_at hb]; show some (Value.int .i64 (wK v to 0).a) = _; rw [hfd], ⟨hop.1, hop.2⟩, _, at_cellI htK hop.1 hop.2, ⟨_, _, hb, by show 2 + 1 ≤ 6; decide⟩, ?_⟩
        exact ⟨3 - (0 + 1), ⟨[(1, sv (some ⟨bt, ot, none⟩) to), (2, .pointer (some ⟨H.next, 0, none⟩)), (4, .pointer (some ⟨0, 0, some 0⟩)), (10, .slice (some ⟨H.next + 1, 0, none⟩) 3 3), (11, .int .i64 3), (12, .int .i64 (((1 : Nat) : Int)))], [[.int .i64 0, .int .i64 0, .int .i64 0, .int .i64 0, .int .i64 0, .float .f64 0]]⟩, by omega, (by (refine ⟨?_, ?_⟩ <;> repeat' first | exact trivial | exact congrArg (fun x => some (Value.int .i64 x)) hw | exact rfl | refine ⟨?_, ?_⟩ | fail)), 1, by omega, rfl, rfl, eK.stor (Nat.le_refl _), hB', hbut.same _ _ (fun o e => by injection e with e; injection e with e; omega) hP⟩
      · have hge : ¬ (0 : Int) < opnd v.op := by simpa using hge
        have hsame : wK v to 1 = wK v to 0 := by
          have h1 : ¬ ((1 : Int) < opnd v.op) := by omega
          simp [wK] <;> (try (intros; omega)) <;> (try omega)
        exact ⟨3 - (0 + 1), ⟨[(1, sv q to), (2, .pointer (some ⟨H.next, 0, none⟩)), (4, .pointer (some ⟨0, 0, some 0⟩)), (10, .slice (some ⟨H.next + 1, 0, none⟩) 3 3), (11, .int .i64 3), (12, .int .i64 (((1 : Nat) : Int)))], [[.int .i64 0, .int .i64 0, .int .i64 0, .int .i64 0, .int .i64 0, .float .f64 0]]⟩, by omega, (by (refine ⟨?_, ?_⟩ <;> repeat' first | exact trivial | exact congrArg (fun x => some (Value.int .i64 x)) hw | exact rfl | refine ⟨?_, ?_⟩ | fail)), 1, by omega, rfl, rfl, eK, by rw [hsame]; exact hb, hP⟩
    · have hb : K.blk H.next = some (.cells (vcells (wK v to 1)) 6 true) := hB
      have hfd : (wK v to 1).b = v.b := by simp [wK]
      refine ⟨⟨by omega, by omega⟩, .pointer (some ⟨H.next, 3, none⟩), by rw [cell_at hP]; rfl, .int .i64 v.op, cell_at hb 0, ?_⟩
      refine ⟨_, operands_pc K v.op, ?_, fun v K hR => by cases hR.1⟩
      rintro _ K9 ⟨hx, rfl⟩
      cases hx
      have hw : IntKind.i64.wrap ((1 : Nat) + 1 : Int) = ((2 : Nat) : Int) := by decide
      refine ⟨fun hlt => ?_, fun hge => ?_⟩
      · have hlt : (1 : Int) < opnd v.op := by simpa using hlt
        have hop := hv.b hlt
        obtain ⟨bt, ot, rfl⟩ := rdI_some ht (by omega)
        have htK : Rd dInt K9 (some ⟨bt, ot, none⟩) to := ht.mono eK
        have hst := Heap.stor_put hb 3 [.int .i64 (atV to v.b)]
        have hbut : But (some ⟨H.next, 0, none⟩) K9 (K9.stor H.next 3 [.int .i64 (atV to v.b)]) := ⟨by rw [hst]; rfl, fun x c hx hc => by
          have hne : x ≠ H.next := fun e => hx 0 (by rw [e])
          rw [hst, put_blk _ _ _ _ (K9.lt _ _ hb), if_neg hne]; exact hc⟩
        have hB' : (K9.stor H.next 3 [.int .i64 (atV to v.b)]).blk H.next = some (.cells (vcells (wK v to 2)) 6 true) := by
          rw [hst, put_blk _ _ _ _ (K9.lt _ _ hb), if_pos rfl]
          have : overL (vcells (wK v to 1)) 3 [.int .i64 (atV to v.b)] = vcells (wK v to 2) := by
            have h1 : (0 : Int) < opnd v.op := by omega
            simp [overL, wK, vcells, hlt, h1] <;> (try (intro hh; omega)) <;> (try omega)
          rw [this]
        refine ⟨.int .i64 v.b, by rw [cell_at hb]; show some (Value.int .i64 (wK v to 1).b) = _; rw [hfd], ⟨hop.1, hop.2⟩, _, at_cellI htK hop.1 hop.2, ⟨_, _, hb, by show 3 + 1 ≤ 6; decide⟩, ?_⟩
        exact ⟨3 - (1 + 1), ⟨[(1, sv (some ⟨bt, ot, none⟩) to), (2, .pointer (some ⟨H.next, 0, none⟩)), (4, .pointer (some ⟨0, 0, some 0⟩)), (10, .slice (some ⟨H.next + 1, 0, none⟩) 3 3), (11, .int .i64 3), (12, .int .i64 (((2 : Nat) : Int)))], [[.int .i64 0, .int .i64 0, .int .i64 0, .int .i64 0, .int .i64 0, .float .f64 0]]⟩, by omega, (by (refine ⟨?_, ?_⟩ <;> repeat' first | exact trivial | exact congrArg (fun x => some (Value.int .i64 x)) hw | exact rfl | refine ⟨?_, ?_⟩ | fail)), 2, by omega, rfl, rfl, eK.stor (Nat.le_refl _), hB', hbut.same _ _ (fun o e => by injection e with e; injection e with e; omega) hP⟩
      · have hge : ¬ (1 : Int) < opnd v.op := by simpa using hge
        have hsame : wK v to 2 = wK v to 1 := by
          have h1 : ¬ ((2 : Int) < opnd v.op) := by omega
          simp [wK] <;> (try (intros; omega)) <;> (try omega)
        exact ⟨3 - (1 + 1), ⟨[(1, sv q to), (2, .pointer (some ⟨H.next, 0, none⟩)), (4, .pointer (some ⟨0, 0, some 0⟩)), (10, .slice (some ⟨H.next + 1, 0, none⟩) 3 3), (11, .int .i64 3), (12, .int .i64 (((2 : Nat) : Int)))], [[.int .i64 0, .int .i64 0, .int .i64 0, .int .i64 0, .int .i64 0, .float .f64 0]]⟩, by omega, (by (refine ⟨?_, ?_⟩ <;> repeat' first | exact trivial | exact congrArg (fun x => some (Value.int .i64 x)) hw | exact rfl | refine ⟨?_, ?_⟩ | fail)), 2, by omega, rfl, rfl, eK, by rw [hsame]; exact hb, hP⟩
    · have hb : K.blk H.next = some (.cells (vcells (wK v to 2)) 6 true) := hB
      have hfd : (wK v to 2).c = v.c := by simp [wK]
      refine ⟨⟨by omega, by omega⟩, .pointer (some ⟨H.next, 4, none⟩), by rw [cell_at hP]; rfl, .int .i64 v.op, cell_at hb 0, ?_⟩
      refine ⟨_, operands_pc K v.op, ?_, fun v K hR => by cases hR.1⟩
      rintro _ K9 ⟨hx, rfl⟩
      cases hx
      have hw : IntKind.i64.wrap ((2 : Nat) + 1 : Int) = ((3 : Nat) : Int) := by decide
      refine ⟨fun hlt => ?_, fun hge => ?_⟩
      · have hlt : (2 : Int) < opnd v.op := by simpa using hlt
        have hop := hv.c hlt
        obtain ⟨bt, ot, rfl⟩ := rdI_some ht (by omega)
        have htK : Rd dInt K9 (some ⟨bt, ot, none⟩) to := ht.mono eK
        have hst := Heap.stor_put hb 4 [.int .i64 (atV to v.c)]
        have hbut : But (some ⟨H.next, 0, none⟩) K9 (K9.stor H.next 4 [.int .i64 (atV to v.c)]) := ⟨by rw [hst]; rfl, fun x c hx hc => by
          have hne : x ≠ H.next := fun e => hx 0 (by rw [e])
          rw [hst, put_blk _ _ _ _ (K9.lt _ _ hb), if_neg hne]; exact hc⟩
        have hB' : (K9.stor H.next 4 [.int .i64 (atV to v.c)]).blk H.next = some (.cells (vcells (wK v to 3)) 6 true) := by
          rw [hst, put_blk _ _ _ _ (K9.lt _ _ hb), if_pos rfl]
          have : overL (vcells (wK v to 2)) 4 [.int .i64 (atV to v.c)] = vcells (wK v to 3) := by
            have h1 : (0 : Int) < opnd v.op := by omega
            simp [overL, wK, vcells, hlt, h1] <;> (try (intro hh; omega)) <;> (try omega)
          rw [this]
        refine ⟨.int .i64 v.c, by rw [cell_at hb]; show some (Value.int .i64 (wK v to 2).c) = _; rw [hfd], ⟨hop.1, hop.2⟩, _, at_cellI htK hop.1 hop.2, ⟨_, _, hb, by show 4 + 1 ≤ 6; decide⟩, ?_⟩
        exact ⟨3 - (2 + 1), ⟨[(1, sv (some ⟨bt, ot, none⟩) to), (2, .pointer (some ⟨H.next, 0, none⟩)), (4, .pointer (some ⟨0, 0, some 0⟩)), (10, .slice (some ⟨H.next + 1, 0, none⟩) 3 3), (11, .int .i64 3), (12, .int .i64 (((3 : Nat) : Int)))], [[.int .i64 0, .int .i64 0, .int .i64 0, .int .i64 0, .int .i64 0, .float .f64 0]]⟩, by omega, (by (refine ⟨?_, ?_⟩ <;> repeat' first | exact trivial | exact congrArg (fun x => some (Value.int .i64 x)) hw | exact rfl | refine ⟨?_, ?_⟩ | fail)), 3, by omega, rfl, rfl, eK.stor (Nat.le_refl _), hB', hbut.same _ _ (fun o e => by injection e with e; injection e with e; omega) hP⟩
      · have hge : ¬ (2 : Int) < opnd v.op := by simpa using hge
        have hsame : wK v to 3 = wK v to 2 := by
          have h1 : ¬ ((3 : Int) < opnd v.op) := by omega
          simp [wK] <;> (try (intros; omega)) <;> (try omega)
        exact ⟨3 - (2 + 1), ⟨[(1, sv q to), (2, .pointer (some ⟨H.next, 0, none⟩)), (4, .pointer (some ⟨0, 0, some 0⟩)), (10, .slice (some ⟨H.next + 1, 0, none⟩) 3 3), (11, .int .i64 3), (12, .int .i64 (((3 : Nat) : Int)))], [[.int .i64 0, .int .i64 0, .int .i64 0, .int .i64 0, .int .i64 0, .float .f64 0]]⟩, by omega, (by (refine ⟨?_, ?_⟩ <;> repeat' first | exact trivial | exact congrArg (fun x => some (Value.int .i64 x)) hw | exact rfl | refine ⟨?_, ?_⟩ | fail)), 3, by omega, rfl, rfl, eK, by rw [hsame]; exact hb, hP⟩
  · have hi : i = 3 := by simp at hge; omega
    subst hi
    have : wK v to 3 = withV v to := by simp [wK, withV]
    rw [this] at hB
    exact ⟨valV (withV v to), aggV_at hB, rfl, eK⟩
end Go.Proofs.Ytjmobjiaoklfdaa

set_option linter.unusedVariables false
namespace Go.Proofs.Ytjmobjiaoklfdaa
open Go.Am
open FlCore (canon isNan)

/-- What to holds when k values are done. -/
def toL (same : List Val → Val → Int) (vals : List Val) (k : Nat) : List Int := (sh same vals k).2 ++ List.replicate (vals.length - k) 0
theorem toL_len {same : List Val → Val → Int} {vals : List Val} {k : Nat} (h : ShOK same vals k) (hk : k ≤ vals.length) : (toL same vals k).length = vals.length := by simp [toL, h.l2]; omega
theorem toL_zero (same : List Val → Val → Int) (vals : List Val) : toL same vals 0 = List.replicate vals.length 0 := by simp [toL, sh]
theorem toL_all {same : List Val → Val → Int} {vals : List Val} : toL same vals vals.length = (sh same vals vals.length).2 := by simp [toL]
theorem toL_set {same : List Val → Val → Int} {vals : List Val} {k : Nat} (h : ShOK same vals k) (hk : k < vals.length) : (toL same vals k).set k (same (sh same vals k).1 (withV vals[k] (sh same vals k).2)) = toL same vals (k + 1) := by
  unfold toL
  obtain ⟨d, hd⟩ : ∃ d, vals.length - k = d + 1 := ⟨vals.length - k - 1, by omega⟩
  rw [hd, List.replicate_succ, List.set_append, if_neg (by rw [h.l2]; omega), h.l2, Nat.sub_self, List.set_cons_zero, show vals.length - (k + 1) = d by omega]
  simp only [sh]
  rw [List.getElem?_eq_getElem hk, List.append_assoc]
  rfl
theorem withV_toL {same : List Val → Val → Int} {vals : List Val} {k : Nat} (h : ShOK same vals k) {v : Val} (hv : OpsIn v k) : withV v (toL same vals k) = withV v (sh same vals k).2 := by
  have get : ∀ j : Int, 0 ≤ j ∧ j < k → atV (toL same vals k) j = atV (sh same vals k).2 j := fun j hj => by
    unfold atV toL
    rw [List.getElem?_append_left (by rw [h.l2]; omega)]
  unfold withV
  congr 1
  · split
    · exact get _ (hv.a (by assumption))
    · rfl
  · split
    · exact get _ (hv.b (by assumption))
    · rfl
  · split
    · exact get _ (hv.c (by assumption))
    · rfl
theorem cur_get {vals : List Val} {same : List Val → Val → Int} {k : Nat} (h : ShOK same vals k) (hk : k < vals.length) : vAtI (cur vals same k) (k : Int) = vals[k] := by
  unfold vAtI cur
  rw [show ((k : Int)).toNat = k from rfl, List.getElem?_append_right (by rw [h.l1]; omega), h.l1, Nat.sub_self, List.drop_eq_getElem_cons hk]
  rfl
theorem outsTo_get {same : List Val → Val → Int} {g : Graph} {k : Nat} (h : k < g.outs.length) : atV (outsTo same g k) (k : Int) = g.outs[k] := by
  unfold atV outsTo
  have hl : ((g.outs.take k).map (atV (sh same g.vals g.vals.length).2)).length = k := by simp; omega
  rw [show ((k : Int)).toNat = k from rfl, List.getElem?_append_right (by omega), hl, Nat.sub_self, List.drop_eq_getElem_cons h]
  rfl
theorem stor_int {K : Heap} {b lo : Nat} {xs : List Int} (h : Buf dInt K lo (some ⟨b, 0, none⟩) xs) {i off : Nat} (y : Int) (hi : i < xs.length) (ho : off = 0 + i * 1) :
    Buf dInt (K.stor b off [.int .i64 y]) lo (some ⟨b, 0, none⟩) (xs.set i y) ∧ K.stOK b off 1 ∧ But (some ⟨b, 0, none⟩) K (K.stor b off [.int .i64 y]) := by
  cases h with
  | blk h1 h2 =>
    obtain ⟨s1, s2⟩ := stor_but dInt h2 (i := i) (o := off) (l := [.int .i64 y]) y hi (by show off = i * 1; omega) rfl
    refine ⟨.blk h1 s1, ⟨_, _, h2, ?_⟩, s2⟩
    rw [flat_len]
    show off + 1 ≤ xs.length * 1
    omega
theorem _root_.Go.Am.Out.later {lo hi lo' hi' : Nat} {H K K' : Heap} (o : Out lo hi H K) (o' : Out lo' hi' K K') (h : H.next ≤ lo') : Out lo hi H K' := ⟨Nat.le_trans o.next o'.next, fun b c hb hc => o'.same b c (.inl (Nat.lt_of_lt_of_le (H.lt _ _ hc) h)) (o.same b c hb hc)⟩
/-- What sharing answers. -/
def SH (H : Heap) (lo hi : Nat) (p q r : Option Addr) (g' : Graph) (e : AEnd) (K : Heap) : Prop := e = .ret (gV p q r g') ∧ OwnG K lo hi p q r g' ∧ Out lo H.next H K
set_option maxHeartbeats 2000000 in
theorem sharing_ec (H : Heap) (lo hi cl ch : Nat) (p q r : Option Addr) (g : Graph) (hv : validB g = true) (og : OwnG H lo hi p q r g) (hlo : lo ≤ hi) (hcl : hi ≤ cl) (hch : cl ≤ ch) (hn : ch ≤ H.next) (same : List Val → Val → Int) (hsame : SameOK same)
    (f : FuncId) (cap : Array Value) (St : Nat → Heap → Prop) (hst : ∀ k K K', St k K → (∀ b c, cl ≤ b → b < ch → K.blk b = some c → K'.blk b = some c) → St k K') (h0 : St 0 H)
    (hf : ∀ (k : Nat) (K : Heap) (hk : k < g.vals.length), St k K → Rd dVal K q (cur g.vals same (k + 1)) → OpsIn (withV g.vals[k] (sh same g.vals k).2) k →
      EC Try.prog f ([sv q (cur g.vals same (k + 1)), valV (withV g.vals[k] (sh same g.vals k).2), .int .i64 (k : Int)] ++ cap.toList) K fun e K' => ∃ x : Int, e = .ret (.int .i64 x) ∧ (if 0 ≤ x then x else (k : Int)) = same (sh same g.vals k).1 (withV g.vals[k] (sh same g.vals k).2) ∧ St (k + 1) K' ∧ Out cl ch K K') :
    EC Try.prog 66 [gV p q r g, .func (.func f) #[] cap] H (SH H lo hi p q r (shared same g)) := by
  obtain ⟨h1, h2, h3⟩ := valid_lens hv
  have hops := valid_ops hv
  have houts := valid_outs hv
  have hsok : ∀ k, k ≤ g.vals.length → ShOK same g.vals k := sh_ok hsame hops
  refine EC_fn ctx (fun _ => true) Try.func66 rfl rfl rfl ?_
  refine ⟨⟨by omega, by omega, by omega, by dsimp only; omega⟩, ?_⟩
  have hT0 : Buf dInt (H.push (.cells (repL g.vals.length [.int .i64 0]) 1 true)) H.next (some ⟨H.next, 0, none⟩) (toL same g.vals 0) := by
    rw [toL_zero]
    refine .blk (Nat.le_refl _) ?_
    rw [push_blk, flat_rep dInt 0 [.int .i64 0] rfl]; rfl
  have hcz := cur_zero g.vals same
  have hlz : (toL same g.vals 0).length = g.vals.length := by simp [toL_zero]
  have htv : ∀ k, k ≤ g.vals.length → sv (some (⟨H.next, 0, none⟩ : Addr)) (toL same g.vals k) = .slice (some ⟨H.next, 0, none⟩) g.vals.length g.vals.length := fun k hk => by show Value.slice _ _ _ = _; rw [toL_len (hsok k hk) hk]
  refine loop_ind ctx (fun _ => true) (fun m E K => ∃ k : Nat, k ≤ g.vals.length ∧ m = g.vals.length - k ∧ E = ⟨[(1, .func (.func f) #[] cap), (2, .pointer (some ⟨0, 0, some 0⟩)), (4, .pointer (some ⟨1, 0, some 0⟩)), (5, .slice (some ⟨H.next, 0, none⟩) g.vals.length g.vals.length), (16, .slice q g.vals.length g.vals.length), (17, .int .i64 (g.vals.length : Int)), (18, .int .i64 (k : Int))], [[sv p g.ins, .slice q g.vals.length g.vals.length, sv r g.outs], [.slice none 0 0, .slice none 0 0, .slice none 0 0]]⟩ ∧
      OwnG K lo hi p q r ⟨g.ins, cur g.vals same k, g.outs⟩ ∧ Buf dInt K H.next (some ⟨H.next, 0, none⟩) (toL same g.vals k) ∧ Out lo H.next H K ∧ St k K)
    (E0 := ⟨[(1, .func (.func f) #[] cap), (2, .pointer (some ⟨0, 0, some 0⟩)), (4, .pointer (some ⟨1, 0, some 0⟩)), (5, .slice (some ⟨H.next, 0, none⟩) g.vals.length g.vals.length), (16, .slice q g.vals.length g.vals.length), (17, .int .i64 (g.vals.length : Int)), (18, .int .i64 ((0 : Nat) : Int))], [[sv p g.ins, .slice q g.vals.length g.vals.length, sv r g.outs], [.slice none 0 0, .slice none 0 0, .slice none 0 0]]⟩)
    ⟨0, Nat.zero_le _, rfl, rfl, by rw [hcz]; exact og.push1 _, hT0, Out.of_ext (Ext.push _ _), hst 0 H _ h0 fun b c _ _ hc => (Ext.push _ _).same _ _ hc⟩ (by (refine ⟨?_, ?_⟩ <;> repeat' first | exact trivial | exact congrArg (fun x => some (Value.int .i64 x)) (wrap_nat (by omega)) | exact sv_eq (by simp; done) | exact rfl | refine ⟨?_, ?_⟩ | fail)) ?_
  rintro m E K ⟨k, hk, rfl, rfl, og, bt, o, hSt⟩
  have ok := hsok k hk
  refine ⟨fun hlt => ?_, fun hge => ?_⟩
  · have hlt : k < g.vals.length := by simpa using hlt
    obtain ⟨bq, rfl⟩ := bufV_some og.s (by show 0 < (cur g.vals same k).length; rw [cur_len ok hk]; omega)
    have hva := (valF_at og.s.rd (i := (k : Int)) (by omega) (by show _ < ((cur g.vals same k).length : Int); rw [cur_len ok hk]; omega)).2.2.2.2
    rw [show (⟨g.ins, cur g.vals same k, g.outs⟩ : Graph).vals = cur g.vals same k from rfl, cur_get ok hlt] at hva
    have hin : OpsIn g.vals[k] k := hops k _ (List.getElem?_eq_getElem hlt)
    have hw : OpsIn (withV g.vals[k] (sh same g.vals k).2) k := withV_in (by rw [ok.l2]; exact hin) ok.eq (by rw [ok.l2]; exact Int.le_refl _)
    have hrep := replaced_ec K (some ⟨H.next, 0, none⟩) (toL same g.vals k) g.vals[k] bt.rd (hin.mono (by rw [toL_len ok hk]; omega))
    rw [withV_toL ok hin, htv k hk] at hrep
    refine ⟨⟨by omega, by omega⟩, valV g.vals[k], hva, _, hrep, ?_, fun v K hR => by cases hR.1⟩
    rintro _ K1 ⟨hx, e1⟩
    cases hx
    have ok1 := hsok (k + 1) (by omega)
    have hcl0 := cur_len ok hk
    have hcl1 := cur_len ok1 (by omega)
    have htl := toL_len ok hk
    have hwk := wrap_nat (k := k) (by omega)
    have hin := hin
    have og1 := og.mono e1
    have bt1 := bt.mono e1
    obtain ⟨og2, hst2, hbut2⟩ := og1.setV rfl (i := k) (v := withV g.vals[k] (sh same g.vals k).2) (by show k < (cur g.vals same k).length; omega) (off := 0 + k * 6) rfl rfl
    simp only [cur_set ok hlt] at og2
    have hbq : lo ≤ bq ∧ bq < hi := ⟨(og.s.lt rfl).1, og.hi_.2.1 _ _ rfl⟩
    have bt2 := bt1.but hbut2 fun b o e e' => by cases e; injection e' with e'; injection e' with e' _; omega
    refine ⟨⟨by omega, by omega⟩, hst2, ?_⟩
    obtain ⟨bt3, hst3, hbut3⟩ := stor_int bt2 (i := k) (off := 0 + k * 1) (k : Int) (by omega) rfl
    have ol3 : Out H.next (H.next + 1) _ _ := hbut3.out fun b o e => by cases e; omega
    have og3 := og2.out ol3 (.inl (by omega))
    refine ⟨⟨by omega, by omega⟩, hst3, ?_⟩
    have hcall := hf k _ hlt (hst k _ _ hSt fun b c hb1 hb2 hc => hbut3.same _ _ (fun o e => by cases e; omega) (hbut2.same _ _ (fun o e => by cases e; omega) (e1.same _ _ hc))) og3.s.rd hw
    rw [show sv (some ⟨bq, 0, none⟩) (cur g.vals same (k + 1)) = .slice (some ⟨bq, 0, none⟩) g.vals.length g.vals.length by show Value.slice _ _ _ = _; rw [hcl1]] at hcall
    refine ⟨_, hcall, ?_, fun v K hR => by obtain ⟨_, h, _⟩ := hR; cases h⟩
    rintro _ K4 ⟨x, hx, heq, hS4, o4⟩
    cases hx
    have og4 := og3.out o4 (.inl hcl)
    have bt4 := bt3.out o4 fun b o e => by cases e; omega
    have oK4 : Out lo H.next H K4 := ((o.trans ((Out.of_ext e1).trans (hbut2.out fun b o e => by cases e; omega))).later ol3 (Nat.le_refl _)).trans (o4.wide (by omega) hn)
    refine ⟨fun hx => ?_, fun hx => ?_⟩
    · have hx0 : 0 ≤ x := by simpa using hx
      rw [if_pos hx0] at heq
      obtain ⟨bt5, hst5, hbut5⟩ := stor_int bt4 (i := k) (off := 0 + k * 1) x (by rw [List.length_set]; omega) rfl
      have hset : (toL same g.vals k).set k x = toL same g.vals (k + 1) := by rw [heq]; exact toL_set ok hlt
      rw [List.set_set, hset] at bt5
      have ol5 : Out H.next (H.next + 1) _ _ := hbut5.out fun b o e => by cases e; omega
      refine ⟨⟨by omega, by omega⟩, hst5, ?_⟩
      exact ⟨g.vals.length - (k + 1), ⟨[(1, .func (.func f) #[] cap), (2, .pointer (some ⟨0, 0, some 0⟩)), (4, .pointer (some ⟨1, 0, some 0⟩)), (5, .slice (some ⟨H.next, 0, none⟩) g.vals.length g.vals.length), (16, .slice (some ⟨bq, 0, none⟩) g.vals.length g.vals.length), (17, .int .i64 (g.vals.length : Int)), (18, .int .i64 ((k + 1 : Nat) : Int))], [[sv p g.ins, .slice (some ⟨bq, 0, none⟩) g.vals.length g.vals.length, sv r g.outs], [.slice none 0 0, .slice none 0 0, .slice none 0 0]]⟩, by omega, (by (refine ⟨?_, ?_⟩ <;> repeat' first | exact trivial | exact congrArg (fun x => some (Value.int .i64 x)) hwk | exact rfl | refine ⟨?_, ?_⟩ | fail)), k + 1, by omega, rfl, rfl, og4.out ol5 (.inl (by omega)), bt5, oK4.later ol5 (Nat.le_refl _), hst (k + 1) _ _ hS4 fun b c hb1 hb2 hc => hbut5.same _ _ (fun o e => by cases e; omega) hc⟩
    · have hx0 : ¬ 0 ≤ x := by simpa using hx
      rw [if_neg hx0] at heq
      have hset : (toL same g.vals k).set k (k : Int) = toL same g.vals (k + 1) := by rw [heq]; exact toL_set ok hlt
      rw [hset] at bt4
      exact ⟨g.vals.length - (k + 1), ⟨[(1, .func (.func f) #[] cap), (2, .pointer (some ⟨0, 0, some 0⟩)), (4, .pointer (some ⟨1, 0, some 0⟩)), (5, .slice (some ⟨H.next, 0, none⟩) g.vals.length g.vals.length), (16, .slice (some ⟨bq, 0, none⟩) g.vals.length g.vals.length), (17, .int .i64 (g.vals.length : Int)), (18, .int .i64 ((k + 1 : Nat) : Int))], [[sv p g.ins, .slice (some ⟨bq, 0, none⟩) g.vals.length g.vals.length, sv r g.outs], [.slice none 0 0, .slice none 0 0, .slice none 0 0]]⟩, by omega, (by (refine ⟨?_, ?_⟩ <;> repeat' first | exact trivial | exact congrArg (fun x => some (Value.int .i64 x)) hwk | exact rfl | refine ⟨?_, ?_⟩ | fail)), k + 1, by omega, rfl, rfl, og4, bt4, oK4, hS4⟩
  · have hk' : k = g.vals.length := by simp at hge; omega
    subst hk'
    have hcur : cur g.vals same g.vals.length = (sh same g.vals g.vals.length).1 := by simp [cur]
    rw [hcur] at og
    have hz : outsTo same g 0 = g.outs := by simp [outsTo]
    have hvl : (sh same g.vals g.vals.length).1.length = g.vals.length := ok.l1
    rw [toL_all] at bt
    have hol : ∀ k, k ≤ g.outs.length → (outsTo same g k).length = g.outs.length := fun k hk => by simp [outsTo]; omega
    refine loop_ind ctx (fun _ => true) (fun m E K => ∃ k : Nat, k ≤ g.outs.length ∧ m = g.outs.length - k ∧ E = ⟨[(2, .pointer (some ⟨0, 0, some 0⟩)), (4, .pointer (some ⟨1, 0, some 0⟩)), (5, .slice (some ⟨H.next, 0, none⟩) g.vals.length g.vals.length), (49, .slice r g.outs.length g.outs.length), (50, .int .i64 (g.outs.length : Int)), (51, .int .i64 ((k : Nat) : Int))], [[sv p g.ins, .slice q g.vals.length g.vals.length, .slice r g.outs.length g.outs.length], [.slice none 0 0, .slice none 0 0, .slice none 0 0]]⟩ ∧
        OwnG K lo hi p q r ⟨g.ins, (sh same g.vals g.vals.length).1, outsTo same g k⟩ ∧ Buf dInt K H.next (some ⟨H.next, 0, none⟩) (sh same g.vals g.vals.length).2 ∧ Out lo H.next H K)
      (E0 := ⟨[(2, .pointer (some ⟨0, 0, some 0⟩)), (4, .pointer (some ⟨1, 0, some 0⟩)), (5, .slice (some ⟨H.next, 0, none⟩) g.vals.length g.vals.length), (49, .slice r g.outs.length g.outs.length), (50, .int .i64 (g.outs.length : Int)), (51, .int .i64 ((0 : Nat) : Int))], [[sv p g.ins, .slice q g.vals.length g.vals.length, .slice r g.outs.length g.outs.length], [.slice none 0 0, .slice none 0 0, .slice none 0 0]]⟩) ⟨0, Nat.zero_le _, rfl, rfl, by rw [hz]; exact og, bt, o⟩ (by (refine ⟨?_, ?_⟩ <;> repeat' first | exact trivial | exact congrArg (fun x => some (Value.int .i64 x)) (wrap_nat (by omega)) | exact sv_eq (by simp; done) | exact rfl | refine ⟨?_, ?_⟩ | fail)) ?_
    clear og bt o hSt
    rintro m E K ⟨k, hk, rfl, rfl, og, bt, o⟩
    refine ⟨fun hlt => ?_, fun hge => ?_⟩
    · have hlt : k < g.outs.length := by simpa using hlt
      have hin := houts _ (List.getElem_mem hlt)
      obtain ⟨br1, or1, rfl⟩ := rdI_some og.o.rd (by show 0 < (outsTo same g k).length; rw [hol k hk]; omega)
      have c1 := at_cellI og.o.rd (j := (k : Int)) (by omega) (by show _ < ((outsTo same g k).length : Int); rw [hol k hk]; omega)
      rw [show (⟨g.ins, (sh same g.vals g.vals.length).1, outsTo same g k⟩ : Graph).outs = outsTo same g k from rfl, outsTo_get hlt] at c1
      have c2 := at_cellI bt.rd (j := g.outs[k]) hin.1 (by rw [ok.l2]; exact hin.2)
      obtain ⟨og', hst', hbut⟩ := og.setO rfl (i := k) (v := atV (sh same g.vals g.vals.length).2 g.outs[k]) (by show k < (outsTo same g k).length; rw [hol k hk]; omega) (off := or1 + k * 1) rfl rfl
      simp only [outsTo_set hlt] at og'
      have hwk := wrap_nat (k := k) (by omega)
      have hbr : lo ≤ br1 ∧ br1 < hi := ⟨(og.o.lt rfl).1, og.hi_.2.2 _ _ rfl⟩
      have ol := hbut.out (lo := lo) (hi := hi) (fun b o e => by cases e; omega)
      refine ⟨⟨by omega, by omega⟩, _, c1, .leaf [([0, 1, 2, 3, 4, 5, 6, 7], some 8), ([], none)] [], by kernel_rfl, ⟨hin.1, by omega⟩, _, c2, ⟨by omega, by omega⟩, hst', ?_⟩
      exact ⟨g.outs.length - (k + 1), ⟨[(2, .pointer (some ⟨0, 0, some 0⟩)), (4, .pointer (some ⟨1, 0, some 0⟩)), (5, .slice (some ⟨H.next, 0, none⟩) g.vals.length g.vals.length), (49, .slice (some ⟨br1, or1, none⟩) g.outs.length g.outs.length), (50, .int .i64 (g.outs.length : Int)), (51, .int .i64 ((k + 1 : Nat) : Int))], [[sv p g.ins, .slice q g.vals.length g.vals.length, .slice (some ⟨br1, or1, none⟩) g.outs.length g.outs.length], [.slice none 0 0, .slice none 0 0, .slice none 0 0]]⟩, by omega, (by (refine ⟨?_, ?_⟩ <;> repeat' first | exact trivial | exact congrArg (fun x => some (Value.int .i64 x)) hwk | exact rfl | refine ⟨?_, ?_⟩ | fail)), k + 1, by omega, rfl, rfl, og', bt.out ol fun b o e => by cases e; omega, o.trans (ol.wide (Nat.le_refl _) (by omega))⟩
    · have hk2 : k = g.outs.length := by simp at hge; omega
      have hall : outsTo same g k = g.outs.map (atV (sh same g.vals g.vals.length).2) := by subst hk2; simp [outsTo]
      have hsh : shared same g = ⟨g.ins, (sh same g.vals g.vals.length).1, outsTo same g k⟩ := by rw [hall]; rfl
      rw [hsh]
      refine ⟨?_, og, o⟩
      show AEnd.ret (.agg #[sv p g.ins, .slice q g.vals.length g.vals.length, .slice r g.outs.length g.outs.length]) = .ret (.agg #[sv p g.ins, sv q (sh same g.vals g.vals.length).1, sv r (outsTo same g k)])
      show _ = AEnd.ret (.agg #[sv p g.ins, .slice q (sh same g.vals g.vals.length).1.length (sh same g.vals g.vals.length).1.length, .slice r (outsTo same g k).length (outsTo same g k).length])
      rw [hvl, hol k hk]
end Go.Proofs.Ytjmobjiaoklfdaa
