/- l4equal: the reference's sharing, walked. Conditions: those of each. -/
import Derived.Test.YtjmobjiaoklfdaaPsd
set_option linter.unusedVariables false
set_option linter.unusedSimpArgs false
namespace Go.Proofs.Ytjmobjiaoklfdaa
open Go.Am
open FlCore (canon isNan)

/-- The copy's values, the first k of them shared. -/
def cur (vals : List Val) (same : List Val → Val → Int) (k : Nat) : List Val := (sh same vals k).1 ++ vals.drop k
theorem bufV_some {K : Heap} {lo : Nat} {q : Option Addr} {xs : List Val} (h : Buf dVal K lo q xs) (hp : 0 < xs.length) : ∃ b, q = some ⟨b, 0, none⟩ := by
  cases h with
  | nil => simp at hp
  | blk => exact ⟨_, rfl⟩
theorem cur_zero (vals : List Val) (same : List Val → Val → Int) : cur vals same 0 = vals := by simp [cur, sh]
theorem cur_len {vals : List Val} {same : List Val → Val → Int} {k : Nat} (h : ShOK same vals k) (hk : k ≤ vals.length) : (cur vals same k).length = vals.length := by
  simp [cur, h.l1]; omega
theorem cur_set {vals : List Val} {same : List Val → Val → Int} {k : Nat} (h : ShOK same vals k) (hk : k < vals.length) : (cur vals same k).set k (withV vals[k] (sh same vals k).2) = cur vals same (k + 1) := by
  have hd : vals.drop k = vals[k] :: vals.drop (k + 1) := List.drop_eq_getElem_cons hk
  simp only [cur, sh, hd]
  rw [List.set_append, if_neg (by rw [h.l1]; omega), h.l1, Nat.sub_self, List.set_cons_zero, List.getElem?_eq_getElem hk]
  simp
theorem cur_at {vals : List Val} {same : List Val → Val → Int} {k : Nat} (h : ShOK same vals k) {j : Int} (h0 : 0 ≤ j) (h1 : j < k) (hk : k < vals.length) : vAtI (cur vals same (k + 1)) j = vAtI (sh same vals k).1 j := by
  unfold vAtI cur
  simp only [sh]
  rw [List.append_assoc, List.getElem?_append_left (by rw [h.l1]; omega)]
theorem constB_cur {vals : List Val} {same : List Val → Val → Int} {k : Nat} (h : ShOK same vals k) {j : Int} (h0 : 0 ≤ j) (h1 : j < k) (hk : k < vals.length) (x : Nat) : constB (cur vals same (k + 1)) j x = constB (sh same vals k).1 j x := by
  unfold constB; rw [cur_at h h0 h1 hk]
theorem unit_cur {vals : List Val} {same : List Val → Val → Int} {k : Nat} (h : ShOK same vals k) (hk : k < vals.length) {v : Val} (hv : OpsIn v k) : unitI (cur vals same (k + 1)) v = unitI (sh same vals k).1 v := by
  have hin : (v.op = 2 ∨ v.op = 3 ∨ v.op = 4 ∨ v.op = 5) → ∀ x, constB (cur vals same (k + 1)) v.a x = constB (sh same vals k).1 v.a x ∧ constB (cur vals same (k + 1)) v.b x = constB (sh same vals k).1 v.b x := fun hop x => by
    have := opnd2 hop
    have ha := hv.a (by omega)
    have hb := hv.b (by omega)
    exact ⟨constB_cur h ha.1 ha.2 hk x, constB_cur h hb.1 hb.2 hk x⟩
  by_cases hop : v.op = 2 ∨ v.op = 3 ∨ v.op = 4 ∨ v.op = 5
  · have := hin hop
    unfold unitI
    rw [(this ONE).1, (this ONE).2, (this 0).2, (this MZ).1, (this MZ).2]
  · unfold unitI
    have e2 : ¬ v.op = 2 := by omega
    have e3 : ¬ v.op = 3 := by omega
    have e4 : ¬ v.op = 4 := by omega
    have e5 : ¬ v.op = 5 := by omega
    simp [e2, e3, e4, e5]
def outsTo (same : List Val → Val → Int) (g : Graph) (k : Nat) : List Int := (g.outs.take k).map (atV (sh same g.vals g.vals.length).2) ++ g.outs.drop k
theorem outsTo_set {same : List Val → Val → Int} {g : Graph} {k : Nat} (h : k < g.outs.length) : (outsTo same g k).set k (atV (sh same g.vals g.vals.length).2 g.outs[k]) = outsTo same g (k + 1) := by
  have hd : g.outs.drop k = g.outs[k] :: g.outs.drop (k + 1) := List.drop_eq_getElem_cons h
  unfold outsTo
  rw [hd, List.take_succ_eq_append_getElem h, List.set_append, if_neg (by simp; omega)]
  have : k - ((g.outs.take k).map (atV (sh same g.vals g.vals.length).2)).length = 0 := by simp; omega
  rw [this, List.set_cons_zero, List.map_append, List.append_assoc]
  rfl
theorem firstJ {vs : List Val} {v : Val} {s : Nat} (h1 : s ≤ vs.length) (h2 : ∀ j (hj : j < vs.length), j < s → sameV vs[j] v = false) (h3 : s = vs.length ∨ ∃ hs : s < vs.length, sameV vs[s] v = true) : sameCommon vs v = s := by
  unfold sameCommon
  split
  · rename_i j hj
    obtain ⟨k1, k2, k3⟩ := List.findIdx?_eq_some_iff_getElem.1 hj
    rcases Nat.lt_trichotomy j s with q | q | q
    · rw [h2 j k1 q] at k2; cases k2
    · rw [q]
    · rcases h3 with e | ⟨hs, e⟩
      · omega
      · have := k3 s q
        rw [e] at this
        simp at this
  · rename_i hn
    rcases h3 with e | ⟨hs, e⟩
    · rw [e]
    · have := List.findIdx?_eq_none_iff.1 hn _ (List.getElem_mem hs)
      rw [e] at this; cases this
set_option maxHeartbeats 1000000 in
theorem l4equal1_ec (H : Heap) (p q r : Option Addr) (g : Graph) (hg : RdG H p q r g) (hv : validB g = true) :
    EC Try.prog 45 [gV p q r g, .int .i64 1] H (GR H (shared sameCommon g)) := by
  obtain ⟨h1, h2, h3⟩ := valid_lens hv
  have hops := valid_ops hv
  have houts := valid_outs hv
  have hsok : ∀ k, k ≤ g.vals.length → ShOK sameCommon g.vals k := sh_ok sameCommon_ok hops
  refine EC_fn ctx (fun _ => true) Try.func45 rfl rfl rfl ?_
  refine ⟨_, l2copy_ec H p q r g hg (by omega) (by omega) (by omega), ?_, fun v K hR => hR.no.elim⟩
  rintro _ K0 ⟨p1, q1, r1, hx, e0, og⟩
  cases hx
  have hpos : 0 < g.vals.length → ∃ b, q1 = some ⟨b, 0, none⟩ := fun hp => by
    exact bufV_some og.s hp
  generalize hsame : sameCommon = same at *
  have hq : True := trivial
  refine loop_ind ctx (fun _ => true) (fun m E K => ∃ (k : Nat) (e : Option Addr), k ≤ g.vals.length ∧ m = g.vals.length - k ∧ E = ⟨[(1, .int .i64 1), (2, .pointer (some ⟨0, 0, some 0⟩)), (4, .pointer (some ⟨1, 0, some 0⟩)), (5, .pointer (some ⟨2, 0, some 0⟩)), (6, sv e (sh same g.vals k).2), (7, .int .i64 (k : Int))], [[sv p g.ins, sv q g.vals, sv r g.outs], [.slice none 0 0, .slice none 0 0, .slice none 0 0], [sv p1 g.ins, sv q1 (cur g.vals same k), sv r1 g.outs]]⟩ ∧ OwnG K H.next K0.next p1 q1 r1 ⟨g.ins, cur g.vals same k, g.outs⟩ ∧ Out H.next K0.next K0 K ∧ Buf dInt K K0.next e (sh same g.vals k).2)
    (E0 := ⟨[(1, .int .i64 1), (2, .pointer (some ⟨0, 0, some 0⟩)), (4, .pointer (some ⟨1, 0, some 0⟩)), (5, .pointer (some ⟨2, 0, some 0⟩)), (6, sv none (sh same g.vals 0).2), (7, .int .i64 (0 : Int))], [[sv p g.ins, sv q g.vals, sv r g.outs], [.slice none 0 0, .slice none 0 0, .slice none 0 0], [sv p1 g.ins, sv q1 g.vals, sv r1 g.outs]]⟩) ⟨0, none, Nat.zero_le _, rfl, by rw [cur_zero]; rfl, by rw [cur_zero]; exact og, Out.of_ext (Ext.refl _), .nil⟩ (by (refine ⟨?_, ?_⟩ <;> repeat' first | exact trivial | exact congrArg (fun x => some (Value.int .i64 x)) (wrap_nat (by omega)) | exact sv_eq (by simp; done) | exact rfl | refine ⟨?_, ?_⟩ | fail)) ?_
  rintro m E K ⟨k, e, hk, rfl, rfl, og, o, be⟩
  have eK := Out.ext e0 o
  have hgK := hg.mono eK
  have ok := hsok k hk
  refine ⟨fun hlt => ?_, fun hge => ?_⟩
  · have hlt : k < g.vals.length := by simpa using hlt
    obtain ⟨bq, rfl⟩ := hpos (by omega)
    obtain ⟨bg, og_, rfl⟩ := rdV_some hg.vals (by omega)
    have hva := (valF_at hgK.vals (i := (k : Int)) (by omega) (by omega)).2.2.2.2
    have hvk : vAtI g.vals (k : Int) = g.vals[k] := by unfold vAtI; rw [show ((k : Int)).toNat = k from rfl, List.getElem?_eq_getElem hlt]; rfl
    rw [hvk] at hva
    have hin : OpsIn g.vals[k] k := hops k _ (List.getElem?_eq_getElem hlt)
    have hw : OpsIn (withV g.vals[k] (sh same g.vals k).2) k := withV_in (by rw [ok.l2]; exact hin) ok.eq (by rw [ok.l2]; exact Int.le_refl _)
    refine ⟨⟨by omega, by omega⟩, valV g.vals[k], hva, _, l4with_pc K e _ g.vals[k] be.rd (by rw [ok.l2]; exact hin), ?_, fun v K hR => by cases hR.1⟩
    rintro _ K ⟨hx, rfl⟩
    cases hx
    have hcl := cur_len ok hk
    obtain ⟨og', hst, hbut⟩ := og.setV rfl (i := k) (v := withV g.vals[k] (sh same g.vals k).2) (by show k < (cur g.vals same k).length; omega) (off := 0 + k * 6) rfl rfl
    have hcs := cur_set ok hlt
    simp only [hcs] at og'
    refine ⟨⟨by omega, by rw [hcl]; omega⟩, hst, ?_⟩
    have ok1 := hsok (k + 1) (by omega)
    have hcl1 := cur_len ok1 (by omega)
    have hsv : (sh same g.vals (k + 1)).2 = (sh same g.vals k).2 ++ [same (sh same g.vals k).1 (withV g.vals[k] (sh same g.vals k).2)] := by simp only [sh]; rw [List.getElem?_eq_getElem hlt]; rfl
    have ol := hbut.out (lo := H.next) (hi := K0.next) (fun b o e => by cases e; exact ⟨(og.s.lt rfl).1, og.hi_.2.1 _ _ rfl⟩)
    have o' := o.trans ol
    have be' : Buf dInt (K.stor bq (0 + k * 6) (vcells (withV g.vals[k] (sh same g.vals k).2))) K0.next e (sh same g.vals k).2 := be.out ol fun b o e => .inr (be.lt e).1
    have hcE : ∀ w : List Val, w.length = g.vals.length → sv (some (⟨bq, 0, none⟩ : Addr)) (cur g.vals same k) = sv (some ⟨bq, 0, none⟩) w := fun w hw => by show Value.slice _ _ _ = Value.slice _ _ _; rw [hcl, hw]
    generalize hwv : withV g.vals[k] (sh same g.vals k).2 = w at *
    have hwk := wrap_nat (k := k) (by omega)
    refine ⟨fun _ => ?_, fun h => by simp at h⟩
    rw [hcE _ hcl1]
    have hd0 : IntKind.i64.wrap ((k : Int) - 1) = (k : Int) - 1 := wrap_i64 (by omega) (by omega)
    refine loop_ind ctx (fun _ => true) (fun m E KX => ∃ (d s : Nat), d ≤ k ∧ m = d ∧ s ≤ k ∧ E = ⟨[(1, .int .i64 1), (2, .pointer (some ⟨0, 0, some 0⟩)), (4, .pointer (some ⟨1, 0, some 0⟩)), (5, .pointer (some ⟨2, 0, some 0⟩)), (6, sv e (sh same g.vals k).2), (7, .int .i64 (k : Int)), (8, .pointer (some ⟨3, 0, some 0⟩)), (9, .int .i64 (s : Int)), (10, .int .i64 ((d : Int) - 1))], [[sv p g.ins, sv (some ⟨bg, og_, none⟩) g.vals, sv r g.outs], [.slice none 0 0, .slice none 0 0, .slice none 0 0], [sv p1 g.ins, sv (some ⟨bq, 0, none⟩) (cur g.vals same (k + 1)), sv r1 g.outs], vcells w]⟩ ∧ KX = (K.stor bq (0 + k * 6) (vcells w)) ∧ (∀ j (hj : j < (sh same g.vals k).1.length), d ≤ j → j < s → sameV (sh same g.vals k).1[j] w = false) ∧ (s = k ∨ ∃ hs : s < (sh same g.vals k).1.length, d ≤ s ∧ sameV (sh same g.vals k).1[s] w = true))
      (E0 := ⟨[(1, .int .i64 1), (2, .pointer (some ⟨0, 0, some 0⟩)), (4, .pointer (some ⟨1, 0, some 0⟩)), (5, .pointer (some ⟨2, 0, some 0⟩)), (6, sv e (sh same g.vals k).2), (7, .int .i64 (k : Int)), (8, .pointer (some ⟨3, 0, some 0⟩)), (9, .int .i64 (k : Int)), (10, .int .i64 ((k : Int) - 1))], [[sv p g.ins, sv (some ⟨bg, og_, none⟩) g.vals, sv r g.outs], [.slice none 0 0, .slice none 0 0, .slice none 0 0], [sv p1 g.ins, sv (some ⟨bq, 0, none⟩) (cur g.vals same (k + 1)), sv r1 g.outs], vcells w]⟩) ⟨k, k, Nat.le_refl _, rfl, Nat.le_refl _, rfl, rfl, fun j hj h1 h2 => by omega, .inl rfl⟩ (by (refine ⟨?_, ?_⟩ <;> repeat' first | exact trivial | exact congrArg (fun x => some (Value.int .i64 x)) hd0 | exact rfl | refine ⟨?_, ?_⟩ | fail)) ?_
    rintro d E K2 ⟨_, s, hd, rfl, hs, rfl, rfl, i1, i2⟩
    refine ⟨fun hlt2 => ?_, fun hge2 => ?_⟩
    · have hd1 : 1 ≤ d := by simp at hlt2; omega
      have hj : d - 1 < (sh same g.vals k).1.length := by rw [ok.l1]; omega
      have hat := (valF_at og'.s.rd (i := (d : Int) - 1) (by omega) (by show _ < ((cur g.vals same (k + 1)).length : Int); rw [hcl1]; omega)).2.2.2.2
      have hve : vAtI (cur g.vals same (k + 1)) ((d : Int) - 1) = (sh same g.vals k).1[d - 1] := by
        rw [cur_at ok (by omega) (by omega) hlt]
        unfold vAtI
        rw [show ((d : Int) - 1).toNat = d - 1 by omega, List.getElem?_eq_getElem hj]; rfl
      rw [show (⟨g.ins, cur g.vals same (k + 1), g.outs⟩ : Graph).vals = cur g.vals same (k + 1) from rfl, hve] at hat
      have hdw : IntKind.i64.wrap ((d : Int) - 1 - 1) = ((d - 1 : Nat) : Int) - 1 := by rw [wrap_i64 (by omega) (by omega)]; omega
      refine ⟨.leaf [([0, 1, 2, 3, 4, 5, 6], none)] [], by kernel_rfl, ⟨by omega, by rw [hcl1]; omega⟩, valV (sh same g.vals k).1[d - 1], hat, .bool (sameV (sh same g.vals k).1[d - 1] w), l4sameVal_pc _ _ _, fun hy => ?_, fun hn => ?_⟩
      · refine ⟨d - 1, ⟨[(1, .int .i64 1), (2, .pointer (some ⟨0, 0, some 0⟩)), (4, .pointer (some ⟨1, 0, some 0⟩)), (5, .pointer (some ⟨2, 0, some 0⟩)), (6, sv e (sh same g.vals k).2), (7, .int .i64 (k : Int)), (8, .pointer (some ⟨3, 0, some 0⟩)), (9, .int .i64 ((d - 1 : Nat) : Int)), (10, .int .i64 (((d - 1 : Nat) : Int) - 1))], [[sv p g.ins, sv (some ⟨bg, og_, none⟩) g.vals, sv r g.outs], [.slice none 0 0, .slice none 0 0, .slice none 0 0], [sv p1 g.ins, sv (some ⟨bq, 0, none⟩) (cur g.vals same (k + 1)), sv r1 g.outs], vcells w]⟩, by omega, ?_, d - 1, d - 1, by omega, rfl, by omega, rfl, rfl, fun j hj h1 h2 => by omega, .inr ⟨hj, Nat.le_refl _, hy⟩⟩
        have hd9 : (d : Int) - 1 = ((d - 1 : Nat) : Int) := by omega
        exact (by (refine ⟨?_, ?_⟩ <;> repeat' first | exact trivial | exact congrArg (fun x => some (Value.int .i64 x)) hdw | exact congrArg (fun x => some (Value.int .i64 x)) hd9 | exact rfl | refine ⟨?_, ?_⟩ | fail))
      · refine ⟨d - 1, ⟨[(1, .int .i64 1), (2, .pointer (some ⟨0, 0, some 0⟩)), (4, .pointer (some ⟨1, 0, some 0⟩)), (5, .pointer (some ⟨2, 0, some 0⟩)), (6, sv e (sh same g.vals k).2), (7, .int .i64 (k : Int)), (8, .pointer (some ⟨3, 0, some 0⟩)), (9, .int .i64 (s : Int)), (10, .int .i64 (((d - 1 : Nat) : Int) - 1))], [[sv p g.ins, sv (some ⟨bg, og_, none⟩) g.vals, sv r g.outs], [.slice none 0 0, .slice none 0 0, .slice none 0 0], [sv p1 g.ins, sv (some ⟨bq, 0, none⟩) (cur g.vals same (k + 1)), sv r1 g.outs], vcells w]⟩, by omega, (by (refine ⟨?_, ?_⟩ <;> repeat' first | exact trivial | exact congrArg (fun x => some (Value.int .i64 x)) hdw | exact rfl | refine ⟨?_, ?_⟩ | fail)), d - 1, s, by omega, rfl, hs, rfl, rfl, fun j hj h1 h2 => ?_, ?_⟩
        · by_cases hjd : j = d - 1
          · subst hjd; exact hn
          · exact i1 j hj (by omega) h2
        · rcases i2 with e | ⟨hs, hds, e⟩
          · exact .inl e
          · exact .inr ⟨hs, by omega, e⟩
    · have hd0 : d = 0 := by simp at hge2; omega
      subst hd0
      have hfirst : sameCommon (sh same g.vals k).1 w = (s : Int) := firstJ (by rw [ok.l1]; exact hs) (fun j hj h => i1 j hj (Nat.zero_le _) h) (by
        rcases i2 with e | ⟨hs, _, e⟩
        · left; rw [ok.l1]; exact e
        · exact .inr ⟨hs, e⟩)
      refine ⟨fun h => by simp at h, .int .i64 0, fun h => by simp at h, fun h => by simp at h, fun _ => ⟨.int .i64 0, fun h => by simp at h, fun h => by simp at h, fun _ => ?_⟩⟩
      have hlast : same (sh same g.vals k).1 w = (s : Int) := by rw [← hsame] at hfirst ⊢; exact hfirst
      have hb1 := be'.mono (Ext.push (K.stor bq (0 + k * 6) (vcells w)) (.cells (flat dInt [(s : Int)]) 1 true))
      refine ⟨_, run_push _ _ _ _ (Nat.le_refl 1), by dsimp only; rw [ok.l2]; omega, by dsimp only; rw [ok.l2]; omega, _, hb1.own, ?_⟩
      refine ⟨g.vals.length - (k + 1), ⟨[(1, .int .i64 1), (2, .pointer (some ⟨0, 0, some 0⟩)), (4, .pointer (some ⟨1, 0, some 0⟩)), (5, .pointer (some ⟨2, 0, some 0⟩)), (6, sv (some ⟨(K.stor bq (0 + k * 6) (vcells w)).next + 1, 0, none⟩) (sh same g.vals (k + 1)).2), (7, .int .i64 ((k + 1 : Nat) : Int))], [[sv p g.ins, sv (some ⟨bg, og_, none⟩) g.vals, sv r g.outs], [.slice none 0 0, .slice none 0 0, .slice none 0 0], [sv p1 g.ins, sv (some ⟨bq, 0, none⟩) (cur g.vals same (k + 1)), sv r1 g.outs]]⟩, by omega, ?_, k + 1, some ⟨(K.stor bq (0 + k * 6) (vcells w)).next + 1, 0, none⟩, by omega, rfl, rfl, ?_, ?_, ?_⟩
      · rw [hsv, hlast, ← sv_appX _ _ ([(s : Int)] : List Int) rfl]
        exact (by (refine ⟨?_, ?_⟩ <;> repeat' first | exact trivial | exact congrArg (fun x => some (Value.int .i64 x)) hwk | exact rfl | refine ⟨?_, ?_⟩ | fail))
      · exact ((og'.push1 _).killB hb1 (Nat.le_refl _)).push1 _
      · exact ((o'.pushX _).killX hb1 (Nat.le_refl _)).pushX _
      · rw [hsv, hlast]
        exact hb1.app rfl (by show K0.next ≤ (K.stor bq (0 + k * 6) (vcells w)).next + 1; have := o'.next; omega)
  · have hk' : k = g.vals.length := by simp at hge; omega
    subst hk'
    have hcur : cur g.vals same g.vals.length = (sh same g.vals g.vals.length).1 := by simp [cur]
    rw [hcur] at og ⊢
    have hz : outsTo same g 0 = g.outs := by simp [outsTo]
    refine loop_ind ctx (fun _ => true) (fun m E K => ∃ (k : Nat), k ≤ g.outs.length ∧ m = g.outs.length - k ∧ E = ⟨[(1, .int .i64 1), (2, .pointer (some ⟨0, 0, some 0⟩)), (4, .pointer (some ⟨1, 0, some 0⟩)), (5, .pointer (some ⟨2, 0, some 0⟩)), (6, sv e (sh same g.vals g.vals.length).2), (11, .int .i64 ((k : Nat) : Int))], [[sv p g.ins, sv q g.vals, sv r g.outs], [.slice none 0 0, .slice none 0 0, .slice none 0 0], [sv p1 g.ins, sv q1 (sh same g.vals g.vals.length).1, sv r1 (outsTo same g k)]]⟩ ∧ OwnG K H.next K0.next p1 q1 r1 ⟨g.ins, (sh same g.vals g.vals.length).1, outsTo same g k⟩ ∧ Out H.next K0.next K0 K ∧ Buf dInt K K0.next e (sh same g.vals g.vals.length).2)
      (E0 := ⟨[(1, .int .i64 1), (2, .pointer (some ⟨0, 0, some 0⟩)), (4, .pointer (some ⟨1, 0, some 0⟩)), (5, .pointer (some ⟨2, 0, some 0⟩)), (6, sv e (sh same g.vals g.vals.length).2), (11, .int .i64 ((0 : Nat) : Int))], [[sv p g.ins, sv q g.vals, sv r g.outs], [.slice none 0 0, .slice none 0 0, .slice none 0 0], [sv p1 g.ins, sv q1 (sh same g.vals g.vals.length).1, sv r1 (outsTo same g 0)]]⟩) ⟨0, Nat.zero_le _, rfl, rfl, by rw [hz]; exact og, o, be⟩ (by rw [hz]; (refine ⟨?_, ?_⟩ <;> repeat' first | exact trivial | exact congrArg (fun x => some (Value.int .i64 x)) (wrap_nat (by omega)) | exact sv_eq (by simp; done) | exact rfl | refine ⟨?_, ?_⟩ | fail)) ?_
    clear og o be eK hgK
    rintro m E K ⟨k, hk, rfl, rfl, og, o, be⟩
    have eK := Out.ext e0 o
    have hgK := hg.mono eK
    have holen : (outsTo same g k).length = g.outs.length := by simp [outsTo]; omega
    refine ⟨fun hlt => ?_, fun hge => ?_⟩
    · have hlt : k < g.outs.length := by simp at hlt; omega
      have hin := houts _ (List.getElem_mem hlt)
      obtain ⟨br, or_, rfl⟩ := rdI_some hg.outs (by omega)
      obtain ⟨be_, oe, rfl⟩ := rdI_some be.rd (by rw [ok.l2]; omega)
      obtain ⟨br1, or1, rfl⟩ := rdI_some og.o.rd (by show 0 < (outsTo same g k).length; omega)
      have c1 := at_cellI hgK.outs (j := (k : Int)) (by omega) (by omega)
      have hat : atV g.outs (k : Int) = g.outs[k] := by unfold atV; rw [show ((k : Int)).toNat = k from rfl, List.getElem?_eq_getElem hlt]; rfl
      rw [hat] at c1
      have c2 := at_cellI be.rd (j := g.outs[k]) hin.1 (by rw [ok.l2]; exact hin.2)
      obtain ⟨og', hst, hbut⟩ := og.setO rfl (i := k) (v := atV (sh same g.vals g.vals.length).2 g.outs[k]) (by show k < (outsTo same g k).length; omega) (off := or1 + k * 1) rfl rfl
      have hset : (outsTo same g k).set k (atV (sh same g.vals g.vals.length).2 g.outs[k]) = outsTo same g (k + 1) := outsTo_set hlt
      simp only [hset] at og'
      have hwk := wrap_nat (k := k) (by omega)
      have ol := hbut.out (lo := H.next) (hi := K0.next) (fun b o e => by cases e; exact ⟨(og.o.lt rfl).1, og.hi_.2.2 _ _ rfl⟩)
      have hl1 : (outsTo same g (k + 1)).length = (outsTo same g k).length := by simp [outsTo]; omega
      have hse : sv (some (⟨br1, or1, none⟩ : Addr)) (outsTo same g (k + 1)) = sv (some ⟨br1, or1, none⟩) (outsTo same g k) := by show Value.slice _ _ _ = Value.slice _ _ _; rw [hl1]
      refine ⟨.leaf [([0, 1, 2, 3, 4, 5, 6, 7, 8, 9, 10, 11], some 12), ([], none)] [], by kernel_rfl, ⟨by omega, by omega⟩, _, c1, ⟨hin.1, by rw [ok.l2]; exact hin.2⟩, _, c2, ⟨by omega, by rw [holen]; omega⟩, hst, ?_⟩
      refine ⟨g.outs.length - (k + 1), ⟨[(1, .int .i64 1), (2, .pointer (some ⟨0, 0, some 0⟩)), (4, .pointer (some ⟨1, 0, some 0⟩)), (5, .pointer (some ⟨2, 0, some 0⟩)), (6, sv (some ⟨be_, oe, none⟩) (sh same g.vals g.vals.length).2), (11, .int .i64 ((k + 1 : Nat) : Int))], [[sv p g.ins, sv q g.vals, sv (some ⟨br, or_, none⟩) g.outs], [.slice none 0 0, .slice none 0 0, .slice none 0 0], [sv p1 g.ins, sv q1 (sh same g.vals g.vals.length).1, sv (some ⟨br1, or1, none⟩) (outsTo same g (k + 1))]]⟩, by omega, ?_, k + 1, by omega, rfl, rfl, og', o.trans ol, be.out ol fun b o e => .inr (be.lt e).1⟩
      rw [hse]
      exact (by (refine ⟨?_, ?_⟩ <;> repeat' first | exact trivial | exact congrArg (fun x => some (Value.int .i64 x)) hwk | exact rfl | refine ⟨?_, ?_⟩ | fail))
    · have hk2 : k = g.outs.length := by simp at hge; omega
      have hall : outsTo same g k = g.outs.map (atV (sh same g.vals g.vals.length).2) := by subst hk2; simp [outsTo]
      have hsh : shared same g = ⟨g.ins, (sh same g.vals g.vals.length).1, outsTo same g k⟩ := by rw [hall]; rfl
      rw [hsh]
      exact ⟨p1, q1, r1, rfl, eK, og.i, og.s, og.o, ⟨fun b f e => Nat.lt_of_lt_of_le (og.hi_.1 b f e) o.next, fun b f e => Nat.lt_of_lt_of_le (og.hi_.2.1 b f e) o.next, fun b f e => Nat.lt_of_lt_of_le (og.hi_.2.2 b f e) o.next⟩, og.ne⟩
set_option maxHeartbeats 1000000 in
theorem l4equal3_ec (H : Heap) (p q r : Option Addr) (g : Graph) (hg : RdG H p q r g) (hv : validB g = true) :
    EC Try.prog 45 [gV p q r g, .int .i64 3] H (GR H (shared sameNeg g)) := by
  obtain ⟨h1, h2, h3⟩ := valid_lens hv
  have hops := valid_ops hv
  have houts := valid_outs hv
  have hsok : ∀ k, k ≤ g.vals.length → ShOK sameNeg g.vals k := sh_ok sameNeg_ok hops
  refine EC_fn ctx (fun _ => true) Try.func45 rfl rfl rfl ?_
  refine ⟨_, l2copy_ec H p q r g hg (by omega) (by omega) (by omega), ?_, fun v K hR => hR.no.elim⟩
  rintro _ K0 ⟨p1, q1, r1, hx, e0, og⟩
  cases hx
  have hpos : 0 < g.vals.length → ∃ b, q1 = some ⟨b, 0, none⟩ := fun hp => by
    exact bufV_some og.s hp
  generalize hsame : sameNeg = same at *
  have hq : True := trivial
  refine loop_ind ctx (fun _ => true) (fun m E K => ∃ (k : Nat) (e : Option Addr), k ≤ g.vals.length ∧ m = g.vals.length - k ∧ E = ⟨[(1, .int .i64 3), (2, .pointer (some ⟨0, 0, some 0⟩)), (4, .pointer (some ⟨1, 0, some 0⟩)), (5, .pointer (some ⟨2, 0, some 0⟩)), (6, sv e (sh same g.vals k).2), (7, .int .i64 (k : Int))], [[sv p g.ins, sv q g.vals, sv r g.outs], [.slice none 0 0, .slice none 0 0, .slice none 0 0], [sv p1 g.ins, sv q1 (cur g.vals same k), sv r1 g.outs]]⟩ ∧ OwnG K H.next K0.next p1 q1 r1 ⟨g.ins, cur g.vals same k, g.outs⟩ ∧ Out H.next K0.next K0 K ∧ Buf dInt K K0.next e (sh same g.vals k).2)
    (E0 := ⟨[(1, .int .i64 3), (2, .pointer (some ⟨0, 0, some 0⟩)), (4, .pointer (some ⟨1, 0, some 0⟩)), (5, .pointer (some ⟨2, 0, some 0⟩)), (6, sv none (sh same g.vals 0).2), (7, .int .i64 (0 : Int))], [[sv p g.ins, sv q g.vals, sv r g.outs], [.slice none 0 0, .slice none 0 0, .slice none 0 0], [sv p1 g.ins, sv q1 g.vals, sv r1 g.outs]]⟩) ⟨0, none, Nat.zero_le _, rfl, by rw [cur_zero]; rfl, by rw [cur_zero]; exact og, Out.of_ext (Ext.refl _), .nil⟩ (by (refine ⟨?_, ?_⟩ <;> repeat' first | exact trivial | exact congrArg (fun x => some (Value.int .i64 x)) (wrap_nat (by omega)) | exact sv_eq (by simp; done) | exact rfl | refine ⟨?_, ?_⟩ | fail)) ?_
  rintro m E K ⟨k, e, hk, rfl, rfl, og, o, be⟩
  have eK := Out.ext e0 o
  have hgK := hg.mono eK
  have ok := hsok k hk
  refine ⟨fun hlt => ?_, fun hge => ?_⟩
  · have hlt : k < g.vals.length := by simpa using hlt
    obtain ⟨bq, rfl⟩ := hpos (by omega)
    obtain ⟨bg, og_, rfl⟩ := rdV_some hg.vals (by omega)
    have hva := (valF_at hgK.vals (i := (k : Int)) (by omega) (by omega)).2.2.2.2
    have hvk : vAtI g.vals (k : Int) = g.vals[k] := by unfold vAtI; rw [show ((k : Int)).toNat = k from rfl, List.getElem?_eq_getElem hlt]; rfl
    rw [hvk] at hva
    have hin : OpsIn g.vals[k] k := hops k _ (List.getElem?_eq_getElem hlt)
    have hw : OpsIn (withV g.vals[k] (sh same g.vals k).2) k := withV_in (by rw [ok.l2]; exact hin) ok.eq (by rw [ok.l2]; exact Int.le_refl _)
    refine ⟨⟨by omega, by omega⟩, valV g.vals[k], hva, _, l4with_pc K e _ g.vals[k] be.rd (by rw [ok.l2]; exact hin), ?_, fun v K hR => by cases hR.1⟩
    rintro _ K ⟨hx, rfl⟩
    cases hx
    have hcl := cur_len ok hk
    obtain ⟨og', hst, hbut⟩ := og.setV rfl (i := k) (v := withV g.vals[k] (sh same g.vals k).2) (by show k < (cur g.vals same k).length; omega) (off := 0 + k * 6) rfl rfl
    have hcs := cur_set ok hlt
    simp only [hcs] at og'
    refine ⟨⟨by omega, by rw [hcl]; omega⟩, hst, ?_⟩
    have ok1 := hsok (k + 1) (by omega)
    have hcl1 := cur_len ok1 (by omega)
    have hsv : (sh same g.vals (k + 1)).2 = (sh same g.vals k).2 ++ [same (sh same g.vals k).1 (withV g.vals[k] (sh same g.vals k).2)] := by simp only [sh]; rw [List.getElem?_eq_getElem hlt]; rfl
    have ol := hbut.out (lo := H.next) (hi := K0.next) (fun b o e => by cases e; exact ⟨(og.s.lt rfl).1, og.hi_.2.1 _ _ rfl⟩)
    have o' := o.trans ol
    have be' : Buf dInt (K.stor bq (0 + k * 6) (vcells (withV g.vals[k] (sh same g.vals k).2))) K0.next e (sh same g.vals k).2 := be.out ol fun b o e => .inr (be.lt e).1
    have hcE : ∀ w : List Val, w.length = g.vals.length → sv (some (⟨bq, 0, none⟩ : Addr)) (cur g.vals same k) = sv (some ⟨bq, 0, none⟩) w := fun w hw => by show Value.slice _ _ _ = Value.slice _ _ _; rw [hcl, hw]
    generalize hwv : withV g.vals[k] (sh same g.vals k).2 = w at *
    have hwk := wrap_nat (k := k) (by omega)
    refine ⟨fun h => by simp at h, fun _ => ?_⟩
    rw [hcE _ hcl1]
    have hwa : w.op = 6 → 0 ≤ w.a ∧ w.a < k := fun e => hw.a (by rw [e]; decide)
    have hcell : w.op = 6 → (K.stor bq (0 + k * 6) (vcells w)).cell? bq (0 + w.a.toNat * 6) = some (.int .i64 (vAtI (cur g.vals same (k + 1)) w.a).op) ∧ (K.stor bq (0 + k * 6) (vcells w)).cell? bq (0 + w.a.toNat * 6 + 2) = some (.int .i64 (vAtI (cur g.vals same (k + 1)) w.a).a) := fun e => by
      have ha := hwa e
      have := valF_at og'.s.rd (i := w.a) ha.1 (by show _ < ((cur g.vals same (k + 1)).length : Int); rw [hcl1]; omega)
      exact ⟨this.1, this.2.2.1⟩
    have hsn : sameNeg (sh same g.vals k).1 w = if w.op = 6 ∧ (vAtI (cur g.vals same (k + 1)) w.a).op = 6 then (vAtI (cur g.vals same (k + 1)) w.a).a else (k : Int) := by
      unfold sameNeg
      rw [ok.l1]
      by_cases e : w.op = 6
      · have ha := hwa e
        rw [cur_at ok ha.1 ha.2 hlt]
      · simp [e]
    refine ⟨fun h => ⟨(hwa (by simpa using h)).1, by rw [hcl1]; have := hwa (by simpa using h); omega⟩, .int .i64 (vAtI (cur g.vals same (k + 1)) w.a).op, fun h => (hcell (by simpa using h)).1, fun h66 => ?_, fun h66 => ?_⟩
    · have h6 : w.op = 6 ∧ (vAtI (cur g.vals same (k + 1)) w.a).op = 6 := by simpa using h66
      refine ⟨⟨(hwa h6.1).1, by rw [hcl1]; have := hwa h6.1; omega⟩, .int .i64 (vAtI (cur g.vals same (k + 1)) w.a).a, (hcell h6.1).2, .int .i64 0, fun h => by simp at h, fun h => by simp at h, fun _ => ?_⟩
      rw [if_pos h6] at hsn
      have hlast : same (sh same g.vals k).1 w = ((vAtI (cur g.vals same (k + 1)) w.a).a) := by rw [← hsame] at hsn ⊢; exact hsn
      have hb1 := be'.mono (Ext.push (K.stor bq (0 + k * 6) (vcells w)) (.cells (flat dInt [((vAtI (cur g.vals same (k + 1)) w.a).a)]) 1 true))
      refine ⟨_, run_push _ _ _ _ (Nat.le_refl 1), by dsimp only; rw [ok.l2]; omega, by dsimp only; rw [ok.l2]; omega, _, hb1.own, ?_⟩
      refine ⟨g.vals.length - (k + 1), ⟨[(1, .int .i64 3), (2, .pointer (some ⟨0, 0, some 0⟩)), (4, .pointer (some ⟨1, 0, some 0⟩)), (5, .pointer (some ⟨2, 0, some 0⟩)), (6, sv (some ⟨(K.stor bq (0 + k * 6) (vcells w)).next + 1, 0, none⟩) (sh same g.vals (k + 1)).2), (7, .int .i64 ((k + 1 : Nat) : Int))], [[sv p g.ins, sv (some ⟨bg, og_, none⟩) g.vals, sv r g.outs], [.slice none 0 0, .slice none 0 0, .slice none 0 0], [sv p1 g.ins, sv (some ⟨bq, 0, none⟩) (cur g.vals same (k + 1)), sv r1 g.outs]]⟩, by omega, ?_, k + 1, some ⟨(K.stor bq (0 + k * 6) (vcells w)).next + 1, 0, none⟩, by omega, rfl, rfl, ?_, ?_, ?_⟩
      · rw [hsv, hlast, ← sv_appX _ _ ([((vAtI (cur g.vals same (k + 1)) w.a).a)] : List Int) rfl]
        exact (by (refine ⟨?_, ?_⟩ <;> repeat' first | exact trivial | exact congrArg (fun x => some (Value.int .i64 x)) hwk | exact rfl | refine ⟨?_, ?_⟩ | fail))
      · exact ((og'.push1 _).killB hb1 (Nat.le_refl _)).push1 _
      · exact ((o'.pushX _).killX hb1 (Nat.le_refl _)).pushX _
      · rw [hsv, hlast]
        exact hb1.app rfl (by show K0.next ≤ (K.stor bq (0 + k * 6) (vcells w)).next + 1; have := o'.next; omega)
    · have h6 : ¬ (w.op = 6 ∧ (vAtI (cur g.vals same (k + 1)) w.a).op = 6) := by
        rintro ⟨e1, e2⟩
        simp [e1, e2] at h66
      refine ⟨.int .i64 0, fun h => by simp at h, fun h => by simp at h, fun _ => ?_⟩
      rw [if_neg h6] at hsn
      have hlast : same (sh same g.vals k).1 w = (k : Int) := by rw [← hsame] at hsn ⊢; exact hsn
      have hb1 := be'.mono (Ext.push (K.stor bq (0 + k * 6) (vcells w)) (.cells (flat dInt [(k : Int)]) 1 true))
      refine ⟨_, run_push _ _ _ _ (Nat.le_refl 1), by dsimp only; rw [ok.l2]; omega, by dsimp only; rw [ok.l2]; omega, _, hb1.own, ?_⟩
      refine ⟨g.vals.length - (k + 1), ⟨[(1, .int .i64 3), (2, .pointer (some ⟨0, 0, some 0⟩)), (4, .pointer (some ⟨1, 0, some 0⟩)), (5, .pointer (some ⟨2, 0, some 0⟩)), (6, sv (some ⟨(K.stor bq (0 + k * 6) (vcells w)).next + 1, 0, none⟩) (sh same g.vals (k + 1)).2), (7, .int .i64 ((k + 1 : Nat) : Int))], [[sv p g.ins, sv (some ⟨bg, og_, none⟩) g.vals, sv r g.outs], [.slice none 0 0, .slice none 0 0, .slice none 0 0], [sv p1 g.ins, sv (some ⟨bq, 0, none⟩) (cur g.vals same (k + 1)), sv r1 g.outs]]⟩, by omega, ?_, k + 1, some ⟨(K.stor bq (0 + k * 6) (vcells w)).next + 1, 0, none⟩, by omega, rfl, rfl, ?_, ?_, ?_⟩
      · rw [hsv, hlast, ← sv_appX _ _ ([(k : Int)] : List Int) rfl]
        exact (by (refine ⟨?_, ?_⟩ <;> repeat' first | exact trivial | exact congrArg (fun x => some (Value.int .i64 x)) hwk | exact rfl | refine ⟨?_, ?_⟩ | fail))
      · exact ((og'.push1 _).killB hb1 (Nat.le_refl _)).push1 _
      · exact ((o'.pushX _).killX hb1 (Nat.le_refl _)).pushX _
      · rw [hsv, hlast]
        exact hb1.app rfl (by show K0.next ≤ (K.stor bq (0 + k * 6) (vcells w)).next + 1; have := o'.next; omega)
  · have hk' : k = g.vals.length := by simp at hge; omega
    subst hk'
    have hcur : cur g.vals same g.vals.length = (sh same g.vals g.vals.length).1 := by simp [cur]
    rw [hcur] at og ⊢
    have hz : outsTo same g 0 = g.outs := by simp [outsTo]
    refine loop_ind ctx (fun _ => true) (fun m E K => ∃ (k : Nat), k ≤ g.outs.length ∧ m = g.outs.length - k ∧ E = ⟨[(1, .int .i64 3), (2, .pointer (some ⟨0, 0, some 0⟩)), (4, .pointer (some ⟨1, 0, some 0⟩)), (5, .pointer (some ⟨2, 0, some 0⟩)), (6, sv e (sh same g.vals g.vals.length).2), (11, .int .i64 ((k : Nat) : Int))], [[sv p g.ins, sv q g.vals, sv r g.outs], [.slice none 0 0, .slice none 0 0, .slice none 0 0], [sv p1 g.ins, sv q1 (sh same g.vals g.vals.length).1, sv r1 (outsTo same g k)]]⟩ ∧ OwnG K H.next K0.next p1 q1 r1 ⟨g.ins, (sh same g.vals g.vals.length).1, outsTo same g k⟩ ∧ Out H.next K0.next K0 K ∧ Buf dInt K K0.next e (sh same g.vals g.vals.length).2)
      (E0 := ⟨[(1, .int .i64 3), (2, .pointer (some ⟨0, 0, some 0⟩)), (4, .pointer (some ⟨1, 0, some 0⟩)), (5, .pointer (some ⟨2, 0, some 0⟩)), (6, sv e (sh same g.vals g.vals.length).2), (11, .int .i64 ((0 : Nat) : Int))], [[sv p g.ins, sv q g.vals, sv r g.outs], [.slice none 0 0, .slice none 0 0, .slice none 0 0], [sv p1 g.ins, sv q1 (sh same g.vals g.vals.length).1, sv r1 (outsTo same g 0)]]⟩) ⟨0, Nat.zero_le _, rfl, rfl, by rw [hz]; exact og, o, be⟩ (by rw [hz]; (refine ⟨?_, ?_⟩ <;> repeat' first | exact trivial | exact congrArg (fun x => some (Value.int .i64 x)) (wrap_nat (by omega)) | exact sv_eq (by simp; done) | exact rfl | refine ⟨?_, ?_⟩ | fail)) ?_
    clear og o be eK hgK
    rintro m E K ⟨k, hk, rfl, rfl, og, o, be⟩
    have eK := Out.ext e0 o
    have hgK := hg.mono eK
    have holen : (outsTo same g k).length = g.outs.length := by simp [outsTo]; omega
    refine ⟨fun hlt => ?_, fun hge => ?_⟩
    · have hlt : k < g.outs.length := by simp at hlt; omega
      have hin := houts _ (List.getElem_mem hlt)
      obtain ⟨br, or_, rfl⟩ := rdI_some hg.outs (by omega)
      obtain ⟨be_, oe, rfl⟩ := rdI_some be.rd (by rw [ok.l2]; omega)
      obtain ⟨br1, or1, rfl⟩ := rdI_some og.o.rd (by show 0 < (outsTo same g k).length; omega)
      have c1 := at_cellI hgK.outs (j := (k : Int)) (by omega) (by omega)
      have hat : atV g.outs (k : Int) = g.outs[k] := by unfold atV; rw [show ((k : Int)).toNat = k from rfl, List.getElem?_eq_getElem hlt]; rfl
      rw [hat] at c1
      have c2 := at_cellI be.rd (j := g.outs[k]) hin.1 (by rw [ok.l2]; exact hin.2)
      obtain ⟨og', hst, hbut⟩ := og.setO rfl (i := k) (v := atV (sh same g.vals g.vals.length).2 g.outs[k]) (by show k < (outsTo same g k).length; omega) (off := or1 + k * 1) rfl rfl
      have hset : (outsTo same g k).set k (atV (sh same g.vals g.vals.length).2 g.outs[k]) = outsTo same g (k + 1) := outsTo_set hlt
      simp only [hset] at og'
      have hwk := wrap_nat (k := k) (by omega)
      have ol := hbut.out (lo := H.next) (hi := K0.next) (fun b o e => by cases e; exact ⟨(og.o.lt rfl).1, og.hi_.2.2 _ _ rfl⟩)
      have hl1 : (outsTo same g (k + 1)).length = (outsTo same g k).length := by simp [outsTo]; omega
      have hse : sv (some (⟨br1, or1, none⟩ : Addr)) (outsTo same g (k + 1)) = sv (some ⟨br1, or1, none⟩) (outsTo same g k) := by show Value.slice _ _ _ = Value.slice _ _ _; rw [hl1]
      refine ⟨.leaf [([0, 1, 2, 3, 4, 5, 6, 7, 8, 9, 10, 11], some 12), ([], none)] [], by kernel_rfl, ⟨by omega, by omega⟩, _, c1, ⟨hin.1, by rw [ok.l2]; exact hin.2⟩, _, c2, ⟨by omega, by rw [holen]; omega⟩, hst, ?_⟩
      refine ⟨g.outs.length - (k + 1), ⟨[(1, .int .i64 3), (2, .pointer (some ⟨0, 0, some 0⟩)), (4, .pointer (some ⟨1, 0, some 0⟩)), (5, .pointer (some ⟨2, 0, some 0⟩)), (6, sv (some ⟨be_, oe, none⟩) (sh same g.vals g.vals.length).2), (11, .int .i64 ((k + 1 : Nat) : Int))], [[sv p g.ins, sv q g.vals, sv (some ⟨br, or_, none⟩) g.outs], [.slice none 0 0, .slice none 0 0, .slice none 0 0], [sv p1 g.ins, sv q1 (sh same g.vals g.vals.length).1, sv (some ⟨br1, or1, none⟩) (outsTo same g (k + 1))]]⟩, by omega, ?_, k + 1, by omega, rfl, rfl, og', o.trans ol, be.out ol fun b o e => .inr (be.lt e).1⟩
      rw [hse]
      exact (by (refine ⟨?_, ?_⟩ <;> repeat' first | exact trivial | exact congrArg (fun x => some (Value.int .i64 x)) hwk | exact rfl | refine ⟨?_, ?_⟩ | fail))
    · have hk2 : k = g.outs.length := by simp at hge; omega
      have hall : outsTo same g k = g.outs.map (atV (sh same g.vals g.vals.length).2) := by subst hk2; simp [outsTo]
      have hsh : shared same g = ⟨g.ins, (sh same g.vals g.vals.length).1, outsTo same g k⟩ := by rw [hall]; rfl
      rw [hsh]
      exact ⟨p1, q1, r1, rfl, eK, og.i, og.s, og.o, ⟨fun b f e => Nat.lt_of_lt_of_le (og.hi_.1 b f e) o.next, fun b f e => Nat.lt_of_lt_of_le (og.hi_.2.1 b f e) o.next, fun b f e => Nat.lt_of_lt_of_le (og.hi_.2.2 b f e) o.next⟩, og.ne⟩
set_option maxHeartbeats 1000000 in
theorem l4equal4_ec (H : Heap) (p q r : Option Addr) (g : Graph) (hg : RdG H p q r g) (hv : validB g = true) :
    EC Try.prog 45 [gV p q r g, .int .i64 4] H (GR H (shared sameUnit g)) := by
  obtain ⟨h1, h2, h3⟩ := valid_lens hv
  have hops := valid_ops hv
  have houts := valid_outs hv
  have hsok : ∀ k, k ≤ g.vals.length → ShOK sameUnit g.vals k := sh_ok sameUnit_ok hops
  refine EC_fn ctx (fun _ => true) Try.func45 rfl rfl rfl ?_
  refine ⟨_, l2copy_ec H p q r g hg (by omega) (by omega) (by omega), ?_, fun v K hR => hR.no.elim⟩
  rintro _ K0 ⟨p1, q1, r1, hx, e0, og⟩
  cases hx
  have hpos : 0 < g.vals.length → ∃ b, q1 = some ⟨b, 0, none⟩ := fun hp => by
    exact bufV_some og.s hp
  generalize hsame : sameUnit = same at *
  have hq : True := trivial
  refine loop_ind ctx (fun _ => true) (fun m E K => ∃ (k : Nat) (e : Option Addr), k ≤ g.vals.length ∧ m = g.vals.length - k ∧ E = ⟨[(1, .int .i64 4), (2, .pointer (some ⟨0, 0, some 0⟩)), (4, .pointer (some ⟨1, 0, some 0⟩)), (5, .pointer (some ⟨2, 0, some 0⟩)), (6, sv e (sh same g.vals k).2), (7, .int .i64 (k : Int))], [[sv p g.ins, sv q g.vals, sv r g.outs], [.slice none 0 0, .slice none 0 0, .slice none 0 0], [sv p1 g.ins, sv q1 (cur g.vals same k), sv r1 g.outs]]⟩ ∧ OwnG K H.next K0.next p1 q1 r1 ⟨g.ins, cur g.vals same k, g.outs⟩ ∧ Out H.next K0.next K0 K ∧ Buf dInt K K0.next e (sh same g.vals k).2)
    (E0 := ⟨[(1, .int .i64 4), (2, .pointer (some ⟨0, 0, some 0⟩)), (4, .pointer (some ⟨1, 0, some 0⟩)), (5, .pointer (some ⟨2, 0, some 0⟩)), (6, sv none (sh same g.vals 0).2), (7, .int .i64 (0 : Int))], [[sv p g.ins, sv q g.vals, sv r g.outs], [.slice none 0 0, .slice none 0 0, .slice none 0 0], [sv p1 g.ins, sv q1 g.vals, sv r1 g.outs]]⟩) ⟨0, none, Nat.zero_le _, rfl, by rw [cur_zero]; rfl, by rw [cur_zero]; exact og, Out.of_ext (Ext.refl _), .nil⟩ (by (refine ⟨?_, ?_⟩ <;> repeat' first | exact trivial | exact congrArg (fun x => some (Value.int .i64 x)) (wrap_nat (by omega)) | exact sv_eq (by simp; done) | exact rfl | refine ⟨?_, ?_⟩ | fail)) ?_
  rintro m E K ⟨k, e, hk, rfl, rfl, og, o, be⟩
  have eK := Out.ext e0 o
  have hgK := hg.mono eK
  have ok := hsok k hk
  refine ⟨fun hlt => ?_, fun hge => ?_⟩
  · have hlt : k < g.vals.length := by simpa using hlt
    obtain ⟨bq, rfl⟩ := hpos (by omega)
    obtain ⟨bg, og_, rfl⟩ := rdV_some hg.vals (by omega)
    have hva := (valF_at hgK.vals (i := (k : Int)) (by omega) (by omega)).2.2.2.2
    have hvk : vAtI g.vals (k : Int) = g.vals[k] := by unfold vAtI; rw [show ((k : Int)).toNat = k from rfl, List.getElem?_eq_getElem hlt]; rfl
    rw [hvk] at hva
    have hin : OpsIn g.vals[k] k := hops k _ (List.getElem?_eq_getElem hlt)
    have hw : OpsIn (withV g.vals[k] (sh same g.vals k).2) k := withV_in (by rw [ok.l2]; exact hin) ok.eq (by rw [ok.l2]; exact Int.le_refl _)
    refine ⟨⟨by omega, by omega⟩, valV g.vals[k], hva, _, l4with_pc K e _ g.vals[k] be.rd (by rw [ok.l2]; exact hin), ?_, fun v K hR => by cases hR.1⟩
    rintro _ K ⟨hx, rfl⟩
    cases hx
    have hcl := cur_len ok hk
    obtain ⟨og', hst, hbut⟩ := og.setV rfl (i := k) (v := withV g.vals[k] (sh same g.vals k).2) (by show k < (cur g.vals same k).length; omega) (off := 0 + k * 6) rfl rfl
    have hcs := cur_set ok hlt
    simp only [hcs] at og'
    refine ⟨⟨by omega, by rw [hcl]; omega⟩, hst, ?_⟩
    have ok1 := hsok (k + 1) (by omega)
    have hcl1 := cur_len ok1 (by omega)
    have hsv : (sh same g.vals (k + 1)).2 = (sh same g.vals k).2 ++ [same (sh same g.vals k).1 (withV g.vals[k] (sh same g.vals k).2)] := by simp only [sh]; rw [List.getElem?_eq_getElem hlt]; rfl
    have ol := hbut.out (lo := H.next) (hi := K0.next) (fun b o e => by cases e; exact ⟨(og.s.lt rfl).1, og.hi_.2.1 _ _ rfl⟩)
    have o' := o.trans ol
    have be' : Buf dInt (K.stor bq (0 + k * 6) (vcells (withV g.vals[k] (sh same g.vals k).2))) K0.next e (sh same g.vals k).2 := be.out ol fun b o e => .inr (be.lt e).1
    have hcE : ∀ w : List Val, w.length = g.vals.length → sv (some (⟨bq, 0, none⟩ : Addr)) (cur g.vals same k) = sv (some ⟨bq, 0, none⟩) w := fun w hw => by show Value.slice _ _ _ = Value.slice _ _ _; rw [hcl, hw]
    generalize hwv : withV g.vals[k] (sh same g.vals k).2 = w at *
    have hwk := wrap_nat (k := k) (by omega)
    refine ⟨fun h => by simp at h, fun _ => ?_⟩
    rw [hcE _ hcl1]
    have hu := unit_cur ok hlt hw
    have hupc := l4unit_pc (K.stor bq (0 + k * 6) (vcells w)) p1 (some ⟨bq, 0, none⟩) r1 ⟨g.ins, cur g.vals same (k + 1), g.outs⟩ og'.s.rd w (hw.mono (by show (k : Int) ≤ ((cur g.vals same (k + 1)).length : Int); rw [hcl1]; omega))
    have hsn : sameUnit (sh same g.vals k).1 w = if 0 ≤ unitI (cur g.vals same (k + 1)) w then unitI (cur g.vals same (k + 1)) w else (k : Int) := by
      unfold sameUnit; rw [hu, ok.l1]
    refine ⟨fun h => by simp at h, .int .i64 0, fun h => by simp at h, fun h => by simp at h, fun _ => ?_⟩
    refine ⟨.int .i64 (unitI (cur g.vals same (k + 1)) w), fun _ => hupc, fun h81 => ?_, fun h81 => ?_⟩
    · have h8 : 0 ≤ unitI (cur g.vals same (k + 1)) w := by simpa using h81
      refine ⟨_, hupc, ?_, fun v K hR => by cases hR.1⟩
      rintro _ K9 ⟨hx, rfl⟩
      cases hx
      rw [if_pos h8] at hsn
      have hlast : same (sh same g.vals k).1 w = (unitI (cur g.vals same (k + 1)) w) := by rw [← hsame] at hsn ⊢; exact hsn
      have hb1 := be'.mono (Ext.push (K.stor bq (0 + k * 6) (vcells w)) (.cells (flat dInt [(unitI (cur g.vals same (k + 1)) w)]) 1 true))
      refine ⟨_, run_push _ _ _ _ (Nat.le_refl 1), by dsimp only; rw [ok.l2]; omega, by dsimp only; rw [ok.l2]; omega, _, hb1.own, ?_⟩
      refine ⟨g.vals.length - (k + 1), ⟨[(1, .int .i64 4), (2, .pointer (some ⟨0, 0, some 0⟩)), (4, .pointer (some ⟨1, 0, some 0⟩)), (5, .pointer (some ⟨2, 0, some 0⟩)), (6, sv (some ⟨(K.stor bq (0 + k * 6) (vcells w)).next + 1, 0, none⟩) (sh same g.vals (k + 1)).2), (7, .int .i64 ((k + 1 : Nat) : Int))], [[sv p g.ins, sv (some ⟨bg, og_, none⟩) g.vals, sv r g.outs], [.slice none 0 0, .slice none 0 0, .slice none 0 0], [sv p1 g.ins, sv (some ⟨bq, 0, none⟩) (cur g.vals same (k + 1)), sv r1 g.outs]]⟩, by omega, ?_, k + 1, some ⟨(K.stor bq (0 + k * 6) (vcells w)).next + 1, 0, none⟩, by omega, rfl, rfl, ?_, ?_, ?_⟩
      · rw [hsv, hlast, ← sv_appX _ _ ([(unitI (cur g.vals same (k + 1)) w)] : List Int) rfl]
        exact (by (refine ⟨?_, ?_⟩ <;> repeat' first | exact trivial | exact congrArg (fun x => some (Value.int .i64 x)) hwk | exact rfl | refine ⟨?_, ?_⟩ | fail))
      · exact ((og'.push1 _).killB hb1 (Nat.le_refl _)).push1 _
      · exact ((o'.pushX _).killX hb1 (Nat.le_refl _)).pushX _
      · rw [hsv, hlast]
        exact hb1.app rfl (by show K0.next ≤ (K.stor bq (0 + k * 6) (vcells w)).next + 1; have := o'.next; omega)
    · have h8 : ¬ 0 ≤ unitI (cur g.vals same (k + 1)) w := by simpa using h81
      rw [if_neg h8] at hsn
      have hlast : same (sh same g.vals k).1 w = (k : Int) := by rw [← hsame] at hsn ⊢; exact hsn
      have hb1 := be'.mono (Ext.push (K.stor bq (0 + k * 6) (vcells w)) (.cells (flat dInt [(k : Int)]) 1 true))
      refine ⟨_, run_push _ _ _ _ (Nat.le_refl 1), by dsimp only; rw [ok.l2]; omega, by dsimp only; rw [ok.l2]; omega, _, hb1.own, ?_⟩
      refine ⟨g.vals.length - (k + 1), ⟨[(1, .int .i64 4), (2, .pointer (some ⟨0, 0, some 0⟩)), (4, .pointer (some ⟨1, 0, some 0⟩)), (5, .pointer (some ⟨2, 0, some 0⟩)), (6, sv (some ⟨(K.stor bq (0 + k * 6) (vcells w)).next + 1, 0, none⟩) (sh same g.vals (k + 1)).2), (7, .int .i64 ((k + 1 : Nat) : Int))], [[sv p g.ins, sv (some ⟨bg, og_, none⟩) g.vals, sv r g.outs], [.slice none 0 0, .slice none 0 0, .slice none 0 0], [sv p1 g.ins, sv (some ⟨bq, 0, none⟩) (cur g.vals same (k + 1)), sv r1 g.outs]]⟩, by omega, ?_, k + 1, some ⟨(K.stor bq (0 + k * 6) (vcells w)).next + 1, 0, none⟩, by omega, rfl, rfl, ?_, ?_, ?_⟩
      · rw [hsv, hlast, ← sv_appX _ _ ([(k : Int)] : List Int) rfl]
        exact (by (refine ⟨?_, ?_⟩ <;> repeat' first | exact trivial | exact congrArg (fun x => some (Value.int .i64 x)) hwk | exact rfl | refine ⟨?_, ?_⟩ | fail))
      · exact ((og'.push1 _).killB hb1 (Nat.le_refl _)).push1 _
      · exact ((o'.pushX _).killX hb1 (Nat.le_refl _)).pushX _
      · rw [hsv, hlast]
        exact hb1.app rfl (by show K0.next ≤ (K.stor bq (0 + k * 6) (vcells w)).next + 1; have := o'.next; omega)
  · have hk' : k = g.vals.length := by simp at hge; omega
    subst hk'
    have hcur : cur g.vals same g.vals.length = (sh same g.vals g.vals.length).1 := by simp [cur]
    rw [hcur] at og ⊢
    have hz : outsTo same g 0 = g.outs := by simp [outsTo]
    refine loop_ind ctx (fun _ => true) (fun m E K => ∃ (k : Nat), k ≤ g.outs.length ∧ m = g.outs.length - k ∧ E = ⟨[(1, .int .i64 4), (2, .pointer (some ⟨0, 0, some 0⟩)), (4, .pointer (some ⟨1, 0, some 0⟩)), (5, .pointer (some ⟨2, 0, some 0⟩)), (6, sv e (sh same g.vals g.vals.length).2), (11, .int .i64 ((k : Nat) : Int))], [[sv p g.ins, sv q g.vals, sv r g.outs], [.slice none 0 0, .slice none 0 0, .slice none 0 0], [sv p1 g.ins, sv q1 (sh same g.vals g.vals.length).1, sv r1 (outsTo same g k)]]⟩ ∧ OwnG K H.next K0.next p1 q1 r1 ⟨g.ins, (sh same g.vals g.vals.length).1, outsTo same g k⟩ ∧ Out H.next K0.next K0 K ∧ Buf dInt K K0.next e (sh same g.vals g.vals.length).2)
      (E0 := ⟨[(1, .int .i64 4), (2, .pointer (some ⟨0, 0, some 0⟩)), (4, .pointer (some ⟨1, 0, some 0⟩)), (5, .pointer (some ⟨2, 0, some 0⟩)), (6, sv e (sh same g.vals g.vals.length).2), (11, .int .i64 ((0 : Nat) : Int))], [[sv p g.ins, sv q g.vals, sv r g.outs], [.slice none 0 0, .slice none 0 0, .slice none 0 0], [sv p1 g.ins, sv q1 (sh same g.vals g.vals.length).1, sv r1 (outsTo same g 0)]]⟩) ⟨0, Nat.zero_le _, rfl, rfl, by rw [hz]; exact og, o, be⟩ (by rw [hz]; (refine ⟨?_, ?_⟩ <;> repeat' first | exact trivial | exact congrArg (fun x => some (Value.int .i64 x)) (wrap_nat (by omega)) | exact sv_eq (by simp; done) | exact rfl | refine ⟨?_, ?_⟩ | fail)) ?_
    clear og o be eK hgK
    rintro m E K ⟨k, hk, rfl, rfl, og, o, be⟩
    have eK := Out.ext e0 o
    have hgK := hg.mono eK
    have holen : (outsTo same g k).length = g.outs.length := by simp [outsTo]; omega
    refine ⟨fun hlt => ?_, fun hge => ?_⟩
    · have hlt : k < g.outs.length := by simp at hlt; omega
      have hin := houts _ (List.getElem_mem hlt)
      obtain ⟨br, or_, rfl⟩ := rdI_some hg.outs (by omega)
      obtain ⟨be_, oe, rfl⟩ := rdI_some be.rd (by rw [ok.l2]; omega)
      obtain ⟨br1, or1, rfl⟩ := rdI_some og.o.rd (by show 0 < (outsTo same g k).length; omega)
      have c1 := at_cellI hgK.outs (j := (k : Int)) (by omega) (by omega)
      have hat : atV g.outs (k : Int) = g.outs[k] := by unfold atV; rw [show ((k : Int)).toNat = k from rfl, List.getElem?_eq_getElem hlt]; rfl
      rw [hat] at c1
      have c2 := at_cellI be.rd (j := g.outs[k]) hin.1 (by rw [ok.l2]; exact hin.2)
      obtain ⟨og', hst, hbut⟩ := og.setO rfl (i := k) (v := atV (sh same g.vals g.vals.length).2 g.outs[k]) (by show k < (outsTo same g k).length; omega) (off := or1 + k * 1) rfl rfl
      have hset : (outsTo same g k).set k (atV (sh same g.vals g.vals.length).2 g.outs[k]) = outsTo same g (k + 1) := outsTo_set hlt
      simp only [hset] at og'
      have hwk := wrap_nat (k := k) (by omega)
      have ol := hbut.out (lo := H.next) (hi := K0.next) (fun b o e => by cases e; exact ⟨(og.o.lt rfl).1, og.hi_.2.2 _ _ rfl⟩)
      have hl1 : (outsTo same g (k + 1)).length = (outsTo same g k).length := by simp [outsTo]; omega
      have hse : sv (some (⟨br1, or1, none⟩ : Addr)) (outsTo same g (k + 1)) = sv (some ⟨br1, or1, none⟩) (outsTo same g k) := by show Value.slice _ _ _ = Value.slice _ _ _; rw [hl1]
      refine ⟨.leaf [([0, 1, 2, 3, 4, 5, 6, 7, 8, 9, 10, 11], some 12), ([], none)] [], by kernel_rfl, ⟨by omega, by omega⟩, _, c1, ⟨hin.1, by rw [ok.l2]; exact hin.2⟩, _, c2, ⟨by omega, by rw [holen]; omega⟩, hst, ?_⟩
      refine ⟨g.outs.length - (k + 1), ⟨[(1, .int .i64 4), (2, .pointer (some ⟨0, 0, some 0⟩)), (4, .pointer (some ⟨1, 0, some 0⟩)), (5, .pointer (some ⟨2, 0, some 0⟩)), (6, sv (some ⟨be_, oe, none⟩) (sh same g.vals g.vals.length).2), (11, .int .i64 ((k + 1 : Nat) : Int))], [[sv p g.ins, sv q g.vals, sv (some ⟨br, or_, none⟩) g.outs], [.slice none 0 0, .slice none 0 0, .slice none 0 0], [sv p1 g.ins, sv q1 (sh same g.vals g.vals.length).1, sv (some ⟨br1, or1, none⟩) (outsTo same g (k + 1))]]⟩, by omega, ?_, k + 1, by omega, rfl, rfl, og', o.trans ol, be.out ol fun b o e => .inr (be.lt e).1⟩
      rw [hse]
      exact (by (refine ⟨?_, ?_⟩ <;> repeat' first | exact trivial | exact congrArg (fun x => some (Value.int .i64 x)) hwk | exact rfl | refine ⟨?_, ?_⟩ | fail))
    · have hk2 : k = g.outs.length := by simp at hge; omega
      have hall : outsTo same g k = g.outs.map (atV (sh same g.vals g.vals.length).2) := by subst hk2; simp [outsTo]
      have hsh : shared same g = ⟨g.ins, (sh same g.vals g.vals.length).1, outsTo same g k⟩ := by rw [hall]; rfl
      rw [hsh]
      exact ⟨p1, q1, r1, rfl, eK, og.i, og.s, og.o, ⟨fun b f e => Nat.lt_of_lt_of_le (og.hi_.1 b f e) o.next, fun b f e => Nat.lt_of_lt_of_le (og.hi_.2.1 b f e) o.next, fun b f e => Nat.lt_of_lt_of_le (og.hi_.2.2 b f e) o.next⟩, og.ne⟩
end Go.Proofs.Ytjmobjiaoklfdaa
