/- l2jvp: the reference's forward derivative, walked. Written by genjve.py. Conditions: the graph is valid, the indexes are its own. -/
import Derived.Test.YtimenmejmofkaaaJvd
set_option linter.unusedVariables false
set_option linter.unusedSimpArgs false
namespace Go.Proofs.Ytimenmejmofkaaa
open Go.Am

theorem OwnG.grow {K : Heap} {lo hi hi' : Nat} {p q r : Option Addr} {g : Graph} (og : OwnG K lo hi p q r g) (h : hi ≤ hi') : OwnG K lo hi' p q r g :=
  ⟨og.i, og.s, og.o, ⟨fun b f e => Nat.lt_of_lt_of_le (og.hi_.1 b f e) h, fun b f e => Nat.lt_of_lt_of_le (og.hi_.2.1 b f e) h, fun b f e => Nat.lt_of_lt_of_le (og.hi_.2.2 b f e) h⟩, og.ne⟩
def fr (mv : List Int) (v : Val) (k : Nat) : List Int := [if 0 < k then jf mv v 0 else -1, if 1 < k then jf mv v 1 else -1, if 2 < k then jf mv v 2 else -1]
def so (mv : List Int) (v : Val) (k : Nat) : Bool := decide (0 < k ∧ 0 ≤ jf mv v 0) || decide (1 < k ∧ 0 ≤ jf mv v 1) || decide (2 < k ∧ 0 ≤ jf mv v 2)
theorem fr_set (mv : List Int) (v : Val) {k : Nat} (hk : k < 3) : (fr mv v k).set k (jf mv v k) = fr mv v (k + 1) := by
  have : k = 0 ∨ k = 1 ∨ k = 2 := by omega
  rcases this with rfl | rfl | rfl <;> simp [fr]
theorem fr_get (mv : List Int) (v : Val) {k : Nat} (hk : k < 3) : (fr mv v (k + 1))[k]? = some (jf mv v k) := by
  have : k = 0 ∨ k = 1 ∨ k = 2 := by omega
  rcases this with rfl | rfl | rfl <;> simp [fr]
theorem so_succ (mv : List Int) (v : Val) {k : Nat} (hk : k < 3) : so mv v (k + 1) = (so mv v k || decide (0 ≤ jf mv v k)) := by
  have : k = 0 ∨ k = 1 ∨ k = 2 := by omega
  rcases this with rfl | rfl | rfl <;> simp [so]
theorem jf_none {mv : List Int} {v : Val} {k : Int} (h : opnd v.op ≤ k) : jf mv v k = -1 := by unfold jf; rw [if_neg (by omega)]
theorem fr_all (mv : List Int) (v : Val) : fr mv v (opnd v.op).toNat = [jf mv v 0, jf mv v 1, jf mv v 2] := by
  rcases opnd4 v.op with e | e | e | e <;> simp [fr, e, jf_none (mv := mv) (v := v) (k := 0), jf_none (mv := mv) (v := v) (k := 1), jf_none (mv := mv) (v := v) (k := 2)]
theorem so_all (mv : List Int) (v : Val) : so mv v (opnd v.op).toNat = jsome mv v := by
  rcases opnd4 v.op with e | e | e | e <;> simp [so, jsome, e, jf_none (mv := mv) (v := v) (k := 0), jf_none (mv := mv) (v := v) (k := 1), jf_none (mv := mv) (v := v) (k := 2)] <;> rw [Bool.eq_iff_iff] <;> simp [or_assoc]
/-- The graph with the move of s, and where that is. -/
def jvpP (vals : List Val) (s x : Nat) (t : Int) : List Val × Int :=
  if x ≤ s ∧ 0 ≤ atV (jr vals x t (s - x)).2 s then ((jr vals x t (s - x)).1, atV (jr vals x t (s - x)).2 s) else ((jr vals x t (s - x)).1 ++ [opV 1 (lenAt vals s) 0 0 0], ((jr vals x t (s - x)).1.length : Int))
def JR (H : Heap) (g : Graph) (y : List Val × Int) (e : AEnd) (K : Heap) : Prop := ∃ p q r, e = .ret (.tuple #[gV p q r ⟨g.ins, y.1, g.outs⟩, .int .i64 y.2]) ∧ Ext H K ∧ OwnG K H.next K.next p q r ⟨g.ins, y.1, g.outs⟩
theorem JR.no {H K : Heap} {g : Graph} {y : List Val × Int} {v : Value} (h : JR H g y (.pan v) K) : False := by obtain ⟨_, _, _, h, _⟩ := h; cases h
theorem opnd_field {v : Val} {n : Int} (h : OpsIn v n) {k : Int} (h0 : 0 ≤ k) (hk : k < opnd v.op) : 0 ≤ fieldV v k ∧ fieldV v k < n := by
  have h3 := opnd3 v.op
  have hk3 : k = 0 ∨ k = 1 ∨ k = 2 := by omega
  rcases hk3 with rfl | rfl | rfl
  · simpa [fieldV] using h.a (by omega)
  · simpa [fieldV] using h.b (by omega)
  · simpa [fieldV] using h.c (by omega)
theorem valid_opv {g : Graph} (h : validB g = true) {i : Nat} {v : Val} (hv : g.vals[i]? = some v) : 0 ≤ v.op ∧ v.op ≤ 13 := by
  simp only [validB, Bool.and_eq_true, decide_eq_true_eq] at h
  obtain ⟨⟨⟨⟨⟨⟨v1, v2⟩, v3⟩, v4⟩, v5⟩, v6⟩, v7⟩ := h
  rw [List.all_eq_true] at v5
  have hi : i < g.vals.length := (List.getElem?_eq_some_iff.1 hv).1
  have := v5 i (List.mem_range.2 hi)
  rw [vAt_get hv] at this
  simp only [vokB, Bool.and_eq_true, decide_eq_true_eq] at this
  exact this.1.1
theorem lenAt_v {vs : List Val} {o : Int} {v : Val} (h : vAtI vs o = v) (h0 : 0 ≤ o) (h1 : o < vs.length) : lenAt vs o = v.len := by
  unfold lenAt; rw [vAtI_get h0 h1, h]; rfl
theorem but_own {K K' : Heap} {lo hi : Nat} {p q r a : Option Addr} {g : Graph} (og : OwnG K lo hi p q r g) (hb : But a K K') (h1 : ∀ b o, a = some ⟨b, o, none⟩ → p ≠ some ⟨b, 0, none⟩ ∧ q ≠ some ⟨b, 0, none⟩ ∧ r ≠ some ⟨b, 0, none⟩) : OwnG K' lo hi p q r g :=
  ⟨og.i.but hb fun b o e => (h1 b o e).1, og.s.but hb fun b o e => (h1 b o e).2.1, og.o.but hb fun b o e => (h1 b o e).2.2, og.hi_, og.ne⟩
set_option maxHeartbeats 2000000 in
theorem l2jvp_ec (H : Heap) (p q r : Option Addr) (g : Graph) (s x : Nat) (t : Int) (hg : RdG H p q r g) (hv : validB g = true) (hs : s < g.vals.length) (hx : x < g.vals.length) (ht : 0 ≤ t ∧ t < g.vals.length) :
    EC Try.prog 14 [gV p q r g, .int .i64 (s : Int), .int .i64 (x : Int), .int .i64 t] H (JR H g (jvpP g.vals s x t)) := by
  obtain ⟨h1, h2, h3⟩ := valid_lens hv
  have hops := valid_ops hv
  refine EC_fn ctx (fun _ => true) Try.func14 rfl rfl rfl ?_
  refine ⟨_, l2copy_ec H p q r g hg (by omega) (by omega) (by omega), ?_, fun v K hR => hR.no.elim⟩
  rintro _ K0 ⟨p1, q1, r1, hx', e0, og⟩
  cases hx'
  have n0 := e0.next
  obtain ⟨bq, hq⟩ := bufq_some og.s (by omega)
  subst hq
  have hls := (valF_at og.s.rd (i := (s : Int)) (by omega) (by omega)).2.1
  rw [← lenAt_v (vs := g.vals) (o := (s : Int)) rfl (by omega) (by omega)] at hls
  refine ⟨⟨by omega, by omega⟩, _, hls, ⟨by omega, by omega, by omega, by dsimp only; omega⟩, ?_⟩
  -- all moves are none
  refine loop_ind ctx (fun _ => true) (fun m E K => ∃ k, k ≤ g.vals.length ∧ m = g.vals.length - k ∧ E = ⟨[(1, .int .i64 (s : Int)), (2, .int .i64 (x : Int)), (3, .int .i64 t), (4, .pointer (some ⟨0, 0, some 0⟩)), (8, .pointer (some ⟨1, 0, some 0⟩)), (10, .int .i64 (lenAt g.vals s)), (11, .slice (some ⟨K0.next, 0, none⟩) g.vals.length g.vals.length), (12, .int .i64 (k : Int))], [[sv p1 g.ins, sv (some ⟨bq, 0, none⟩) g.vals, sv r1 g.outs], [.slice none 0 0, .slice none 0 0, .slice none 0 0]]⟩ ∧ K = K0.push (.cells (flat dInt (List.replicate k (-1) ++ List.replicate (g.vals.length - k) 0)) dInt.sz true))
    (E0 := ⟨[(1, .int .i64 (s : Int)), (2, .int .i64 (x : Int)), (3, .int .i64 t), (4, .pointer (some ⟨0, 0, some 0⟩)), (8, .pointer (some ⟨1, 0, some 0⟩)), (10, .int .i64 (lenAt g.vals s)), (11, .slice (some ⟨K0.next, 0, none⟩) g.vals.length g.vals.length), (12, .int .i64 ((0 : Nat) : Int))], [[sv p1 g.ins, sv (some ⟨bq, 0, none⟩) g.vals, sv r1 g.outs], [.slice none 0 0, .slice none 0 0, .slice none 0 0]]⟩) ⟨0, Nat.zero_le _, rfl, rfl, ?_⟩ (by (refine ⟨?_, ?_⟩ <;> repeat' first | exact trivial | exact congrArg (fun x => some (Value.int .i64 x)) (wrap_nat (by omega)) | exact sv_eq (by simp; done) | exact rfl | refine ⟨?_, ?_⟩ | fail)) ?_
  · congr 2; exact flat_rep dInt 0 [.int .i64 0] rfl g.vals.length
  rintro m E K ⟨k, hk, rfl, rfl, hK⟩
  refine ⟨fun hlt => ?_, fun hge => ?_⟩
  · have hlt : k < g.vals.length := by simpa using hlt
    have hlt' : k < (List.replicate k (-1 : Int) ++ List.replicate (g.vals.length - k) 0).length := by simp; omega
    subst hK
    have hwk := wrap_nat (k := k) (by omega)
    refine ⟨⟨by omega, by omega⟩, stOK_elem dInt K0 _ hlt' (Nat.zero_add _) rfl, ?_⟩
    refine ⟨g.vals.length - (k + 1), ⟨[(1, .int .i64 (s : Int)), (2, .int .i64 (x : Int)), (3, .int .i64 t), (4, .pointer (some ⟨0, 0, some 0⟩)), (8, .pointer (some ⟨1, 0, some 0⟩)), (10, .int .i64 (lenAt g.vals s)), (11, .slice (some ⟨K0.next, 0, none⟩) g.vals.length g.vals.length), (12, .int .i64 ((k + 1 : Nat) : Int))], [[sv p1 g.ins, sv (some ⟨bq, 0, none⟩) g.vals, sv r1 g.outs], [.slice none 0 0, .slice none 0 0, .slice none 0 0]]⟩, by omega, (by (refine ⟨?_, ?_⟩ <;> repeat' first | exact trivial | exact congrArg (fun x => some (Value.int .i64 x)) hwk | exact congrArg (fun x => some (Value.bool x)) hsk | exact rfl | refine ⟨?_, ?_⟩ | fail)), k + 1, by omega, rfl, rfl, ?_⟩
    refine (stor_elem dInt K0 _ (-1) hlt' (Nat.zero_add _) rfl).trans ?_
    congr 2
    rw [List.set_append, if_neg (by simp), List.length_replicate, Nat.sub_self, show g.vals.length - k = (g.vals.length - (k + 1)) + 1 by omega, List.replicate_succ, List.set_cons_zero, List.replicate_succ', List.append_assoc]
    rfl
  have hk : k = g.vals.length := by simp at hge; omega
  subst hk
  have hxl : x < (List.replicate g.vals.length (-1 : Int) ++ List.replicate (g.vals.length - g.vals.length) 0).length := by simp; omega
  subst hK
  refine ⟨⟨by omega, by omega⟩, stOK_elem dInt K0 _ hxl (Nat.zero_add _) rfl, ?_⟩
  have hset : (K0.push (.cells (flat dInt (List.replicate g.vals.length (-1 : Int) ++ List.replicate (g.vals.length - g.vals.length) 0)) dInt.sz true)).stor K0.next (0 + ((x : Int)).toNat * 1) [.int .i64 t] = K0.push (.cells (flat dInt (jr g.vals x t 0).2) dInt.sz true) := by
    refine (stor_elem dInt K0 _ t hxl (by show 0 + x * 1 = x * 1; omega) rfl).trans ?_
    congr 3
    simp [jr]
  have hA : OwnG ((K0.push (.cells (flat dInt (List.replicate g.vals.length (-1 : Int) ++ List.replicate (g.vals.length - g.vals.length) 0)) dInt.sz true)).stor K0.next (0 + ((x : Int)).toNat * 1) [.int .i64 t]) H.next (K0.next + 1) p1 (some ⟨bq, 0, none⟩) r1 g := by rw [hset]; exact (og.mono (Ext.push _ _)).grow (Nat.le_succ _)
  have hB : Buf dInt ((K0.push (.cells (flat dInt (List.replicate g.vals.length (-1 : Int) ++ List.replicate (g.vals.length - g.vals.length) 0)) dInt.sz true)).stor K0.next (0 + ((x : Int)).toNat * 1) [.int .i64 t]) H.next (some ⟨K0.next, 0, none⟩) (jr g.vals x t 0).2 := by rw [hset]; exact .blk n0 (push_blk _ _)
  have hC : Ext H ((K0.push (.cells (flat dInt (List.replicate g.vals.length (-1 : Int) ++ List.replicate (g.vals.length - g.vals.length) 0)) dInt.sz true)).stor K0.next (0 + ((x : Int)).toNat * 1) [.int .i64 t]) := by rw [hset]; exact e0.push' _
  clear hset
  have hwk := wrap_nat (k := x) (by omega)
  refine loop_ind ctx (fun _ => true) (fun m E K => ∃ (d : Nat) (q' : Option Addr), d ≤ s - x ∧ m = s - x - d ∧ E = ⟨[(1, .int .i64 (s : Int)), (2, .int .i64 (x : Int)), (4, .pointer (some ⟨0, 0, some 0⟩)), (8, .pointer (some ⟨1, 0, some 0⟩)), (10, .int .i64 (lenAt g.vals s)), (11, .slice (some ⟨K0.next, 0, none⟩) g.vals.length g.vals.length), (13, .int .i64 ((x + d + 1 : Nat) : Int))], [[sv p1 g.ins, sv q' (jr g.vals x t d).1, sv r1 g.outs], [.slice none 0 0, .slice none 0 0, .slice none 0 0]]⟩ ∧ OwnG K H.next K.next p1 q' r1 ⟨g.ins, (jr g.vals x t d).1, g.outs⟩ ∧ Buf dInt K H.next (some ⟨K0.next, 0, none⟩) (jr g.vals x t d).2 ∧ (∀ o, q' ≠ some ⟨K0.next, o, none⟩) ∧ Ext H K)
    (E0 := ⟨[(1, .int .i64 (s : Int)), (2, .int .i64 (x : Int)), (4, .pointer (some ⟨0, 0, some 0⟩)), (8, .pointer (some ⟨1, 0, some 0⟩)), (10, .int .i64 (lenAt g.vals s)), (11, .slice (some ⟨K0.next, 0, none⟩) g.vals.length g.vals.length), (13, .int .i64 ((x + 0 + 1 : Nat) : Int))], [[sv p1 g.ins, sv (some ⟨bq, 0, none⟩) (jr g.vals x t 0).1, sv r1 g.outs], [.slice none 0 0, .slice none 0 0, .slice none 0 0]]⟩) ⟨0, some ⟨bq, 0, none⟩, Nat.zero_le _, rfl, rfl, hA, hB, fun o e => by cases e; have := (og.s.lt rfl).2; omega, hC⟩ (by (refine ⟨?_, ?_⟩ <;> repeat' first | exact trivial | exact congrArg (fun x => some (Value.int .i64 x)) hwk | exact congrArg (fun x => some (Value.bool x)) hsk | exact rfl | refine ⟨?_, ?_⟩ | fail)) ?_
  rintro m E K ⟨d, q', hd, rfl, rfl, og', bm, hqm, eK⟩
  by_cases hsx : x + d + 1 ≤ s
  · refine ⟨fun _ => ?_, fun h => by simp at h; omega⟩
    have ok := jr_ok hv hx ht d (by omega)
    obtain ⟨ee, hpre, hel, _⟩ := ok.pre
    have hvl : g.vals.length ≤ (jr g.vals x t d).1.length ∧ (jr g.vals x t d).1.length ≤ 10000 := by rw [hpre]; simp; omega
    have hvi : vAtI (jr g.vals x t d).1 ((x + d + 1 : Nat) : Int) = vAtI g.vals ((x + d + 1 : Nat) : Int) := by
      rw [hpre]; unfold vAtI; rw [List.getElem?_append_left (by omega)]
    have hin : OpsIn (vAtI g.vals ((x + d + 1 : Nat) : Int)) ((x + d + 1 : Nat) : Int) := hops (x + d + 1) _ (vAtI_get (vals := g.vals) (i := ((x + d + 1 : Nat) : Int)) (by omega) (by omega))
    have hmlen : (jr g.vals x t d).2.length = g.vals.length := ok.len
    have hjr : jr g.vals x t (d + 1) = if jsome (jr g.vals x t d).2 (vAtI g.vals ((x + d + 1 : Nat) : Int)) then
      ((moveP (jr g.vals x t d).1 (vAtI g.vals ((x + d + 1 : Nat) : Int)) ((x + d + 1 : Nat) : Int) (jf (jr g.vals x t d).2 (vAtI g.vals ((x + d + 1 : Nat) : Int)) 0) (jf (jr g.vals x t d).2 (vAtI g.vals ((x + d + 1 : Nat) : Int)) 1) (jf (jr g.vals x t d).2 (vAtI g.vals ((x + d + 1 : Nat) : Int)) 2)).1,
       (jr g.vals x t d).2.set (x + d + 1) (moveP (jr g.vals x t d).1 (vAtI g.vals ((x + d + 1 : Nat) : Int)) ((x + d + 1 : Nat) : Int) (jf (jr g.vals x t d).2 (vAtI g.vals ((x + d + 1 : Nat) : Int)) 0) (jf (jr g.vals x t d).2 (vAtI g.vals ((x + d + 1 : Nat) : Int)) 1) (jf (jr g.vals x t d).2 (vAtI g.vals ((x + d + 1 : Nat) : Int)) 2)).2)
      else jr g.vals x t d := rfl
    have hvo := (valid_opv hv (vAtI_get (vals := g.vals) (i := ((x + d + 1 : Nat) : Int)) (by omega) (by omega))).1
    obtain ⟨bq', hq'⟩ := bufq_some og'.s (by show 0 < (jr g.vals x t d).1.length; omega)
    subst hq'
    generalize hst1 : (jr g.vals x t d).1 = vs at *
    generalize hst2 : (jr g.vals x t d).2 = mv at *
    generalize hvv : vAtI g.vals ((x + d + 1 : Nat) : Int) = v at *
    have hlb : ((x + d + 1 : Nat) : Int) < vs.length := by omega
    refine loop_ind ctx (fun _ => true) (fun m E KX => ∃ k : Nat, k ≤ (opnd v.op).toNat ∧ m = (opnd v.op).toNat - k ∧ E = ⟨[(1, .int .i64 (s : Int)), (2, .int .i64 (x : Int)), (4, .pointer (some ⟨0, 0, some 0⟩)), (8, .pointer (some ⟨1, 0, some 0⟩)), (10, .int .i64 (lenAt g.vals s)), (11, .slice (some ⟨K0.next, 0, none⟩) g.vals.length g.vals.length), (13, .int .i64 ((x + d + 1 : Nat) : Int)), (14, .slice (some ⟨K.next, 0, none⟩) 3 3), (15, .bool (so mv v k)), (16, .int .i64 (k : Int))], [[sv p1 g.ins, sv (some ⟨bq', 0, none⟩) vs, sv r1 g.outs], [.slice none 0 0, .slice none 0 0, .slice none 0 0]]⟩ ∧ KX = K.push (.cells (flat dInt (fr mv v k)) dInt.sz true))
      (E0 := ⟨[(1, .int .i64 (s : Int)), (2, .int .i64 (x : Int)), (4, .pointer (some ⟨0, 0, some 0⟩)), (8, .pointer (some ⟨1, 0, some 0⟩)), (10, .int .i64 (lenAt g.vals s)), (11, .slice (some ⟨K0.next, 0, none⟩) g.vals.length g.vals.length), (13, .int .i64 ((x + d + 1 : Nat) : Int)), (14, .slice (some ⟨K.next, 0, none⟩) 3 3), (15, .bool (so mv v 0)), (16, .int .i64 ((0 : Nat) : Int))], [[sv p1 g.ins, sv (some ⟨bq', 0, none⟩) vs, sv r1 g.outs], [.slice none 0 0, .slice none 0 0, .slice none 0 0]]⟩) ⟨0, Nat.zero_le _, rfl, rfl, rfl⟩ (by (refine ⟨?_, ?_⟩ <;> repeat' first | exact trivial | exact congrArg (fun x => some (Value.int .i64 x)) (wrap_nat (by omega)) | exact sv_eq (by simp; done) | exact rfl | refine ⟨?_, ?_⟩ | fail)) ?_
    rintro m E KX ⟨k, hk, rfl, rfl, rfl⟩
    have h3o := opnd3 v.op
    have ogX := og'.mono (Ext.push K (.cells (flat dInt (fr mv v k)) dInt.sz true))
    obtain ⟨c0, _, _, _, hva⟩ := valF_at ogX.s.rd (i := ((x + d + 1 : Nat) : Int)) (by omega) hlb
    rw [hvi] at c0 hva
    refine ⟨⟨by omega, hlb⟩, _, c0, _, l1operands_pc _ _, ?_, fun v K hR => by cases hR.1⟩
    rintro _ K1 ⟨hxx, rfl⟩
    cases hxx
    refine ⟨fun hlt => ?_, fun hge => ?_⟩
    · have hlt : k < (opnd v.op).toNat := by simp at hlt; omega
      have hk3 : k < 3 := by omega
      have hfld := opnd_field hin (k := (k : Int)) (by omega) (by omega)
      have hjf : jf mv v k = atV mv (fieldV v k) := by unfold jf; rw [if_pos (by omega)]
      have bmX := bm.mono (Ext.push K (.cells (flat dInt (fr mv v k)) dInt.sz true))
      have hcm := at_cellI bmX.rd (j := fieldV v k) hfld.1 (by rw [hmlen]; omega)
      rw [← hjf] at hcm
      have hk' : k < (fr mv v k).length := by simp [fr]; omega
      refine ⟨⟨by omega, hlb⟩, valV v, hva, _, l1field_pc _ v k, ?_, fun v K hR => by cases hR.1⟩
      rintro _ K1 ⟨hxx, rfl⟩
      cases hxx
      refine ⟨⟨hfld.1, by omega⟩, _, hcm, ⟨by omega, by omega⟩, stOK_elem dInt K _ hk' (Nat.zero_add _) rfl, ?_⟩
      have hsx2 : (K.push (.cells (flat dInt (fr mv v k)) dInt.sz true)).stor K.next (0 + ((k : Nat) : Int).toNat * 1) [.int .i64 (jf mv v k)] = K.push (.cells (flat dInt (fr mv v (k + 1))) dInt.sz true) := by
        refine (stor_elem dInt K _ (jf mv v k) hk' (by show 0 + k * 1 = k * 1; omega) rfl).trans ?_
        rw [fr_set mv v hk3]
      have hwk := wrap_nat (k := k) (by omega)
      have hck : ((K.push (.cells (flat dInt (fr mv v k)) dInt.sz true)).stor K.next (0 + ((k : Nat) : Int).toNat * 1) [.int .i64 (jf mv v k)]).cell? K.next (0 + ((k : Nat) : Int).toNat * 1) = some (.int .i64 (jf mv v k)) := by
        rw [hsx2]
        obtain ⟨b', o', w1, w2⟩ := (Rd.push (d := dInt) (xs := fr mv v (k + 1)) K true).cell (fr_get mv v hk3)
        cases w1; exact w2
      have hsk : cond (so mv v k) true (decide (jf mv v k ≥ 0)) = so mv v (k + 1) := by rw [so_succ mv v hk3]; cases so mv v k <;> simp
      refine ⟨fun _ => ⟨by omega, by omega⟩, _, fun _ => hck, ?_⟩
      refine ⟨(opnd v.op).toNat - (k + 1), ⟨[(1, .int .i64 (s : Int)), (2, .int .i64 (x : Int)), (4, .pointer (some ⟨0, 0, some 0⟩)), (8, .pointer (some ⟨1, 0, some 0⟩)), (10, .int .i64 (lenAt g.vals s)), (11, .slice (some ⟨K0.next, 0, none⟩) g.vals.length g.vals.length), (13, .int .i64 ((x + d + 1 : Nat) : Int)), (14, .slice (some ⟨K.next, 0, none⟩) 3 3), (15, .bool (so mv v (k + 1))), (16, .int .i64 ((k + 1 : Nat) : Int))], [[sv p1 g.ins, sv (some ⟨bq', 0, none⟩) vs, sv r1 g.outs], [.slice none 0 0, .slice none 0 0, .slice none 0 0]]⟩, by omega, (by (refine ⟨?_, ?_⟩ <;> repeat' first | exact trivial | exact congrArg (fun x => some (Value.int .i64 x)) hwk | exact congrArg (fun x => some (Value.bool x)) hsk | exact rfl | refine ⟨?_, ?_⟩ | fail)), k + 1, by omega, rfl, rfl, hsx2⟩
    · have hk : k = (opnd v.op).toNat := by simp at hge; omega
      subst hk
      have hfa := fr_all mv v
      have hsa := so_all mv v
      have hbX : Buf dInt (K.push (.cells (flat dInt (fr mv v (opnd v.op).toNat)) dInt.sz true)) K.next (some ⟨K.next, 0, none⟩) (fr mv v (opnd v.op).toNat) := .blk (Nat.le_refl _) (push_blk _ _)
      have hfl : (fr mv v (opnd v.op).toNat).length = 3 := rfl
      have hc0 := at_cellI hbX.rd (j := 0) (by omega) (by omega)
      have hc1 := at_cellI hbX.rd (j := 1) (by omega) (by omega)
      have hc2 := at_cellI hbX.rd (j := 2) (by omega) (by omega)
      rw [show atV (fr mv v (opnd v.op).toNat) 0 = jf mv v 0 by rw [hfa]; rfl] at hc0
      rw [show atV (fr mv v (opnd v.op).toNat) 1 = jf mv v 1 by rw [hfa]; rfl] at hc1
      rw [show atV (fr mv v (opnd v.op).toNat) 2 = jf mv v 2 by rw [hfa]; rfl] at hc2
      have bmX := bm.mono (Ext.push K (.cells (flat dInt (fr mv v (opnd v.op).toNat)) dInt.sz true))
      have nX : (K.push (.cells (flat dInt (fr mv v (opnd v.op).toNat)) dInt.sz true)).next = K.next + 1 := rfl
      have eX : Ext H (K.push (.cells (flat dInt (fr mv v (opnd v.op).toNat)) dInt.sz true)) := eK.push' _
      clear hbX
      generalize (K.push (.cells (flat dInt (fr mv v (opnd v.op).toNat)) dInt.sz true)) = KX at *
      have hwk := wrap_nat (k := x + d + 1) (by omega)
      refine ⟨fun hy => ?_, fun hn => ?_⟩
      · have hj : jsome mv v = true := by rw [← hsa]; exact hy
        rw [if_pos hj] at hjr
        have hopv : 2 ≤ v.op := by
          rcases Int.lt_or_le v.op 2 with q | q
          · exfalso
            have h0 : opnd v.op ≤ 0 := by unfold opnd; rw [if_pos (by have := hvo; omega)]; exact Int.le_refl _
            simp [jsome, jf_none (mv := mv) (v := v) (k := 0) (by omega), jf_none (mv := mv) (v := v) (k := 1) (by omega), jf_none (mv := mv) (v := v) (k := 2) (by omega)] at hj
          · exact q
        refine ⟨.split 11 15 (.leaf [([0, 1, 2, 3, 4, 5, 6, 7, 8, 9, 10], some 15), ([], some 11), ([12, 13, 14], some 16), ([17], none)] [0, 1, 2, 3, 4, 5, 6, 7, 8, 9, 10, 14, 100014, 200011, 200016]) (.leaf [([0, 1, 2, 3, 4, 5, 6, 7, 8, 9, 10], some 11), ([12, 13, 14], some 15), ([], some 16), ([17], none)] [12, 13, 14, 100014]), by kernel_rfl, ⟨⟨by omega, by omega⟩, _, hc0, ⟨by omega, by omega⟩, _, hc1, ⟨by omega, by omega⟩, _, hc2, Ext.refl _, ?_⟩, ⟨⟨by omega, by omega⟩, _, hc0, ⟨by omega, by omega⟩, _, hc1, ⟨by omega, by omega⟩, _, hc2, ?_⟩⟩
        all_goals
          refine ⟨_, l2move_ec KX H.next p1 _ r1 ⟨g.ins, vs, g.outs⟩ v _ (jf mv v 0) (jf mv v 1) (jf mv v 2) (ogX.grow (by omega)) eX.next (by show vs.length ≤ _; omega) (by omega) hlb hvi hopv, ?_, fun v K hR => hR.no.elim⟩
          rintro _ K3 ⟨q2, hxx, o2, m2⟩
          cases hxx
          dsimp only at o2 ⊢
          have bm3 : Buf dInt K3 H.next (some ⟨K0.next, 0, none⟩) mv := m2.buf bmX fun b e o e2 => by cases e; exact hqm o e2
          have hq2 : ∀ o, q2 ≠ some ⟨K0.next, o, none⟩ := fun o e => by
            rcases m2.new with h | ⟨b, h, hb⟩
            · rw [h] at e; exact hqm o e
            · rw [h] at e; cases e; have := (bmX.lt rfl).2; omega
          have e3 := m2.ext eX fun b o e => by cases e; exact (ogX.s.lt rfl).1
          generalize hmm : moveP vs v ((x + d + 1 : Nat) : Int) (jf mv v 0) (jf mv v 1) (jf mv v 2) = mm at *
          cases hbm : bm3 with
          | @blk _ _ hb1 hb2 =>
          obtain ⟨s1, s2⟩ := stor_but dInt hb2 (i := x + d + 1) (o := 0 + ((x + d + 1 : Nat) : Int).toNat * 1) (l := [.int .i64 mm.2]) mm.2 (by omega) (by show 0 + (x + d + 1) * 1 = (x + d + 1) * 1; omega) rfl
          refine ⟨⟨by omega, by omega⟩, ⟨_, _, hb2, by rw [flat_len]; show 0 + (x + d + 1) * 1 + 1 ≤ mv.length * 1; omega⟩, ?_⟩
          have hp1 : p1 ≠ some ⟨K0.next, 0, none⟩ := fun e => by have := og.hi_.1 _ _ e; omega
          have hr1 : r1 ≠ some ⟨K0.next, 0, none⟩ := fun e => by have := og.hi_.2.2 _ _ e; omega
          refine ⟨s - x - (d + 1), ⟨[(1, .int .i64 (s : Int)), (2, .int .i64 (x : Int)), (4, .pointer (some ⟨0, 0, some 0⟩)), (8, .pointer (some ⟨1, 0, some 0⟩)), (10, .int .i64 (lenAt g.vals s)), (11, .slice (some ⟨K0.next, 0, none⟩) g.vals.length g.vals.length), (13, .int .i64 ((x + (d + 1) + 1 : Nat) : Int))], [[sv p1 g.ins, sv q2 (jr g.vals x t (d + 1)).1, sv r1 g.outs], [.slice none 0 0, .slice none 0 0, .slice none 0 0]]⟩, by omega, ?_, d + 1, q2, by omega, rfl, rfl, ?_, ?_, hq2, e3.stor hb1⟩
          · rw [hjr]; dsimp only
            exact (by (refine ⟨?_, ?_⟩ <;> repeat' first | exact trivial | exact congrArg (fun x => some (Value.int .i64 x)) hwk | exact congrArg (fun x => some (Value.bool x)) hsk | exact rfl | refine ⟨?_, ?_⟩ | fail))
          · rw [hjr]
            exact but_own o2 s2 fun b o e => by cases e; exact ⟨hp1, hq2 0, hr1⟩
          · rw [hjr]
            exact .blk hb1 s1
      · have hj : jsome mv v = false := by rw [← hsa]; exact hn
        rw [if_neg (by rw [hj]; simp)] at hjr
        refine ⟨s - x - (d + 1), ⟨[(1, .int .i64 (s : Int)), (2, .int .i64 (x : Int)), (4, .pointer (some ⟨0, 0, some 0⟩)), (8, .pointer (some ⟨1, 0, some 0⟩)), (10, .int .i64 (lenAt g.vals s)), (11, .slice (some ⟨K0.next, 0, none⟩) g.vals.length g.vals.length), (13, .int .i64 ((x + (d + 1) + 1 : Nat) : Int))], [[sv p1 g.ins, sv (some ⟨bq', 0, none⟩) (jr g.vals x t (d + 1)).1, sv r1 g.outs], [.slice none 0 0, .slice none 0 0, .slice none 0 0]]⟩, by omega, ?_, d + 1, some ⟨bq', 0, none⟩, by omega, rfl, rfl, ?_, ?_, hqm, eX⟩
        · rw [hjr, hst1]
          exact (by (refine ⟨?_, ?_⟩ <;> repeat' first | exact trivial | exact congrArg (fun x => some (Value.int .i64 x)) hwk | exact congrArg (fun x => some (Value.bool x)) hsk | exact rfl | refine ⟨?_, ?_⟩ | fail))
        · rw [hjr, hst1]
          exact ogX.grow (by omega)
        · rw [hjr, hst2]
          exact bmX
  · refine ⟨fun h => by simp at h; omega, fun _ => ?_⟩
    have hdd : d = s - x := by omega
    subst hdd
    have ok := jr_ok hv hx ht (s - x) (by omega)
    obtain ⟨ee, hpre, hel, _⟩ := ok.pre
    have hvl : g.vals.length ≤ (jr g.vals x t (s - x)).1.length ∧ (jr g.vals x t (s - x)).1.length ≤ 10000 := by rw [hpre]; simp; omega
    have hcs := at_cellI bm.rd (j := (s : Int)) (by omega) (by rw [ok.len]; omega)
    have hjp : ∀ a b, (if x ≤ s ∧ 0 ≤ atV (jr g.vals x t (s - x)).2 s then ((jr g.vals x t (s - x)).1, atV (jr g.vals x t (s - x)).2 s) else ((jr g.vals x t (s - x)).1 ++ [opV 1 (lenAt g.vals s) 0 0 0], ((jr g.vals x t (s - x)).1.length : Int))) = (a, b) → jvpP g.vals s x t = (a, b) := fun a b h => h
    refine ⟨fun _ => ⟨by omega, by omega⟩, _, fun _ => hcs, fun hy => ?_, fun hn => ?_⟩
    · have hc : x ≤ s ∧ 0 ≤ atV (jr g.vals x t (s - x)).2 s := by
        by_cases q : x ≤ s
        · simp [q] at hy; exact ⟨q, hy⟩
        · simp [q] at hy <;> omega
      rw [hjp _ _ (if_pos hc)]
      exact ⟨.leaf [([0, 1, 2, 3, 4], some 5), ([6], none)] [1, 2, 3, 4, 100001, 100002, 100003, 100004], by kernel_rfl, ⟨by omega, by omega⟩, _, hcs, Ext.refl _, p1, q', r1, rfl, eK, og'⟩
    · have hc : ¬ (x ≤ s ∧ 0 ≤ atV (jr g.vals x t (s - x)).2 s) := by
        rintro ⟨a, b⟩
        simp [a, b] at hn
      rw [hjp _ _ (if_neg hc)]
      refine ⟨.leaf [([0, 1, 2], some 3), ([], some 4), ([], none)] [], by kernel_rfl, _, l2zeros_pc _ _, ?_⟩
      refine ⟨_, l2put_ec K H.next p1 q' r1 _ _ og' eK.next (by show (jr g.vals x t (s - x)).1.length ≤ _; omega), ?_, fun v K hR => hR.no.elim⟩
      rintro _ K3 ⟨q2, hxx, o2, m2⟩
      cases hxx
      refine ⟨.leaf [([0, 1, 2], some 3), ([4], none)] [], by kernel_rfl, _, l2last_put _ _ _ _ _ _ (by rw [putG_len]; show (jr g.vals x t (s - x)).1.length + 1 ≤ _; omega), ?_⟩
      exact ⟨p1, q2, r1, rfl, m2.ext eK (fun b o e => by have hs := og'.s; subst e; cases hs with | blk h1 h2 => exact h1), o2⟩
end Go.Proofs.Ytimenmejmofkaaa
