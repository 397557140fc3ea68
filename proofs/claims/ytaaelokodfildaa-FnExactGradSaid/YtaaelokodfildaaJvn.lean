/- The program's builder: maps with numbers as keys, a builder of a graph. Conditions: those of each. -/
import Derived.Test.YtaaelokodfildaaJvi
set_option linter.unusedVariables false
set_option linter.unusedSimpArgs false
namespace Go.Proofs.Ytaaelokodfildaa
open Go.Am

theorem operandsB_ec (H : Heap) (v : Val) : EC Try.prog 47 [valV v] H fun r H' => r = .ret (.slice (some ⟨H.next, 0, none⟩) (argsL v).length (argsL v).length) ∧ H' = H.push (.cells (flat dInt [v.a, v.b, v.c]) 1 true) := by
  have hr := opnd3 v.op
  refine EC_fn ctx (fun _ => true) Try.func47 rfl rfl rfl ?_
  have hb : Rd dInt (H.push (.cells (flat dInt [v.a, v.b, v.c]) dInt.sz true)) (some ⟨H.next, 0, none⟩) [v.a, v.b, v.c] := Rd.push _ _
  refine ⟨.leaf [([0, 1, 2, 3, 4, 5, 7, 8, 9], some 6), ([10, 11], none)] [7, 8, 9], by kernel_rfl, opnd v.op |> Value.int .i64, fun H' => operands_pc H' _, ⟨by omega, by omega, by omega, hb.ez (by simp)⟩, ?_, rfl⟩
  rw [argsL_len]
  rfl
theorem argsB_rd (K : Heap) (v : Val) : Rd dInt (K.push (.cells (flat dInt [v.a, v.b, v.c]) 1 true)) (some ⟨K.next, 0, none⟩) (argsL v) := by
  have hr := opnd3 v.op
  have hb : Rd dInt (K.push (.cells (flat dInt [v.a, v.b, v.c]) dInt.sz true)) (some ⟨K.next, 0, none⟩) [v.a, v.b, v.c] := Rd.push _ _
  have hsub := hb.sub (l := 0) (n := (opnd v.op).toNat) (by simp; omega)
  exact hsub
def kkI : KK := .one (.int .i64)
theorem kEq_int (a c : Int) : kEq (int' a) (int' c) = (a == c) := rfl
theorem mget_mset (a c : Int) (u : Value) : ∀ es : List (Value × Value), mget (mset es (int' a) u) (int' c) = if c = a then some u else mget es (int' c)
  | [] => by
    simp only [mset, mget, kEq_int]
    by_cases h : c = a
    · simp [h]
    · simp [h, beq_eq_false_iff_ne.2 h]
  | (k, v) :: r => by
    have IH := mget_mset a c u r
    simp only [mset]
    cases hk : kEq (int' a) k with
    | true =>
      simp only [mget, kEq_int]
      have hk2 : kEq (int' c) k = (c == a) := by
        cases k with
        | int kk z =>
          have : (a == z) = true := hk
          have : a = z := by simpa using this
          subst this; rfl
        | _ => cases hk
      rw [hk2]
      by_cases h : c = a
      · simp [h]
      · simp [h, beq_eq_false_iff_ne.2 h]
    | false =>
      simp only [mget]
      cases hc : kEq (int' c) k with
      | true =>
        simp only
        by_cases h : c = a
        · subst h; rw [hk] at hc; cases hc
        · rw [if_neg h]
      | false => exact IH
/-- What the map of moves holds. -/
def MvInv (es : List (Value × Value)) (mv : List Int) : Prop := ∀ j : Int, 0 ≤ j → j < mv.length → mget es (int' j) = if 0 ≤ atV mv j then some (int' (atV mv j)) else none
theorem MvInv.set {es : List (Value × Value)} {mv : List Int} (h : MvInv es mv) {i : Nat} (hi : i < mv.length) {m : Int} (hm : 0 ≤ m) : MvInv (mset es (int' (i : Int)) (int' m)) (mv.set i m) := fun j h0 h1 => by
  rw [List.length_set] at h1
  rw [mget_mset, atV_setI _ _ _ _ hi]
  by_cases e : j.toNat = i
  · rw [if_pos (by omega), if_pos e, if_pos hm]
  · rw [if_neg (by omega), if_neg e]; exact h j h0 h1
theorem MvInv.keep {es : List (Value × Value)} {mv : List Int} (h : MvInv es mv) {i : Nat} (hi : i < mv.length) {m : Int} (hm : m < 0) (hn : atV mv (i : Int) < 0) : MvInv es (mv.set i m) := fun j h0 h1 => by
  rw [List.length_set] at h1
  rw [atV_setI _ _ _ _ hi]
  by_cases e : j.toNat = i
  · have e2 : j = (i : Int) := by omega
    subst e2
    rw [if_pos e, if_neg (by omega), h _ h0 h1, if_neg (by omega)]
  · rw [if_neg e]; exact h j h0 h1
theorem MvInv.start {n x : Nat} {t : Int} (hx : x < n) (ht : 0 ≤ t) : MvInv (mset [] (int' (x : Int)) (int' t)) ((List.replicate n (-1)).set x t) := by
  refine MvInv.set (es := []) (mv := List.replicate n (-1)) (fun j h0 h1 => ?_) (by simpa using hx) ht
  rw [atV_rep _ _ (by simp at h1; omega)]
  rfl
section
variable {K0 X : Heap} {q0 : Option Addr} {lo b : Nat} {p q r : Option Addr} {ins outs : List Int} {vs : List Val} {T : List (Nat × Value)}
theorem MS.upd (ms : MS K0 q0 X lo b p q r ins outs vs T) {M : Nat} (hk : K0.next ≤ M) (hq : ∀ o, q ≠ some ⟨M, o, none⟩) (hT : ∀ x v, (x, v) ∈ T → x ≠ M) {X' : Heap} (hn : X.next ≤ X'.next) (hs : ∀ x c, x ≠ M → X.blk x = some c → X'.blk x = some c) : MS K0 q0 X' lo b p q r ins outs vs T := by
  have b0 := ms.b0
  refine ⟨ms.b0, ms.p0, ms.r0, ⟨hs _ _ (by omega) ms.at_.blk, ?_, ms.at_.lob, ms.at_.nb, ms.at_.fit, ms.at_.len⟩, ⟨Nat.le_trans ms.fr.next hn, fun y c h1 h2 h3 => ?_⟩, ms.nq, Nat.le_trans ms.lo_ hn, fun y w h' => ?_⟩
  · refine (keep_own ms.at_.own M (fun o => ⟨fun e => ?_, hq o, fun e => ?_⟩) fun y c hy hc => hs y c hy hc).grow hn
    · have := ms.p0 M o e; omega
    · have := ms.r0 M o e; omega
  · have := K0.lt _ _ h3
    exact hs y c (by omega) (ms.fr.same y c h1 h2 h3)
  · obtain ⟨a1, a2, a3⟩ := ms.bx y w h'
    exact ⟨hs _ _ (hT y w h') a1, a2, a3⟩
theorem BAt.qmap {K : Heap} {es : List (Value × Value)} {kk : KK} {M : Nat} (h : BAt K lo b p q r ins vs outs) (hM : K.blk M = some (.map kk es)) (o : Nat) : q ≠ some ⟨M, o, none⟩ := fun e => by
  have hs := h.own.s
  cases hs with
  | nil => cases e
  | blk h1 h2 => cases e; rw [hM] at h2; cases h2
end
/-- A new builder of a graph. -/
def NB (H : Heap) (g : Graph) (e : AEnd) (K : Heap) : Prop := ∃ p q r b, e = .ret (ptr b) ∧ Ext H K ∧ H.next ≤ K.next ∧ BAt K H.next b p q r g.ins g.vals g.outs
theorem NB.no {H K : Heap} {g : Graph} {v : Value} (h : NB H g (.pan v) K) : False := by obtain ⟨_, _, _, _, h, _⟩ := h; cases h
theorem valid_fit {g : Graph} (hv : validB g = true) : fitsL g.vals = true := by
  obtain ⟨h1, h2, h3⟩ := valid_lens hv
  simp only [validB, Bool.and_eq_true, decide_eq_true_eq] at hv
  exact fits_spec.2 ⟨h2, hv.2⟩
theorem valid_all {g : Graph} (hv : validB g = true) : ∀ v ∈ g.vals, 0 ≤ v.len ∧ v.len ≤ 1000 := fun v hm => by
  obtain ⟨i, hi⟩ := List.getElem?_of_mem hm
  have := valid_okl hv hi
  simp [okLen] at this; omega
set_option maxHeartbeats 1000000 in
theorem builderOf_ec (H : Heap) (p q r : Option Addr) (g : Graph) (hg : RdG H p q r g) (hv : validB g = true) :
    EC Try.prog 20 [gV p q r g] H (NB H g) := by
  obtain ⟨h1, h2, h3⟩ := valid_lens hv
  have hall := valid_all hv
  have hfit := valid_fit hv
  refine EC_fn ctx (fun t => t != 9) Try.func20 rfl rfl rfl ?_
  refine ⟨_, graphCopy_ec H p q r g hg (by omega) (by omega) (by omega), ?_, fun v K hR => hR.no.elim⟩
  rintro _ K ⟨p1, q1, r1, hx, e0, og⟩
  cases hx
  refine loop_ind ctx (fun t => t != 9) (fun m E X => ∃ k, k ≤ g.vals.length ∧ m = g.vals.length - k ∧ E = ⟨[(3, ptr K.next), (11, sv q g.vals), (12, .int .i64 g.vals.length), (13, .int .i64 (k : Int))], []⟩ ∧ X.blk K.next = some (.cells [sv p1 g.ins, sv q1 g.vals, sv r1 g.outs, .int .i64 (cellsOf (g.vals.take k))] 4 true) ∧ Ext K X)
    (E0 := ⟨[(3, ptr K.next), (11, sv q g.vals), (12, .int .i64 g.vals.length), (13, .int .i64 ((0 : Nat) : Int))], []⟩) ⟨0, Nat.zero_le _, rfl, rfl, push_blk _ _, Ext.push _ _⟩ (by (refine ⟨?_, ?_⟩ <;> repeat' first | exact trivial | exact congrArg (fun x => some (Value.int .i64 x)) (wrap_nat (by omega)) | exact sv_eq (by simp; done) | exact rfl | refine ⟨?_, ?_⟩ | fail)) ?_
  rintro m E X ⟨k, hk, rfl, rfl, hb, e⟩
  refine ⟨fun hlt => ?_, fun hge => ?_⟩
  · have hlt : k < g.vals.length := by simpa using hlt
    have hgk := (hg.mono (e0.trans e)).vals
    obtain ⟨bq, oq, rfl, hva⟩ := hgk.val (List.getElem?_eq_getElem hlt)
    have hc : X.cell? K.next 3 = some (.int .i64 (cellsOf (g.vals.take k))) := by unfold Heap.cell?; rw [hb]; rfl
    have hst : X.stOK K.next 3 1 := ⟨_, _, hb, by simp⟩
    have hbn := cells_bnd hall k hk
    have hcs := cells_succ hlt
    have hvl := hall _ (List.getElem_mem hlt)
    have hw : IntKind.i64.wrap (cellsOf (g.vals.take k) + g.vals[k].len) = cellsOf (g.vals.take (k + 1)) := by rw [hcs, wrap_i64 (by omega) (by omega)]
    refine ⟨⟨by omega, by omega⟩, valV g.vals[k], hva, ?_⟩
    refine ⟨.leaf [([0, 1, 2, 3, 4, 5, 6, 7, 8], some 9), ([], none)] [], by kernel_rfl, _, hc, hst, ?_⟩
    refine ⟨g.vals.length - (k + 1), ⟨[(3, ptr K.next), (11, sv (some ⟨bq, oq, none⟩) g.vals), (12, .int .i64 g.vals.length), (13, .int .i64 ((k + 1 : Nat) : Int))], []⟩, by omega, by (refine ⟨?_, ?_⟩ <;> repeat' first | exact trivial | exact congrArg (fun x => some (Value.int .i64 x)) (wrap_nat (by omega)) | exact sv_eq (by simp; done) | exact rfl | refine ⟨?_, ?_⟩ | fail), k + 1, by omega, rfl, rfl, ?_, ?_⟩
    · refine (stor_blk hb).trans ?_
      exact congrArg (fun z => some (Blk.cells [sv p1 g.ins, sv q1 g.vals, sv r1 g.outs, .int .i64 z] 4 true)) hw
    · exact ⟨e.next, fun x c hc => (stor_other (by have := K.lt _ _ hc; omega)).trans (e.same x c hc)⟩
  · have hk : k = g.vals.length := by simp at hge; omega
    subst hk
    rw [List.take_length] at hb
    refine ⟨p1, q1, r1, K.next, rfl, e0.trans e, (e0.trans e).next, hb, (og.mono e).grow e.next, e0.next, fun o => ⟨fun h => ?_, fun h => ?_, fun h => ?_⟩, hfit, hall⟩
    · have := og.hi_.1 _ _ h; omega
    · have := og.hi_.2.1 _ _ h; omega
    · have := og.hi_.2.2 _ _ h; omega
theorem isIndex_pc (H : Heap) (p q r : Option Addr) (g : Graph) (i : Int) : PC Try.prog 19 [gV p q r g, int' i] H (.bool (decide (0 ≤ i ∧ i < g.vals.length))) := by
  refine EC_fn ctx (fun _ => true) Try.func19 rfl rfl rfl ?_
  refine pbool ?_
  by_cases h0 : 0 ≤ i <;> by_cases h1 : i < g.vals.length <;> simp [h0, h1]
theorem BAt.qlo {X : Heap} {lo b : Nat} {p q r : Option Addr} {ins outs : List Int} {vs : List Val} (h : BAt X lo b p q r ins vs outs) {x o : Nat} (e : q = some ⟨x, o, none⟩) : lo ≤ x := by
  have hs := h.own.s
  cases hs with
  | nil => cases e
  | blk h1 h2 => cases e; exact h1
theorem cell0 {K : Heap} {b : Nat} {v : Value} (h : K.blk b = some (.cells [v] 1 true)) : K.cell? b 0 = some v := by unfold Heap.cell?; rw [h]; rfl
theorem BR.int {K : Heap} {lo b : Nat} {p q r : Option Addr} {ins outs : List Int} {y : List Val × Int} (v : Value) (X : Heap) (h : BR K lo b p q r ins outs y (.ret v) X) : ∃ n, v = .int .i64 n := by
  rcases h with ⟨_, _, hv, _⟩ | ⟨_, hv, _⟩
  · cases hv; exact ⟨_, rfl⟩
  · cases hv
theorem BR.room {K : Heap} {lo b : Nat} {p q r : Option Addr} {ins outs : List Int} {y : List Val × Int} (v : Value) (X : Heap) (h : BR K lo b p q r ins outs y (.pan v) X) : v = noRoom := by
  rcases h with ⟨_, _, hv, _⟩ | ⟨_, hv, _⟩
  · cases hv
  · cases hv; rfl
theorem vAtI_pre {vals vs e : List Val} (h : vs = vals ++ e) {i : Int} (h0 : 0 ≤ i) (h1 : i < vals.length) : vAtI vs i = vAtI vals i := by
  subst h; unfold vAtI; rw [List.getElem?_append_left (by omega)]
end Go.Proofs.Ytaaelokodfildaa
