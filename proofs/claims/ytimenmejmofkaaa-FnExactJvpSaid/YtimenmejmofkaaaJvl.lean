/- The program's forward derivative: its map of moves. Conditions: those of each. The program's forward derivative, walked. Conditions: the graph is valid, the indexes are its own. -/
import Derived.Test.YtimenmejmofkaaaJvj
import Derived.Test.YtimenmejmofkaaaJvf
set_option linter.unusedVariables false
set_option linter.unusedSimpArgs false
namespace Go.Proofs.Ytimenmejmofkaaa
open Go.Am

theorem operandsB_ec (H : Heap) (v : Val) : EC Try.prog 46 [valV v] H fun r H' => r = .ret (.slice (some ⟨H.next, 0, none⟩) (argsL v).length (argsL v).length) ∧ H' = H.push (.cells (flat dInt [v.a, v.b, v.c]) 1 true) := by
  have hr := opnd3 v.op
  refine EC_fn ctx (fun _ => true) Try.func46 rfl rfl rfl ?_
  have hb : Rd dInt (H.push (.cells (flat dInt [v.a, v.b, v.c]) dInt.sz true)) (some ⟨H.next, 0, none⟩) [v.a, v.b, v.c] := Rd.push _ _
  refine ⟨.leaf [([0, 1, 2, 3, 4, 5, 7, 8, 9], some 6), ([10, 11], none)] [7, 8, 9], by kernel_rfl, opnd v.op |> Value.int .i64, fun H' => operands_pc H' _, ⟨by omega, by omega, by omega, hb.ez (by simp)⟩, ?_, rfl⟩
  rw [argsL_len]
  rfl
theorem argsB_rd (K : Heap) (v : Val) : Rd dInt (K.push (.cells (flat dInt [v.a, v.b, v.c]) 1 true)) (some ⟨K.next, 0, none⟩) (argsL v) := by
  have hr := opnd3 v.op
  have hb : Rd dInt (K.push (.cells (flat dInt [v.a, v.b, v.c]) dInt.sz true)) (some ⟨K.next, 0, none⟩) [v.a, v.b, v.c] := Rd.push _ _
  have hsub := hb.sub (l := 0) (n := (opnd v.op).toNat) (by simp; omega)
  exact hsub
def kkI : KK := .one (.int .i64)
theorem kEq_int (a c : Int) : kEq (int' a) (int' c) = (a == c) := rfl
theorem mget_mset (a c : Int) (u : Value) : ∀ es : List (Value × Value), mget (mset es (int' a) u) (int' c) = if c = a then some u else mget es (int' c)
  | [] => by
    simp only [mset, mget, kEq_int]
    by_cases h : c = a
    · simp [h]
    · simp [h, beq_eq_false_iff_ne.2 h]
  | (k, v) :: r => by
    have IH := mget_mset a c u r
    simp only [mset]
    cases hk : kEq (int' a) k with
    | true =>
      simp only [mget, kEq_int]
      have hk2 : kEq (int' c) k = (c == a) := by
        cases k with
        | int kk z =>
          have : (a == z) = true := hk
          have : a = z := by simpa using this
          subst this; rfl
        | _ => cases hk
      rw [hk2]
      by_cases h : c = a
      · simp [h]
      · simp [h, beq_eq_false_iff_ne.2 h]
    | false =>
      simp only [mget]
      cases hc : kEq (int' c) k with
      | true =>
        simp only
        by_cases h : c = a
        · subst h; rw [hk] at hc; cases hc
        · rw [if_neg h]
      | false => exact IH
/-- What the map of moves holds. -/
def MvInv (es : List (Value × Value)) (mv : List Int) : Prop := ∀ j : Int, 0 ≤ j → j < mv.length → mget es (int' j) = if 0 ≤ atV mv j then some (int' (atV mv j)) else none
theorem MvInv.set {es : List (Value × Value)} {mv : List Int} (h : MvInv es mv) {i : Nat} (hi : i < mv.length) {m : Int} (hm : 0 ≤ m) : MvInv (mset es (int' (i : Int)) (int' m)) (mv.set i m) := fun j h0 h1 => by
  rw [List.length_set] at h1
  rw [mget_mset, atV_setI _ _ _ _ hi]
  by_cases e : j.toNat = i
  · rw [if_pos (by omega), if_pos e, if_pos hm]
  · rw [if_neg (by omega), if_neg e]; exact h j h0 h1
theorem MvInv.keep {es : List (Value × Value)} {mv : List Int} (h : MvInv es mv) {i : Nat} (hi : i < mv.length) {m : Int} (hm : m < 0) (hn : atV mv (i : Int) < 0) : MvInv es (mv.set i m) := fun j h0 h1 => by
  rw [List.length_set] at h1
  rw [atV_setI _ _ _ _ hi]
  by_cases e : j.toNat = i
  · have e2 : j = (i : Int) := by omega
    subst e2
    rw [if_pos e, if_neg (by omega), h _ h0 h1, if_neg (by omega)]
  · rw [if_neg e]; exact h j h0 h1
theorem MvInv.start {n x : Nat} {t : Int} (hx : x < n) (ht : 0 ≤ t) : MvInv (mset [] (int' (x : Int)) (int' t)) ((List.replicate n (-1)).set x t) := by
  refine MvInv.set (es := []) (mv := List.replicate n (-1)) (fun j h0 h1 => ?_) (by simpa using hx) ht
  rw [atV_rep _ _ (by simp at h1; omega)]
  rfl
section
variable {K0 X : Heap} {q0 : Option Addr} {lo b : Nat} {p q r : Option Addr} {ins outs : List Int} {vs : List Val} {T : List (Nat × Value)}
theorem MS.upd (ms : MS K0 q0 X lo b p q r ins outs vs T) {M : Nat} (hk : K0.next ≤ M) (hq : ∀ o, q ≠ some ⟨M, o, none⟩) (hT : ∀ x v, (x, v) ∈ T → x ≠ M) {X' : Heap} (hn : X.next ≤ X'.next) (hs : ∀ x c, x ≠ M → X.blk x = some c → X'.blk x = some c) : MS K0 q0 X' lo b p q r ins outs vs T := by
  have b0 := ms.b0
  refine ⟨ms.b0, ms.p0, ms.r0, ⟨hs _ _ (by omega) ms.at_.blk, ?_, ms.at_.lob, ms.at_.nb, ms.at_.fit, ms.at_.len⟩, ⟨Nat.le_trans ms.fr.next hn, fun y c h1 h2 h3 => ?_⟩, ms.nq, Nat.le_trans ms.lo_ hn, fun y w h' => ?_⟩
  · refine (keep_own ms.at_.own M (fun o => ⟨fun e => ?_, hq o, fun e => ?_⟩) fun y c hy hc => hs y c hy hc).grow hn
    · have := ms.p0 M o e; omega
    · have := ms.r0 M o e; omega
  · have := K0.lt _ _ h3
    exact hs y c (by omega) (ms.fr.same y c h1 h2 h3)
  · obtain ⟨a1, a2, a3⟩ := ms.bx y w h'
    exact ⟨hs _ _ (hT y w h') a1, a2, a3⟩
theorem BAt.qmap {K : Heap} {es : List (Value × Value)} {kk : KK} {M : Nat} (h : BAt K lo b p q r ins vs outs) (hM : K.blk M = some (.map kk es)) (o : Nat) : q ≠ some ⟨M, o, none⟩ := fun e => by
  have hs := h.own.s
  cases hs with
  | nil => cases e
  | blk h1 h2 => cases e; rw [hM] at h2; cases h2
/-- A walk over a builder and a map of moves. -/
structure FS (K0 : Heap) (q0 : Option Addr) (X : Heap) (lo b : Nat) (p q r : Option Addr) (ins outs : List Int) (vs : List Val) (B M : Nat) (es : List (Value × Value)) : Prop where
  ms : MS K0 q0 X lo b p q r ins outs vs [(B, .map (some M))]
  hM : X.blk M = some (.map kkI es)
  kM : K0.next ≤ M
variable {B M : Nat} {es : List (Value × Value)}
theorem FS.ext (fs : FS K0 q0 X lo b p q r ins outs vs B M es) {X' : Heap} (e : Ext X X') : FS K0 q0 X' lo b p q r ins outs vs B M es := ⟨fs.ms.ext e, e.same _ _ fs.hM, fs.kM⟩
theorem FS.set (fs : FS K0 q0 X lo b p q r ins outs vs B M es) (es' : List (Value × Value)) : FS K0 q0 (X.put M (.map kkI es')) lo b p q r ins outs vs B M es' := by
  have hlt := X.lt _ _ fs.hM
  have hb := (fs.ms.bx B _ (.head _)).1
  refine ⟨fs.ms.upd fs.kM (fun o => fs.ms.at_.qmap fs.hM o) (fun x v h e => ?_) (Nat.le_refl _) (fun x c hx hc => ?_), ?_, fs.kM⟩
  · simp at h; obtain ⟨rfl, rfl⟩ := h; subst e; rw [fs.hM] at hb; cases hb
  · rw [put_blk _ _ _ _ hlt, if_neg hx]; exact hc
  · rw [put_blk _ _ _ _ hlt, if_pos rfl]
/-- What a call over a builder and a map leaves. -/
def FR (K0 : Heap) (q0 : Option Addr) (lo b : Nat) (p r : Option Addr) (ins outs : List Int) (B M : Nat) (es : List (Value × Value)) (y : List Val × Int) (e : AEnd) (X' : Heap) : Prop :=
  (∃ q', e = .ret (.int .i64 y.2) ∧ FS K0 q0 X' lo b p q' r ins outs y.1 B M es) ∨ (e = .pan noRoom ∧ fitsL y.1 = false ∧ Fr K0 b q0 X')
theorem FS.of_BR (fs : FS K0 q0 X lo b p q r ins outs vs B M es) {y : List Val × Int} {e : AEnd} {X' : Heap} (h : BR X lo b p q r ins outs y e X') : FR K0 q0 lo b p r ins outs B M es y e X' := by
  have hF : Fr X b q X' := by
    rcases h with ⟨_, _, _, _, h, _⟩ | ⟨_, _, h⟩ <;> exact h
  have hM : X'.blk M = some (.map kkI es) := hF.same _ _ (by have := fs.ms.b0; have := fs.kM; omega) (fun o => fs.ms.at_.qmap fs.hM o) fs.hM
  rcases fs.ms.of_BR h with ⟨q', rfl, m⟩ | h
  · exact .inl ⟨q', rfl, m, hM, fs.kM⟩
  · exact .inr h
theorem FR.elim {y : List Val × Int} {G : Value → Heap → Prop} (h : ∀ q' X', FS K0 q0 X' lo b p q' r ins outs y.1 B M es → G (.int .i64 y.2) X') : ∀ v X', FR K0 q0 lo b p r ins outs B M es y (.ret v) X' → G v X' := fun v X' hR => by
  rcases hR with ⟨q', hv, fs⟩ | ⟨hv, _⟩
  · cases hv; exact h q' X' fs
  · cases hv
theorem FR.pan {y z : List Val × Int} {v : Value} {X' : Heap} (h : FR K0 q0 lo b p r ins outs B M es y (.pan v) X') (hp : Pre y.1 z.1) : BR K0 lo b p q0 r ins outs z (.pan v) X' := by
  rcases h with ⟨q', hv, ms⟩ | ⟨hv, hf, hF⟩
  · cases hv
  · cases hv; exact .inr ⟨hp.nofit hf, rfl, hF⟩
theorem move_ec (K : Heap) (lo b : Nat) (p q r : Option Addr) (ins outs : List Int) (vs : List Val) (v : Val) (i ta tb tc : Int) (h : BAt K lo b p q r ins vs outs) (hlo : lo ≤ K.next) (h0 : 0 ≤ i) (hi : i < vs.length) (hv : vAtI vs i = v) (hvl : 0 ≤ v.len ∧ v.len ≤ 1000) (hb1 : -1 ≤ tb)
    (hc : (v.op ≠ 8 ∧ v.op ≠ 11 ∧ v.op ≠ 12) → v.c = 0) :
    EC Try.prog 47 [ptr b, int' i, int' ta, int' tb, int' tc] K (BR K lo b p q r ins outs (moveP vs v i ta tb tc)) := by
  by_cases h2 : v.op = 2
  · exact move_lin2 K lo b p q r ins outs vs v i ta tb tc h hlo h0 hi hv hvl hb1 h2
  by_cases h3 : v.op = 3
  · exact move_lin3 K lo b p q r ins outs vs v i ta tb tc h hlo h0 hi hv hvl hb1 h3
  by_cases h4 : v.op = 4
  · exact move_mul K lo b p q r ins outs vs v i ta tb tc h hlo h0 hi hv hvl hb1 h4
  by_cases h5 : v.op = 5
  · exact move_div K lo b p q r ins outs vs v i ta tb tc h hlo h0 hi hv hvl hb1 h5
  by_cases h7 : v.op = 7
  · exact move_max K lo b p q r ins outs vs v i ta tb tc h hlo h0 hi hv hvl hb1 h7
  by_cases h8 : v.op = 8
  · exact move_sel K lo b p q r ins outs vs v i ta tb tc h hlo h0 hi hv hvl hb1 h8
  by_cases h9 : v.op = 11 ∨ v.op = 12
  · exact move_put K lo b p q r ins outs vs v i ta tb tc h hlo h0 hi hv hvl hb1 h9
  by_cases h10 : v.op = 13
  · exact move_exp K lo b p q r ins outs vs v i ta tb tc h hlo h0 hi hv hvl hb1 h10
  · exact move_one K lo b p q r ins outs vs v i ta tb tc h hlo h0 hi hv hvl hb1 ⟨⟨h2, h3, h4, h5, h7, h8, by omega, by omega, h10⟩, hc (by omega)⟩
theorem valid_c {g : Graph} (h : validB g = true) {i : Nat} {v : Val} (hv : g.vals[i]? = some v) : (v.op ≠ 8 ∧ v.op ≠ 11 ∧ v.op ≠ 12) → v.c = 0 := fun hop => by
  simp only [validB, Bool.and_eq_true, decide_eq_true_eq] at h
  obtain ⟨⟨⟨⟨⟨⟨v1, v2⟩, v3⟩, v4⟩, v5⟩, v6⟩, v7⟩ := h
  rw [List.all_eq_true] at v5
  have hi : i < g.vals.length := (List.getElem?_eq_some_iff.1 hv).1
  have := v5 i (List.mem_range.2 hi)
  rw [vAt_get hv] at this
  simp only [vokB, Bool.and_eq_true, decide_eq_true_eq] at this
  obtain ⟨_, this⟩ := this
  split at this
  · simp [inputOK] at this; omega
  · simp only [Bool.and_eq_true] at this
    obtain ⟨⟨_, h2⟩, _⟩ := this
    have h3 : ¬ (2 < opnd v.op) := by
      unfold opnd; split
      · omega
      · split
        · omega
        · rw [if_neg hop.1]; omega
    unfold argOK at h2
    rw [if_neg h3] at h2
    simpa [fieldV, placeB, hop.2.1, hop.2.2] using h2
/-- The move of an operand, as the program finds it. -/
theorem forward1_pc (fs : FS K0 q0 X lo b p q r ins outs vs B M es) {mv : List Int} (hI : MvInv es mv) (hb : ∀ j, -1 ≤ atV mv j) {v : Val} {a : Option Addr} (hr : Rd dInt X a (argsL v)) (hin : OpsIn v mv.length) (k : Int) (hk : 0 ≤ k) :
    PC Try.prog 45 [sv a (argsL v), int' k, ptr B] X (int' (jf mv v k)) := by
  have hl := argsL_len v
  have h3 := opnd3 v.op
  refine EC_fn ctx (fun _ => true) Try.func45 rfl rfl rfl ?_
  refine ⟨fun h => ?_, fun h => ?_⟩
  · have h : k < opnd v.op := by rw [hl] at h; simp at h; omega
    have hg := argsL_get (v := v) (j := k.toNat) (by omega)
    obtain ⟨ba, oa, rfl, hc⟩ := hr.cell hg
    have hfld := opnd_field hin hk h
    have hjf : jf mv v k = atV mv (fieldV v k) := by unfold jf; rw [if_pos h]
    have hkk : ((k.toNat : Nat) : Int) = k := by omega
    rw [hkk] at hc
    have hget := hI _ hfld.1 hfld.2
    have hba := hb (fieldV v k)
    by_cases hm : 0 ≤ atV mv (fieldV v k)
    · rw [if_pos hm] at hget
      refine ⟨.leaf [([0, 1, 2, 3, 4, 5, 6, 7, 8, 9, 10], none)] [], by kernel_rfl, _, fs.ms.cell (x := B) (v := .map (some M)) (.head _), ⟨hk, by omega⟩, _, hc, .tuple #[int' (atV mv (fieldV v k)), .bool true], ⟨es, fs.hM, by rw [hget]; rfl⟩, fun _ => ?_, fun h => by simp at h⟩
      rw [hjf]
      exact ⟨rfl, rfl⟩
    · rw [if_neg hm] at hget
      refine ⟨.leaf [([0, 1, 2, 3, 4, 5, 6, 7, 8, 9, 10], none)] [], by kernel_rfl, _, fs.ms.cell (x := B) (v := .map (some M)) (.head _), ⟨hk, by omega⟩, _, hc, .tuple #[int' 0, .bool false], ⟨es, fs.hM, by rw [hget]; rfl⟩, fun h => by simp at h, fun _ => ?_⟩
      rw [hjf, show atV mv (fieldV v k) = -1 by omega]
      exact ⟨rfl, rfl⟩
  · have h : ¬ k < opnd v.op := by rw [hl] at h; simp at h; omega
    rw [show jf mv v k = -1 by unfold jf; rw [if_neg h]]
    exact ⟨rfl, rfl⟩
end
end Go.Proofs.Ytimenmejmofkaaa

set_option linter.unusedVariables false
namespace Go.Proofs.Ytimenmejmofkaaa
open Go.Am

theorem vAtI_pre {vals vs e : List Val} (h : vs = vals ++ e) {i : Int} (h0 : 0 ≤ i) (h1 : i < vals.length) : vAtI vs i = vAtI vals i := by
  subst h; unfold vAtI; rw [List.getElem?_append_left (by omega)]
theorem jr_step {g : Graph} (hv : validB g = true) {x : Nat} {t : Int} (hx : x < g.vals.length) (ht : 0 ≤ t ∧ t < g.vals.length) (d : Nat) (hd : x + d + 1 < g.vals.length) : Pre (jr g.vals x t d).1 (jr g.vals x t (d + 1)).1 := by
  have IH := jr_ok hv hx ht d (by omega)
  have hvk : g.vals[x + d + 1]? = some (vAtI g.vals ((x + d + 1 : Nat) : Int)) := vAtI_get (vals := g.vals) (i := ((x + d + 1 : Nat) : Int)) (by omega) (by omega)
  have hlen : 1 ≤ (vAtI g.vals ((x + d + 1 : Nat) : Int)).len ∧ (vAtI g.vals ((x + d + 1 : Nat) : Int)).len ≤ 1000 := by
    have := valid_okl hv hvk
    simpa [okLen] using this
  simp only [jr]
  split
  · exact (moveP_pre (v := vAtI g.vals ((x + d + 1 : Nat) : Int)) (i := ((x + d + 1 : Nat) : Int)) (jf_bd IH _ 0) (jf_bd IH _ 1) (jf_bd IH _ 2)).1.pre (by omega)
  · exact .refl _
theorem jr_pre {g : Graph} (hv : validB g = true) {x : Nat} {t : Int} (hx : x < g.vals.length) (ht : 0 ≤ t ∧ t < g.vals.length) (d : Nat) : ∀ k, x + d + k < g.vals.length → Pre (jr g.vals x t d).1 (jr g.vals x t (d + k)).1
  | 0, _ => .refl _
  | k + 1, h => (jr_pre hv hx ht d k (by omega)).trans (jr_step hv hx ht (d + k) (by omega))
theorem jvp_pre {g : Graph} (hv : validB g = true) {s x : Nat} {t : Int} (hs : s < g.vals.length) (hx : x < g.vals.length) (ht : 0 ≤ t ∧ t < g.vals.length) (d : Nat) (hd : d ≤ s - x) : Pre (jr g.vals x t d).1 (jvpP g.vals s x t).1 := by
  have hvk : g.vals[s]? = some (vAtI g.vals ((s : Nat) : Int)) := vAtI_get (vals := g.vals) (i := ((s : Nat) : Int)) (by omega) (by omega)
  have hlen : 1 ≤ (vAtI g.vals (s : Int)).len ∧ (vAtI g.vals (s : Int)).len ≤ 1000 := by
    have := valid_okl hv hvk
    simpa [okLen] using this
  have h1 : Pre (jr g.vals x t d).1 (jr g.vals x t (s - x)).1 := by
    by_cases hd0 : d = s - x
    · rw [hd0]; exact .refl _
    · have := jr_pre hv hx ht d (s - x - d) (by omega)
      rwa [show d + (s - x - d) = s - x by omega] at this
  unfold jvpP
  split
  · exact h1
  · refine h1.trans (Pre.snoc _ _ ?_)
    show 0 ≤ lenAt g.vals s ∧ lenAt g.vals s ≤ 1000
    rw [lenAt_v (vs := g.vals) (o := (s : Int)) rfl (by omega) (by omega)]
    omega
theorem FS.start {K : Heap} {lo b : Nat} {p q r : Option Addr} {ins outs : List Int} {vs : List Val} (h : BAt K lo b p q r ins vs outs) (hlo : lo ≤ K.next) (es : List (Value × Value)) :
    FS K q ((((K.push (.map kkI [])).put K.next (.map kkI es)).push (.cells [.map none] 1 true)).stor (K.next + 1) 0 [.map (some K.next)]) lo b p q r ins outs vs (K.next + 1) K.next es := by
  have ms0 := MS.start h hlo
  have hlt : K.next < (K.push (.map kkI [])).next := Nat.lt_succ_self _
  have hpb := put_blk (K.push (.map kkI [])) K.next (.map kkI es)
  have ms1 := ms0.ext (Ext.push K (.map kkI []))
  have ms2 : MS K q ((K.push (.map kkI [])).put K.next (.map kkI es)) lo b p q r ins outs vs [] := ms1.upd (Nat.le_refl _) (fun o => ms1.at_.qmap (push_blk K _) o) (fun x v h => by cases h) (Nat.le_refl _) (fun x c hx hc => by rw [hpb x hlt, if_neg hx]; exact hc)
  have ms3 := (ms2.alloc' (.map none) (K.next + 1) rfl).set (x := K.next + 1) (v := .map none) (v' := .map (some K.next)) (.head _) (T' := [(K.next + 1, .map (some K.next))]) (fun y w hy => by simp at hy; rcases hy with ⟨rfl, rfl⟩; simp)
  refine ⟨ms3, ?_, Nat.le_refl _⟩
  refine (stor_other (by omega)).trans ?_
  refine (push_blk_ne _ _ (by show K.next ≠ K.next + 1; omega)).trans ?_
  rw [hpb _ hlt, if_pos rfl]
set_option maxHeartbeats 2000000 in
theorem forward_ec (K : Heap) (lo b : Nat) (p q r : Option Addr) (g : Graph) (s x : Nat) (t : Int) (h : BAt K lo b p q r g.ins g.vals g.outs) (hlo : lo ≤ K.next) (hv : validB g = true) (hs : s < g.vals.length) (hx : x < g.vals.length) (ht : 0 ≤ t ∧ t < g.vals.length) :
    EC Try.prog 23 [ptr b, int' s, int' x, int' t] K (BR K lo b p q r g.ins g.outs (jvpP g.vals s x t)) := by
  obtain ⟨h1, h2, h3⟩ := valid_lens hv
  have hops := valid_ops hv
  have fs0 := FS.start h hlo (mset [] (int' (x : Int)) (int' t))
  have hwk := wrap_nat (k := x) (by omega)
  refine EC_fn ctx (fun t => t != 9) Try.func23 rfl rfl rfl ?_
  refine ⟨[], push_blk _ _, stOK_push _ _ _ _ _ (Nat.le_refl 1), ?_⟩
  refine loop_ind ctx (fun t => t != 9) (fun m E X => ∃ (d : Nat) (q' : Option Addr) (es : List (Value × Value)), d ≤ s - x ∧ m = s - x - d ∧ E = ⟨[(0, ptr b), (1, int' s), (2, int' x), (9, ptr (K.next + 1)), (10, .func (.func 45) #[] #[ptr (K.next + 1)]), (11, int' ((x + d + 1 : Nat) : Int))], []⟩ ∧ FS K q X lo b p q' r g.ins g.outs (jr g.vals x t d).1 (K.next + 1) K.next es ∧ MvInv es (jr g.vals x t d).2)
    (E0 := ⟨[(0, ptr b), (1, int' s), (2, int' x), (9, ptr (K.next + 1)), (10, .func (.func 45) #[] #[ptr (K.next + 1)]), (11, int' ((x + 0 + 1 : Nat) : Int))], []⟩) ⟨0, q, _, Nat.zero_le _, rfl, rfl, fs0, MvInv.start hx ht.1⟩ (by (refine ⟨?_, ?_⟩ <;> repeat' first | exact trivial | exact congrArg (fun x => some (Value.int .i64 x)) hwk | exact rfl | refine ⟨?_, ?_⟩ | fail)) ?_
  rintro m E X ⟨d, q', es, hd, rfl, rfl, fs, hI⟩
  have hq' : ∃ bq, q' = some ⟨bq, 0, none⟩ := by
    obtain ⟨e, he, _, _⟩ := (jr_ok hv hx ht (min d (g.vals.length - 1 - x)) (by omega)).pre
    refine bufq_some fs.ms.at_.own.s ?_
    have : min d (g.vals.length - 1 - x) = d := by omega
    rw [this] at he
    rw [he]; simp; omega
  obtain ⟨bq, rfl⟩ := hq'
  have hwk2 : IntKind.i64.wrap (((x + d + 1 : Nat) : Int) + 1) = ((x + (d + 1) + 1 : Nat) : Int) := by rw [wrap_i64 (by omega) (by omega)]; omega
  refine ⟨fun hlt => ?_, fun hge => ?_⟩
  · have hlt : x + d + 1 ≤ s := by simp at hlt; omega
    have ok := jr_ok hv hx ht d (by omega)
    have okN := jr_ok hv hx ht (d + 1) (by omega)
    obtain ⟨e, he, hel, hew⟩ := ok.pre
    have hvk : g.vals[x + d + 1]? = some (vAtI g.vals ((x + d + 1 : Nat) : Int)) := vAtI_get (vals := g.vals) (i := ((x + d + 1 : Nat) : Int)) (by omega) (by omega)
    have hlen : 1 ≤ (vAtI g.vals ((x + d + 1 : Nat) : Int)).len ∧ (vAtI g.vals ((x + d + 1 : Nat) : Int)).len ≤ 1000 := by
      have := valid_okl hv hvk
      simpa [okLen] using this
    have hin : OpsIn (vAtI g.vals ((x + d + 1 : Nat) : Int)) g.vals.length := (hops _ _ hvk).mono (by omega)
    have hc := valid_c hv hvk
    have hva0 : vAtI (jr g.vals x t d).1 ((x + d + 1 : Nat) : Int) = vAtI g.vals ((x + d + 1 : Nat) : Int) := vAtI_pre he (by omega) (by omega)
    have hvl : g.vals.length ≤ (jr g.vals x t d).1.length := by rw [he]; simp
    have hjr : jr g.vals x t (d + 1) = if jsome (jr g.vals x t d).2 (vAtI g.vals ((x + d + 1 : Nat) : Int)) then
      ((moveP (jr g.vals x t d).1 (vAtI g.vals ((x + d + 1 : Nat) : Int)) ((x + d + 1 : Nat) : Int) (jf (jr g.vals x t d).2 (vAtI g.vals ((x + d + 1 : Nat) : Int)) 0) (jf (jr g.vals x t d).2 (vAtI g.vals ((x + d + 1 : Nat) : Int)) 1) (jf (jr g.vals x t d).2 (vAtI g.vals ((x + d + 1 : Nat) : Int)) 2)).1,
       (jr g.vals x t d).2.set (x + d + 1) (moveP (jr g.vals x t d).1 (vAtI g.vals ((x + d + 1 : Nat) : Int)) ((x + d + 1 : Nat) : Int) (jf (jr g.vals x t d).2 (vAtI g.vals ((x + d + 1 : Nat) : Int)) 0) (jf (jr g.vals x t d).2 (vAtI g.vals ((x + d + 1 : Nat) : Int)) 1) (jf (jr g.vals x t d).2 (vAtI g.vals ((x + d + 1 : Nat) : Int)) 2)).2)
      else jr g.vals x t d := rfl
    have hpre := jvp_pre hv hs hx ht (d + 1) (by omega)
    have hmn := moveP_none (vs := (jr g.vals x t d).1) (v := vAtI g.vals ((x + d + 1 : Nat) : Int)) (i := ((x + d + 1 : Nat) : Int)) (jf_bd ok (vAtI g.vals ((x + d + 1 : Nat) : Int)) 0) (jf_bd ok (vAtI g.vals ((x + d + 1 : Nat) : Int)) 1) (jf_bd ok (vAtI g.vals ((x + d + 1 : Nat) : Int)) 2)
    obtain ⟨c0, c1, c2, _, hva⟩ := valF_at fs.ms.at_.own.s.rd (i := ((x + d + 1 : Nat) : Int)) (by omega) (by dsimp only; omega)
    rw [hva0] at hva
    have hnone := ok.none (x + d + 1) (by omega) (by omega)
    have hml := ok.len
    have hbd := ok.bd
    have hj1 := (jf_bd ok (vAtI g.vals ((x + d + 1 : Nat) : Int)) 1).1
    generalize hvv : vAtI g.vals ((x + d + 1 : Nat) : Int) = v at *
    generalize hst : jr g.vals x t d = st at *
    refine ⟨_, fs.ms.at_.cell1, ⟨by omega, by omega⟩, valV v, hva, _, operandsB_ec X v, ?_, fun v K hR => by cases hR.1⟩
    rintro _ X2 ⟨hx2, rfl⟩
    cases hx2
    have hl := argsL_len v
    have h3 := opnd3 v.op
    have fs1 := fs.ext (Ext.push X (.cells (flat dInt [v.a, v.b, v.c]) 1 true))
    refine ⟨fun hz => ?_, fun hz => ?_⟩
    · have hz : opnd v.op = 0 := by rw [hl] at hz; simp at hz; omega
      have hjs : jsome st.2 v = false := by unfold jsome; rw [jf_none (by omega), jf_none (by omega), jf_none (by omega)]; rfl
      rw [hjs] at hjr
      refine ⟨s - x - (d + 1), ⟨[(0, ptr b), (1, int' s), (2, int' x), (9, ptr (K.next + 1)), (10, .func (.func 45) #[] #[ptr (K.next + 1)]), (11, int' ((x + (d + 1) + 1 : Nat) : Int))], []⟩, by omega, (by (refine ⟨?_, ?_⟩ <;> repeat' first | exact trivial | exact congrArg (fun x => some (Value.int .i64 x)) hwk2 | exact rfl | refine ⟨?_, ?_⟩ | fail)), d + 1, some ⟨bq, 0, none⟩, es, by omega, rfl, rfl, ?_, ?_⟩
      · rw [hjr]; exact fs1
      · rw [hjr]; exact hI
    · have hr := argsB_rd X v
      have hbd1 : ∀ j, -1 ≤ atV st.2 j := fun j => (hbd j).1
      have hin' : OpsIn v st.2.length := by rw [hml]; exact hin
      refine ⟨_, forward1_pc fs1 hI hbd1 hr hin' 0 (by omega), ?_, fun v K hR => by cases hR.1⟩
      rintro _ X3 ⟨hx3, rfl⟩
      cases hx3
      refine ⟨_, forward1_pc fs1 hI hbd1 hr hin' 1 (by omega), ?_, fun v K hR => by cases hR.1⟩
      rintro _ X3 ⟨hx3, rfl⟩
      cases hx3
      refine ⟨_, forward1_pc fs1 hI hbd1 hr hin' 2 (by omega), ?_, fun v K hR => by cases hR.1⟩
      rintro _ X3 ⟨hx3, rfl⟩
      cases hx3
      have hpp : Pre (moveP st.1 v ((x + d + 1 : Nat) : Int) (jf st.2 v 0) (jf st.2 v 1) (jf st.2 v 2)).1 (jvpP g.vals s x t).1 := by
        refine Pre.trans ?_ hpre
        rw [hjr]
        split
        · exact .refl _
        · rename_i hjs
          have hjs : ¬ (0 ≤ jf st.2 v 0 ∨ 0 ≤ jf st.2 v 1 ∨ 0 ≤ jf st.2 v 2) := by simpa [jsome] using hjs
          rw [hmn (by omega) (by omega) (by omega)]; exact .refl _
      refine ⟨_, (move_ec _ lo b p _ r g.ins g.outs st.1 v ((x + d + 1 : Nat) : Int) (jf st.2 v 0) (jf st.2 v 1) (jf st.2 v 2) fs1.ms.at_ fs1.ms.lo_ (by omega) (by omega) hva0 (by omega) hj1 hc).mono fun _ _ h => fs1.of_BR h, FR.elim fun q3 X3 fs3 => ?_, fun _ X h => h.pan hpp⟩
      generalize hmp : moveP st.1 v ((x + d + 1 : Nat) : Int) (jf st.2 v 0) (jf st.2 v 1) (jf st.2 v 2) = mp at *
      refine ⟨fun hm => ?_, fun hm => ?_⟩
      · have hm : 0 ≤ mp.2 := by simpa using hm
        have hjs : jsome st.2 v = true := by
          cases hq : jsome st.2 v with
          | true => rfl
          | false =>
            have hjs : ¬ (0 ≤ jf st.2 v 0 ∨ 0 ≤ jf st.2 v 1 ∨ 0 ≤ jf st.2 v 2) := by simpa [jsome] using hq
            rw [hmn (by omega) (by omega) (by omega)] at hm; simp at hm
        rw [hjs] at hjr
        refine ⟨_, fs3.ms.cell (x := K.next + 1) (v := .map (some K.next)) (.head _), es, fs3.hM, ?_⟩
        refine ⟨s - x - (d + 1), ⟨[(0, ptr b), (1, int' s), (2, int' x), (9, ptr (K.next + 1)), (10, .func (.func 45) #[] #[ptr (K.next + 1)]), (11, int' ((x + (d + 1) + 1 : Nat) : Int))], []⟩, by omega, (by (refine ⟨?_, ?_⟩ <;> repeat' first | exact trivial | exact congrArg (fun x => some (Value.int .i64 x)) hwk2 | exact rfl | refine ⟨?_, ?_⟩ | fail)), d + 1, q3, mset es (int' ((x + d + 1 : Nat) : Int)) (int' mp.2), by omega, rfl, rfl, ?_, ?_⟩
        · rw [hjr]; exact fs3.set _
        · rw [hjr]; exact hI.set (by rw [hml]; omega) hm
      · have hm : mp.2 < 0 := by simp at hm; omega
        refine ⟨s - x - (d + 1), ⟨[(0, ptr b), (1, int' s), (2, int' x), (9, ptr (K.next + 1)), (10, .func (.func 45) #[] #[ptr (K.next + 1)]), (11, int' ((x + (d + 1) + 1 : Nat) : Int))], []⟩, by omega, (by (refine ⟨?_, ?_⟩ <;> repeat' first | exact trivial | exact congrArg (fun x => some (Value.int .i64 x)) hwk2 | exact rfl | refine ⟨?_, ?_⟩ | fail)), d + 1, q3, es, by omega, rfl, rfl, ?_, ?_⟩
        · rw [hjr]
          split
          · exact fs3
          · rename_i hjs
            have hjs : ¬ (0 ≤ jf st.2 v 0 ∨ 0 ≤ jf st.2 v 1 ∨ 0 ≤ jf st.2 v 2) := by simpa [jsome] using hjs
            rw [hmn (by omega) (by omega) (by omega)] at fs3; exact fs3
        · rw [hjr]
          split
          · exact hI.keep (by rw [hml]; omega) hm hnone
          · exact hI
  · have hge : ¬ x + d + 1 ≤ s := by simp at hge; omega
    obtain rfl : d = s - x := by omega
    have hin : (s : Int) < (jr g.vals x t (s - x)).2.length ∧ ∃ e, (jr g.vals x t (s - x)).1 = g.vals ++ e := by
      obtain ok := jr_ok hv hx ht (min (s - x) (g.vals.length - 1 - x)) (by omega)
      have : min (s - x) (g.vals.length - 1 - x) = s - x := by omega
      rw [this] at ok
      obtain ⟨e, he, _⟩ := ok.pre
      exact ⟨by rw [ok.len]; omega, e, he⟩
    obtain ⟨hin, e, he⟩ := hin
    have hget := hI (s : Int) (by omega) hin
    have hls := (valF_at fs.ms.at_.own.s.rd (i := (s : Int)) (by omega) (by dsimp only; rw [he]; simp; omega)).2.1
    rw [show vAtI (Graph.vals ⟨g.ins, (jr g.vals x t (s - x)).1, g.outs⟩) (s : Int) = vAtI g.vals (s : Int) from vAtI_pre he (by omega) (by omega), ← lenAt_v (vs := g.vals) (o := (s : Int)) rfl (by omega) (by omega)] at hls
    have hvk : g.vals[s]? = some (vAtI g.vals (s : Int)) := vAtI_get (vals := g.vals) (i := (s : Int)) (by omega) (by omega)
    have hlen : 0 ≤ lenAt g.vals s ∧ lenAt g.vals s ≤ 1000 := by
      have := valid_okl hv hvk
      rw [lenAt_v (vs := g.vals) (o := (s : Int)) rfl (by omega) (by omega)]
      simp [okLen] at this; omega
    have hzero : ∀ (hno : ¬ (x ≤ s ∧ 0 ≤ atV (jr g.vals x t (s - x)).2 (s : Int))), jvpP g.vals s x t = ((jr g.vals x t (s - x)).1 ++ [opV 1 (lenAt g.vals s) 0 0 0], ((jr g.vals x t (s - x)).1.length : Int)) := fun hno => by unfold jvpP; rw [if_neg hno]
    by_cases hm : 0 ≤ atV (jr g.vals x t (s - x)).2 (s : Int)
    · rw [if_pos hm] at hget
      refine ⟨_, fs.ms.cell (x := K.next + 1) (v := .map (some K.next)) (.head _), .tuple #[int' (atV (jr g.vals x t (s - x)).2 (s : Int)), .bool true], ⟨es, fs.hM, by rw [hget]; rfl⟩, fun hy => ?_, fun hn => ?_⟩
      · have hy : x ≤ s := by simpa using hy
        rw [show jvpP g.vals s x t = ((jr g.vals x t (s - x)).1, atV (jr g.vals x t (s - x)).2 (s : Int)) by unfold jvpP; rw [if_pos ⟨hy, hm⟩]]
        exact fs.ms.fin _
      · have hn : ¬ x ≤ s := by simp at hn; omega
        rw [hzero (by omega)]
        refine ⟨_, fs.ms.at_.cell1, ⟨by omega, by rw [he]; simp; omega⟩, _, hls, _, fs.ms.zeros _ hlen, MR.elim fun q9 X9 ms9 => ms9.fin _, fun _ X h => h.pan (Pre.refl _)⟩
    · rw [if_neg hm] at hget
      refine ⟨_, fs.ms.cell (x := K.next + 1) (v := .map (some K.next)) (.head _), .tuple #[int' 0, .bool false], ⟨es, fs.hM, by rw [hget]; rfl⟩, fun hy => by simp at hy, fun hn => ?_⟩
      rw [hzero (by omega)]
      refine ⟨_, fs.ms.at_.cell1, ⟨by omega, by rw [he]; simp; omega⟩, _, hls, _, fs.ms.zeros _ hlen, MR.elim fun q9 X9 ms9 => ms9.fin _, fun _ X h => h.pan (Pre.refl _)⟩
end Go.Proofs.Ytimenmejmofkaaa
