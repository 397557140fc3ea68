/- The program's gradient: the rule of a value. Conditions: those of each. The program's gradient, walked. Conditions: the graph is valid, the indexes are its own. -/
import Derived.Test.YtaaelokodfildaaGrf
set_option linter.unusedVariables false
set_option linter.unusedSimpArgs false
namespace Go.Proofs.Ytaaelokodfildaa
open Go.Am

/-- Boxes of a rule. -/
structure RB where
  i : Nat
  at_ : Nat
def RB.val (ρ : RB) : Value := .func (.func 60) #[] #[ptr ρ.at_, ptr (ρ.at_ + 2), ptr (ρ.at_ + 3), ptr (ρ.at_ + 1), ptr (ρ.at_ + 4)]
/-- What the boxes hold. -/
def RB.has (ρ : RB) (b : Nat) (v : Val) (src : Int) (x : Nat) (c : Blk) : Prop :=
  (x = ρ.at_ ∧ c = .cells [ptr b] 1 true) ∨ (x = ρ.at_ + 1 ∧ c = .cells [int' (ρ.i : Int)] 1 true) ∨ (x = ρ.at_ + 2 ∧ c = .cells (vcells v) 6 true) ∨ (x = ρ.at_ + 3 ∧ c = .cells [int' v.len] 1 true) ∨ (x = ρ.at_ + 4 ∧ c = .cells [int' src] 1 true)
def srcV (vals : List Val) (v : Val) : Int := if 0 < opnd v.op then lenAt vals v.a else 0
/-- What backward leaves. -/
def BWR (X : Heap) (b : Nat) (vs : List Val) (v : Val) (i : Nat) (e : AEnd) (X' : Heap) : Prop := ∃ ρ : RB, ρ.i = i ∧ e = .ret ρ.val ∧ Ext X X' ∧ X.next ≤ ρ.at_ ∧ ∀ x c, ρ.has b v (srcV vs v) x c → X'.blk x = some c
theorem BWR.no {X X' : Heap} {b i : Nat} {vs : List Val} {v : Val} {u : Value} (h : BWR X b vs v i (.pan u) X') : False := by obtain ⟨_, _, h, _⟩ := h; cases h
set_option maxHeartbeats 1000000 in
theorem backward_ec (X : Heap) (lo b : Nat) (p q r : Option Addr) (ins outs : List Int) (vs : List Val) (v : Val) (i : Nat) (h : BAt X lo b p q r ins vs outs) (hi : i < vs.length) (hv : vAtI vs (i : Int) = v) (hin : OpsIn v vs.length) :
    EC Try.prog 48 [ptr b, int' i] X (BWR X b vs v i) := by
  obtain ⟨bq, rfl⟩ : ∃ bq, q = some ⟨bq, 0, none⟩ := bufq_some h.own.s (by show 0 < vs.length; omega)
  have e0 : Ext X ((X.push (.cells [ptr b] 1 true)).push (.cells [int' (i : Int)] 1 true)) := (Ext.push _ _).push' _
  have h0 := h.mono e0
  obtain ⟨_, _, _, _, hva⟩ := valF_at h0.own.s.rd (i := (i : Int)) (by omega) (by dsimp only; omega)
  dsimp only at hva
  rw [hv] at hva
  have cB : ((X.push (.cells [ptr b] 1 true)).push (.cells [int' (i : Int)] 1 true)).cell? X.next 0 = some (ptr b) := cell0 ((Ext.push _ _).same _ _ (push_blk _ _))
  have cI : ((X.push (.cells [ptr b] 1 true)).push (.cells [int' (i : Int)] 1 true)).cell? (X.next + 1) 0 = some (int' (i : Int)) := cell0 (push_blk (X.push _) _)
  refine EC_fn ctx (fun t => t != 2 && t != 3 && t != 5 && t != 6 && t != 7) Try.func48 rfl rfl rfl ?_
  refine ⟨.leaf [([0, 1, 2, 3, 4, 5, 6, 7], some 8), ([], some 9), ([], none)] [0, 1, 2, 3, 4, 5, 6, 7, 200009], by kernel_rfl, _, cB, _, h0.cell1, _, cI, ⟨by omega, by omega⟩, valV v, hva, ?_⟩
  refine ⟨Ext.push _ _, stOK_push _ _ _ _ _ (Nat.le_refl 6), ?_⟩
  have y1 : ((((X.push (.cells [ptr b] 1 true)).push (.cells [int' (i : Int)] 1 true)).push (.cells [.int .i64 0, .int .i64 0, .int .i64 0, .int .i64 0, .int .i64 0, .float .f64 0] 6 true)).stor (X.next + 2) 0 (vcells v)) = ((X.push (.cells [ptr b] 1 true)).push (.cells [int' (i : Int)] 1 true)).push (.cells (vcells v) 6 true) := stor_push ((X.push (.cells [ptr b] 1 true)).push (.cells [int' (i : Int)] 1 true)) _ 6 true 0 _
  have y2 : ((((((X.push (.cells [ptr b] 1 true)).push (.cells [int' (i : Int)] 1 true)).push (.cells [.int .i64 0, .int .i64 0, .int .i64 0, .int .i64 0, .int .i64 0, .float .f64 0] 6 true)).stor (X.next + 2) 0 (vcells v)).push (.cells [int' 0] 1 true)).stor (X.next + 3) 0 [int' v.len]) = (((X.push (.cells [ptr b] 1 true)).push (.cells [int' (i : Int)] 1 true)).push (.cells (vcells v) 6 true)).push (.cells [int' v.len] 1 true) := by rw [y1]; exact stor_push (((X.push (.cells [ptr b] 1 true)).push (.cells [int' (i : Int)] 1 true)).push (.cells (vcells v) 6 true)) [int' 0] 1 true 0 _
  have y3 : ∀ z, (((((((X.push (.cells [ptr b] 1 true)).push (.cells [int' (i : Int)] 1 true)).push (.cells [.int .i64 0, .int .i64 0, .int .i64 0, .int .i64 0, .int .i64 0, .float .f64 0] 6 true)).stor (X.next + 2) 0 (vcells v)).push (.cells [int' 0] 1 true)).stor (X.next + 3) 0 [int' v.len]).push (.cells [int' 0] 1 true)).stor (X.next + 4) 0 [int' z] = [.cells [ptr b] 1 true, .cells [int' (i : Int)] 1 true, .cells (vcells v) 6 true, .cells [int' v.len] 1 true, .cells [int' z] 1 true].foldl Heap.push X := fun z => by rw [y2]; exact stor_push ((((X.push (.cells [ptr b] 1 true)).push (.cells [int' (i : Int)] 1 true)).push (.cells (vcells v) 6 true)).push (.cells [int' v.len] 1 true)) [int' 0] 1 true 0 _
  have c1 : ((((X.push (.cells [ptr b] 1 true)).push (.cells [int' (i : Int)] 1 true)).push (.cells [.int .i64 0, .int .i64 0, .int .i64 0, .int .i64 0, .int .i64 0, .float .f64 0] 6 true)).stor (X.next + 2) 0 (vcells v)).cell? (X.next + 2) 1 = some (int' v.len) := by rw [y1]; unfold Heap.cell?; rw [show (((X.push (.cells [ptr b] 1 true)).push (.cells [int' (i : Int)] 1 true)).push (.cells (vcells v) 6 true)).blk (X.next + 2) = _ from push_blk ((X.push (.cells [ptr b] 1 true)).push (.cells [int' (i : Int)] 1 true)) _]; rfl
  refine ⟨_, c1, stOK_push _ _ _ _ _ (Nat.le_refl 1), ?_⟩
  refine ⟨stOK_push _ _ _ _ _ (Nat.le_refl 1), ?_⟩
  have y30 := y3 0
  obtain ⟨_, hx, hb⟩ := pushAll X [.cells [ptr b] 1 true, .cells [int' (i : Int)] 1 true, .cells (vcells v) 6 true, .cells [int' v.len] 1 true, .cells [int' 0] 1 true]
  rw [← y30] at hx hb
  have cV : ∀ o u, (vcells v)[o]? = some u → ((((((((X.push (.cells [ptr b] 1 true)).push (.cells [int' (i : Int)] 1 true)).push (.cells [.int .i64 0, .int .i64 0, .int .i64 0, .int .i64 0, .int .i64 0, .float .f64 0] 6 true)).stor (X.next + 2) 0 (vcells v)).push (.cells [int' 0] 1 true)).stor (X.next + 3) 0 [int' v.len]).push (.cells [int' 0] 1 true)).stor (X.next + 4) 0 [int' 0]).cell? (X.next + 2) o = some u := fun o u hu => by unfold Heap.cell?; rw [hb 2 _ rfl]; exact hu
  have c2 := cV 0 (.int .i64 v.op) rfl
  refine ⟨_, c2, _, operands_pc _ _, ?_, fun v K hR => by cases hR.1⟩
  rintro _ Y ⟨hxx, rfl⟩
  cases hxx
  have fin : ∀ z : Int, z = srcV vs v → BWR X b vs v i (.ret (.func (.func 60) #[] #[ptr X.next, ptr (X.next + 2), ptr (X.next + 3), ptr (X.next + 1), ptr (X.next + 4)])) ([.cells [ptr b] 1 true, .cells [int' (i : Int)] 1 true, .cells (vcells v) 6 true, .cells [int' v.len] 1 true, .cells [int' z] 1 true].foldl Heap.push X) := fun z hz => by
    obtain ⟨_, hx, hb⟩ := pushAll X [.cells [ptr b] 1 true, .cells [int' (i : Int)] 1 true, .cells (vcells v) 6 true, .cells [int' v.len] 1 true, .cells [int' z] 1 true]
    refine ⟨⟨i, X.next⟩, rfl, rfl, hx, Nat.le_refl _, fun x c hc => ?_⟩
    rcases hc with ⟨h1, h2⟩ | ⟨h1, h2⟩ | ⟨h1, h2⟩ | ⟨h1, h2⟩ | ⟨h1, h2⟩
    · rw [h1, h2]; exact hb 0 _ rfl
    · rw [h1, h2]; exact hb 1 _ rfl
    · rw [h1, h2]; exact hb 2 _ rfl
    · rw [h1, h2]; exact hb 3 _ rfl
    · rw [h1, h2, ← hz]; exact hb 4 _ rfl
  refine ⟨fun hp => ?_, fun hp => ?_⟩
  · have hp : 0 < opnd v.op := by simpa using hp
    have ha := hin.a hp
    have h3 := h.mono hx
    have hla := (valF_at h3.own.s.rd (i := v.a) ha.1 (by dsimp only; omega)).2.1
    dsimp only at hla
    rw [show (vAtI vs v.a).len = lenAt vs v.a by unfold lenAt; rw [vAtI_get ha.1 ha.2]; rfl] at hla
    have cB3 : ((((((((X.push (.cells [ptr b] 1 true)).push (.cells [int' (i : Int)] 1 true)).push (.cells [.int .i64 0, .int .i64 0, .int .i64 0, .int .i64 0, .int .i64 0, .float .f64 0] 6 true)).stor (X.next + 2) 0 (vcells v)).push (.cells [int' 0] 1 true)).stor (X.next + 3) 0 [int' v.len]).push (.cells [int' 0] 1 true)).stor (X.next + 4) 0 [int' 0]).cell? X.next 0 = some (ptr b) := cell0 (hb 0 _ rfl)
    have cZ : ((((((((X.push (.cells [ptr b] 1 true)).push (.cells [int' (i : Int)] 1 true)).push (.cells [.int .i64 0, .int .i64 0, .int .i64 0, .int .i64 0, .int .i64 0, .float .f64 0] 6 true)).stor (X.next + 2) 0 (vcells v)).push (.cells [int' 0] 1 true)).stor (X.next + 3) 0 [int' v.len]).push (.cells [int' 0] 1 true)).stor (X.next + 4) 0 [int' 0]).stOK (X.next + 4) 0 1 := ⟨_, _, hb 4 _ rfl, by simp⟩
    refine ⟨.leaf [([0, 1, 2, 3, 4, 5, 6, 7, 8, 9], some 10), ([], none)] [200010], by kernel_rfl, ?_⟩
    refine ⟨_, cB3, _, h3.cell1, _, cV 2 (.int .i64 v.a) rfl, ⟨ha.1, by omega⟩, _, hla, cZ, ?_⟩
    have hY : ((((((((X.push (.cells [ptr b] 1 true)).push (.cells [int' (i : Int)] 1 true)).push (.cells [.int .i64 0, .int .i64 0, .int .i64 0, .int .i64 0, .int .i64 0, .float .f64 0] 6 true)).stor (X.next + 2) 0 (vcells v)).push (.cells [int' 0] 1 true)).stor (X.next + 3) 0 [int' v.len]).push (.cells [int' 0] 1 true)).stor (X.next + 4) 0 [int' 0]).stor (X.next + 4) 0 [int' (lenAt vs v.a)] = [.cells [ptr b] 1 true, .cells [int' (i : Int)] 1 true, .cells (vcells v) 6 true, .cells [int' v.len] 1 true, .cells [int' (lenAt vs v.a)] 1 true].foldl Heap.push X := by
      rw [y30]
      exact stor_push ((((X.push (.cells [ptr b] 1 true)).push (.cells [int' (i : Int)] 1 true)).push (.cells (vcells v) 6 true)).push (.cells [int' v.len] 1 true)) [int' 0] 1 true 0 _
    have := fin (lenAt vs v.a) (by unfold srcV; rw [if_pos hp])
    rw [← hY] at this
    exact this
  · have hp : ¬ 0 < opnd v.op := by simpa using hp
    have := fin 0 (by unfold srcV; rw [if_neg hp])
    rw [← y30] at this
    exact this
end Go.Proofs.Ytaaelokodfildaa

set_option linter.unusedVariables false
namespace Go.Proofs.Ytaaelokodfildaa
open Go.Am

theorem rd_argsB {X : Heap} {bl : Nat} {v : Val} (h : X.blk bl = some (.cells (flat dInt [v.a, v.b, v.c]) 1 true)) : Rd dInt X (some ⟨bl, 0, none⟩) (argsL v) := by
  have hr := opnd3 v.op
  have hb : Rd dInt X (some ⟨bl, 0, none⟩) [v.a, v.b, v.c] := Rd.blk h
  exact hb.sub (l := 0) (n := (opnd v.op).toNat) (by simp; omega)
theorem repB_len2 (n : Nat) : (repL n [Value.bool false]).length = n := by rw [flat_rep dBool false [.bool false] rfl, flat_len]; simp; exact Nat.mul_one n
theorem cellB2 {H : Heap} {b o : Nat} {l : List Bool} (h : Rd dBool H (some ⟨b, o, none⟩) l) {j : Int} (h0 : 0 ≤ j) (hj : j < l.length) : H.cell? b (o + j.toNat * 1) = some (.bool (baL l j.toNat)) := by
  obtain ⟨b', o', e, hc⟩ := h.cell (baL_get (l := l) (i := j.toNat) (by omega))
  cases e
  exact hc
/-- The first half: what is active, the rules. -/
structure P1 (K X : Heap) (b : Nat) (vals : List Val) (ac : List Bool) (rs : List RB) (es : List (Value × Value)) : Prop where
  e : Ext K X
  hA : X.blk K.next = some (.cells (flat dBool ac) 1 true)
  hM : X.blk (K.next + 1) = some (.map kkI es)
  ru : ∀ ρ ∈ rs, K.next + 2 ≤ ρ.at_ ∧ ∀ x c, ρ.has b (vAtI vals (ρ.i : Int)) (srcV vals (vAtI vals (ρ.i : Int))) x c → X.blk x = some c
theorem RB.ge {ρ : RB} {b : Nat} {v : Val} {src : Int} {x : Nat} {c : Blk} (h : ρ.has b v src x c) : ρ.at_ ≤ x := by
  rcases h with ⟨h, _⟩ | ⟨h, _⟩ | ⟨h, _⟩ | ⟨h, _⟩ | ⟨h, _⟩ <;> omega
section
variable {K X : Heap} {b : Nat} {vals : List Val} {ac : List Bool} {rs : List RB} {es : List (Value × Value)}
theorem P1.ext (h : P1 K X b vals ac rs es) {X' : Heap} (e : Ext X X') : P1 K X' b vals ac rs es :=
  ⟨h.e.trans e, e.same _ _ h.hA, e.same _ _ h.hM, fun ρ hρ => ⟨(h.ru ρ hρ).1, fun x c hc => e.same _ _ ((h.ru ρ hρ).2 x c hc)⟩⟩
theorem P1.setA (h : P1 K X b vals ac rs es) {i o : Nat} (y : Bool) (hi : i < ac.length) (ho : o = 0 + i * 1) : X.stOK K.next o 1 ∧ P1 K (X.stor K.next o [.bool y]) b vals (ac.set i y) rs es := by
  subst ho
  obtain ⟨s1, s2⟩ := stor_but dBool h.hA (i := i) (o := 0 + i * 1) (l := [.bool y]) y hi (by show 0 + i * 1 = i * 1; omega) rfl
  refine ⟨⟨_, _, h.hA, by rw [flat_len]; show 0 + i * 1 + 1 ≤ ac.length * 1; omega⟩, ⟨h.e.next, fun x c hc => (stor_other (by have := K.lt _ _ hc; omega)).trans (h.e.same x c hc)⟩, s1, (stor_other (by omega)).trans h.hM, fun ρ hρ => ⟨(h.ru ρ hρ).1, fun x c hc => (stor_other (by have := RB.ge hc; have := (h.ru ρ hρ).1; omega)).trans ((h.ru ρ hρ).2 x c hc)⟩⟩
theorem P1.setM (h : P1 K X b vals ac rs es) (es' : List (Value × Value)) : P1 K (X.put (K.next + 1) (.map kkI es')) b vals ac rs es' := by
  have hlt := X.lt _ _ h.hM
  have hne : ∀ x c, x ≠ K.next + 1 → X.blk x = some c → (X.put (K.next + 1) (.map kkI es')).blk x = some c := fun x c hx hc => by rw [put_blk _ _ _ _ hlt, if_neg hx]; exact hc
  refine ⟨⟨h.e.next, fun x c hc => hne x c (by have := K.lt _ _ hc; omega) (h.e.same x c hc)⟩, hne _ _ (by omega) h.hA, by rw [put_blk _ _ _ _ hlt, if_pos rfl], fun ρ hρ => ⟨(h.ru ρ hρ).1, fun x c hc => hne x c (by have := RB.ge hc; have := (h.ru ρ hρ).1; omega) ((h.ru ρ hρ).2 x c hc)⟩⟩
theorem P1.add (h : P1 K X b vals ac rs es) {ρ : RB} (h1 : K.next + 2 ≤ ρ.at_) (h2 : ∀ x c, ρ.has b (vAtI vals (ρ.i : Int)) (srcV vals (vAtI vals (ρ.i : Int))) x c → X.blk x = some c) : P1 K X b vals ac (ρ :: rs) es :=
  ⟨h.e, h.hA, h.hM, fun ρ' hρ => by
    rcases List.mem_cons.1 hρ with rfl | h'
    · exact ⟨h1, h2⟩
    · exact h.ru ρ' h'⟩
end
/-- The rules are there for what is active. -/
def RInv (es : List (Value × Value)) (rs : List RB) (ac : List Bool) (x d : Nat) : Prop := ∀ j : Nat, x < j → j ≤ x + d → baL ac j = true → ∃ ρ ∈ rs, ρ.i = j ∧ mget es (int' (j : Int)) = some ρ.val
theorem RInv.skip {es : List (Value × Value)} {rs : List RB} {ac ac' : List Bool} {x d : Nat} (h : RInv es rs ac x d) (hs : ∀ j, j ≤ x + d → baL ac' j = baL ac j) (hn : baL ac' (x + d + 1) = false) : RInv es rs ac' x (d + 1) := fun j h1 h2 h3 => by
  by_cases e : j = x + d + 1
  · subst e; rw [hn] at h3; cases h3
  · exact h j h1 (by omega) (by rw [← hs j (by omega)]; exact h3)
theorem RInv.new {es : List (Value × Value)} {rs : List RB} {ac ac' : List Bool} {x d : Nat} (h : RInv es rs ac x d) (hs : ∀ j, j ≤ x + d → baL ac' j = baL ac j) {ρ : RB} (hρ : ρ.i = x + d + 1) : RInv (mset es (int' ((x + d + 1 : Nat) : Int)) ρ.val) (ρ :: rs) ac' x (d + 1) := fun j h1 h2 h3 => by
  by_cases e : j = x + d + 1
  · subst e
    exact ⟨ρ, by simp, hρ, by rw [mget_mset, if_pos rfl]⟩
  · obtain ⟨ρ', k1, k2, k3⟩ := h j h1 (by omega) (by rw [← hs j (by omega)]; exact h3)
    exact ⟨ρ', by simp [k1], k2, by rw [mget_mset, if_neg (by omega)]; exact k3⟩
theorem valid_opC {g : Graph} (h : validB g = true) {i : Nat} {v : Val} (hv : g.vals[i]? = some v) : 0 ≤ v.op ∧ v.op ≤ 13 := by
  simp only [validB, Bool.and_eq_true, decide_eq_true_eq] at h
  obtain ⟨⟨⟨⟨⟨⟨v1, v2⟩, v3⟩, v4⟩, v5⟩, v6⟩, v7⟩ := h
  rw [List.all_eq_true] at v5
  have hi : i < g.vals.length := (List.getElem?_eq_some_iff.1 hv).1
  have := v5 i (List.mem_range.2 hi)
  rw [vAt_get hv] at this
  simp only [vokB, Bool.and_eq_true, decide_eq_true_eq] at this
  exact this.1.1
theorem acL_true {N : Nat} {vals : List Val} {x : Nat} (hx : x < N) : ∀ d, x + d < N → ∀ j, x < j → j ≤ x + d → baL (acL N vals x d) j = true → 0 < opnd (vAtI vals (j : Int)).op
  | 0, _, j, h1, h2, _ => by omega
  | d + 1, hN, j, h1, h2, h3 => by
    simp only [acL] at h3
    rw [baL_set _ _ _ _ (by rw [acL_len]; omega)] at h3
    by_cases e : j = x + d + 1
    · subst e
      rw [if_pos rfl] at h3
      have h4 := opnd3 (vAtI vals ((x + d + 1 : Nat) : Int)).op
      have : opnd (vAtI vals ((x + d + 1 : Nat) : Int)).op ≠ 0 := fun h0 => by
        have hl := argsL_len (vAtI vals ((x + d + 1 : Nat) : Int))
        rw [h0] at hl
        unfold anyK at h3
        rw [List.length_eq_zero_iff.1 (show (argsL (vAtI vals ((x + d + 1 : Nat) : Int))).length = 0 from hl)] at h3
        simp at h3
      omega
    · rw [if_neg e] at h3
      exact acL_true hx d (by omega) j h1 (by omega) h3
/-- A map besides what is kept. -/
def withM (D : Nat → Blk → Prop) (M : Nat) (es : List (Value × Value)) : Nat → Blk → Prop := fun y c => D y c ∨ (y = M ∧ c = .map kkI es)
section
variable {K0 X : Heap} {q0 : Option Addr} {lo b : Nat} {p q r : Option Addr} {ins outs : List Int} {vs : List Val} {D : Nat → Blk → Prop} {M : Nat} {es : List (Value × Value)}
theorem KS.start (h : BAt X lo b p q r ins vs outs) (hlo : lo ≤ X.next) : KS X q X lo b p q r ins outs vs (fun _ _ => False) :=
  ⟨h, .refl _ _ _, .refl _ _, hlo, fun x c h => h.elim⟩
theorem KS.setM (ks : KS K0 q0 X lo b p q r ins outs vs (withM D M es)) (hD : ∀ y c, D y c → y ≠ M) (hp : ∀ o, p ≠ some ⟨M, o, none⟩) (hr : ∀ o, r ≠ some ⟨M, o, none⟩) (hk : K0.next ≤ M) (es' : List (Value × Value)) : KS K0 q0 (X.put M (.map kkI es')) lo b p q r ins outs vs (withM D M es') := by
  obtain ⟨hM, hMb, hMq⟩ := ks.kb M _ (.inr ⟨rfl, rfl⟩)
  have hlt := X.lt _ _ hM
  have hne : ∀ x c, x ≠ M → X.blk x = some c → (X.put M (.map kkI es')).blk x = some c := fun x c hx hc => by rw [put_blk _ _ _ _ hlt, if_neg hx]; exact hc
  refine ⟨⟨hne _ _ (Ne.symm hMb) ks.at_.blk, keep_own ks.at_.own M (fun o => ⟨hp o, hMq o, hr o⟩) (fun x c hx hc => hne x c hx hc), ks.at_.lob, ks.at_.nb, ks.at_.fit, ks.at_.len⟩, ⟨ks.fr.next, fun x c h1 h2 h3 => hne x c (by have := K0.lt _ _ h3; omega) (ks.fr.same x c h1 h2 h3)⟩, ks.nq, ks.lo_, fun x c hx => ?_⟩
  rcases hx with hx | ⟨rfl, rfl⟩
  · obtain ⟨a1, a2, a3⟩ := ks.kb x c (.inl hx)
    exact ⟨hne x c (hD x c hx) a1, a2, a3⟩
  · exact ⟨by rw [put_blk _ _ _ _ hlt, if_pos rfl], hMb, hMq⟩
end
theorem BAt.plt {X : Heap} {lo b : Nat} {p q r : Option Addr} {ins outs : List Int} {vs : List Val} (h : BAt X lo b p q r ins vs outs) : (∀ x o, p = some ⟨x, o, none⟩ → x < X.next) ∧ (∀ x o, q = some ⟨x, o, none⟩ → x < X.next) ∧ ∀ x o, r = some ⟨x, o, none⟩ → x < X.next := h.own.hi_
/-- What the first half leaves for the second. -/
def gD (K : Heap) (b : Nat) (vals : List Val) (ac : List Bool) (rs : List RB) (es : List (Value × Value)) : Nat → Blk → Prop := fun y c =>
  (y = K.next ∧ c = .cells (flat dBool ac) 1 true) ∨ (y = K.next + 1 ∧ c = .map kkI es) ∨ ∃ ρ ∈ rs, ρ.has b (vAtI vals (ρ.i : Int)) (srcV vals (vAtI vals (ρ.i : Int))) y c
theorem P1.gD {K X : Heap} {b : Nat} {vals : List Val} {ac : List Bool} {rs : List RB} {es : List (Value × Value)} (P : P1 K X b vals ac rs es) {y : Nat} {c : Blk} (h : gD K b vals ac rs es y c) : X.blk y = some c ∧ K.next ≤ y := by
  rcases h with ⟨rfl, rfl⟩ | ⟨rfl, rfl⟩ | ⟨ρ, hρ, h⟩
  · exact ⟨P.hA, Nat.le_refl _⟩
  · exact ⟨P.hM, Nat.le_succ _⟩
  · obtain ⟨h1, h2⟩ := P.ru ρ hρ
    exact ⟨h2 y c h, by have := RB.ge h; omega⟩
set_option maxHeartbeats 4000000 in
theorem gradient_ec (K : Heap) (lo b : Nat) (p q r : Option Addr) (g : Graph) (s x : Nat) (h : BAt K lo b p q r g.ins g.vals g.outs) (hlo : lo ≤ K.next) (hv : validB g = true) (hs : s < g.vals.length) (hx : x < g.vals.length) :
    EC Try.prog 23 [ptr b, int' s, int' x] K (BR K lo b p q r g.ins g.outs (gradP g.vals s x)) := by
  obtain ⟨h1, h2, h3⟩ := valid_lens hv
  have C := GC.of hv hs
  have hops := valid_ops hv
  obtain ⟨bq, rfl⟩ : ∃ bq, q = some ⟨bq, 0, none⟩ := bufq_some h.own.s (by show 0 < g.vals.length; omega)
  obtain ⟨N, hN⟩ : ∃ N, N = max s x + 1 := ⟨_, rfl⟩
  have hwM : IntKind.i64.wrap ((if (x : Int) > (s : Int) then (x : Int) else (s : Int)) + 1) = (N : Int) := by
    rw [wrap_i64 (by split <;> omega) (by split <;> omega)]; split <;> omega
  have hwT : (IntKind.i64.wrap ((if (x : Int) > (s : Int) then (x : Int) else (s : Int)) + 1)).toNat = N := by rw [hwM]; rfl
  have hwx := wrap_nat (k := x) (by omega)
  refine EC_fn ctx (fun t => t != 16) Try.func23 rfl rfl rfl ?_
  refine ⟨⟨by omega, by omega, by omega, by dsimp only; omega⟩, ?_⟩
  refine ⟨⟨by omega, by omega⟩, stOK_push _ _ _ _ _ (by have := repB_len2 (IntKind.i64.wrap ((if (x : Int) > (s : Int) then (x : Int) else (s : Int)) + 1)).toNat; show 0 + x * 1 + 1 ≤ (repL (IntKind.i64.wrap ((if (x : Int) > (s : Int) then (x : Int) else (s : Int)) + 1)).toNat [Value.bool false]).length; omega), ?_⟩
  have p0 : P1 K (((K.push (.cells (repL (IntKind.i64.wrap ((if (x : Int) > (s : Int) then (x : Int) else (s : Int)) + 1)).toNat [.bool false]) 1 true)).stor K.next (0 + ((x : Int)).toNat * 1) [.bool true]).push (.map kkI [])) b g.vals (acL N g.vals x 0) [] [] := by
    have hst : (K.push (.cells (repL (IntKind.i64.wrap ((if (x : Int) > (s : Int) then (x : Int) else (s : Int)) + 1)).toNat [.bool false]) 1 true)).stor K.next (0 + ((x : Int)).toNat * 1) [.bool true] = K.push (.cells (flat dBool (acL N g.vals x 0)) 1 true) := by
      rw [hwT, flat_rep dBool false [.bool false] rfl]
      exact stor_elem dBool K _ true (by simp; omega) (by show 0 + x * 1 = x * 1; omega) rfl
    rw [hst]
    exact ⟨(Ext.push _ _).push' _, (Ext.push _ _).same _ _ (push_blk _ _), push_blk (K.push _) _, fun ρ hρ => by cases hρ⟩
  refine loop_ind ctx (fun t => t != 16) (fun m E X => ∃ (d : Nat) (rs : List RB) (es : List (Value × Value)), d ≤ s - x ∧ m = s - x - d ∧ E = ⟨[(0, ptr b), (1, int' s), (2, int' x), (7, .slice (some ⟨K.next, 0, none⟩) N N), (8, .map (some (K.next + 1))), (9, int' ((x + d + 1 : Nat) : Int))], []⟩ ∧ P1 K X b g.vals (acL N g.vals x d) rs es ∧ RInv es rs (acL N g.vals x d) x d)
    (E0 := ⟨[(0, ptr b), (1, int' s), (2, int' x), (7, .slice (some ⟨K.next, 0, none⟩) N N), (8, .map (some (K.next + 1))), (9, int' ((x + 0 + 1 : Nat) : Int))], []⟩) ⟨0, [], [], Nat.zero_le _, rfl, rfl, p0, fun j h1 h2 => by omega⟩ (by (refine ⟨?_, ?_⟩ <;> repeat' first | exact trivial | exact congrArg (fun n => some (Value.slice (some ⟨K.next, 0, none⟩) n n)) hwT | exact congrArg (fun x => some (Value.int .i64 x)) hwx | exact rfl | refine ⟨?_, ?_⟩ | fail)) ?_
  clear p0
  rintro m E X ⟨d, rs, es, hd, rfl, rfl, P, R⟩
  refine ⟨fun hlt => ?_, fun hge => ?_⟩
  · have hlt : x + d + 1 ≤ s := by simp at hlt; omega
    have hvk : g.vals[x + d + 1]? = some (vAtI g.vals ((x + d + 1 : Nat) : Int)) := vAtI_get (vals := g.vals) (i := ((x + d + 1 : Nat) : Int)) (by omega) (by omega)
    have hin := hops _ _ hvk
    have hac : acL N g.vals x (d + 1) = (acL N g.vals x d).set (x + d + 1) (anyK (acL N g.vals x d) (vAtI g.vals ((x + d + 1 : Nat) : Int)) (argsL (vAtI g.vals ((x + d + 1 : Nat) : Int))).length) := rfl
    have hml := acL_len N g.vals x d
    have hfalse := acL_false N g.vals x (by omega) d (x + d + 1) (by omega)
    have hX := h.mono P.e
    obtain ⟨_, _, _, _, hva⟩ := valF_at hX.own.s.rd (i := ((x + d + 1 : Nat) : Int)) (by omega) (by dsimp only; omega)
    dsimp only at hva
    have hnx := P.e.next
    have hwk2 : IntKind.i64.wrap (((x + d + 1 : Nat) : Int) + 1) = ((x + (d + 1) + 1 : Nat) : Int) := by rw [wrap_i64 (by omega) (by omega)]; omega
    generalize hvv : vAtI g.vals ((x + d + 1 : Nat) : Int) = v at *
    generalize hst : acL N g.vals x d = ac at *
    refine ⟨_, hX.cell1, ⟨by omega, by omega⟩, valV v, hva, _, operandsB_ec X v, ?_, fun v K hR => by cases hR.1⟩
    rintro _ X2 ⟨hx2, hX2⟩
    cases hx2
    have hl := argsL_len v
    have h3' := opnd3 v.op
    have P0 : P1 K X2 b g.vals (ac.set (x + d + 1) (anyK ac v 0)) rs es := by
      rw [show anyK ac v 0 = false by unfold anyK; simp, set_false hfalse, hX2]; exact P.ext (Ext.push _ _)
    have hbl : X2.blk X.next = some (.cells (flat dInt [v.a, v.b, v.c]) 1 true) := by rw [hX2]; exact push_blk _ _
    clear hX2
    have hA0 := X.lt _ _ P.hA
    have hM0 := X.lt _ _ P.hM
    refine loop_ind ctx (fun t => t != 16) (fun m E Y => ∃ k : Nat, k ≤ (argsL v).length ∧ m = (argsL v).length - k ∧ E = ⟨[(0, ptr b), (1, int' s), (2, int' x), (7, .slice (some ⟨K.next, 0, none⟩) N N), (8, .map (some (K.next + 1))), (9, int' ((x + d + 1 : Nat) : Int)), (48, .slice (some ⟨X.next, 0, none⟩) (argsL v).length (argsL v).length), (49, int' (((argsL v).length : Nat) : Int)), (50, int' ((k : Nat) : Int))], []⟩ ∧ P1 K Y b g.vals (ac.set (x + d + 1) (anyK ac v k)) rs es ∧ Y.blk X.next = some (.cells (flat dInt [v.a, v.b, v.c]) 1 true))
      (E0 := ⟨[(0, ptr b), (1, int' s), (2, int' x), (7, .slice (some ⟨K.next, 0, none⟩) N N), (8, .map (some (K.next + 1))), (9, int' ((x + d + 1 : Nat) : Int)), (48, .slice (some ⟨X.next, 0, none⟩) (argsL v).length (argsL v).length), (49, int' (((argsL v).length : Nat) : Int)), (50, int' ((0 : Nat) : Int))], []⟩) ⟨0, Nat.zero_le _, rfl, rfl, P0, hbl⟩ (by (refine ⟨?_, ?_⟩ <;> repeat' first | exact trivial | exact rfl | refine ⟨?_, ?_⟩ | fail)) ?_
    clear P0 hbl
    rintro m E Y ⟨k, hk, rfl, rfl, Q, hbl⟩
    have hwk3 := wrap_nat (k := k) (by omega)
    refine ⟨fun hlt2 => ?_, fun hge2 => ?_⟩
    · have hlt2 : k < (argsL v).length := by simpa using hlt2
      have hg := argsL_get (v := v) (j := k) (by omega)
      obtain ⟨ba, oa, hba, hc⟩ := (rd_argsB hbl).cell hg
      cases hba
      have hfld := opnd_fieldB hin (k := (k : Int)) (by omega) (by omega)
      have hsucc := anyK_succ ac v (k := k) (by omega)
      have hrd : Rd dBool Y (some ⟨K.next, 0, none⟩) (ac.set (x + d + 1) (anyK ac v k)) := Rd.blk Q.hA
      have hci := cellB2 hrd (j := ((x + d + 1 : Nat) : Int)) (by omega) (by rw [List.length_set, hml]; omega)
      have hco := cellB2 hrd (j := fieldV v k) hfld.1 (by rw [List.length_set, hml]; omega)
      rw [show baL (ac.set (x + d + 1) (anyK ac v k)) (((x + d + 1 : Nat) : Int)).toNat = anyK ac v k by rw [baL_set _ _ _ _ (by rw [hml]; omega), if_pos (by omega)]] at hci
      rw [show baL (ac.set (x + d + 1) (anyK ac v k)) (fieldV v k).toNat = baL ac (fieldV v k).toNat by rw [baL_set _ _ _ _ (by rw [hml]; omega), if_neg (by omega)]] at hco
      obtain ⟨hsk, Q2⟩ := Q.setA (i := x + d + 1) (o := 0 + (((x + d + 1 : Nat) : Int)).toNat * 1) (anyK ac v (k + 1)) (by rw [List.length_set, hml]; omega) rfl
      rw [List.set_set] at Q2
      have hval : (bif anyK ac v k then true else baL ac (fieldV v k).toNat) = anyK ac v (k + 1) := by rw [hsucc]; cases anyK ac v k <;> rfl
      refine ⟨⟨by omega, by omega⟩, _, hc, ⟨by omega, by omega⟩, _, hci, fun _ => ⟨hfld.1, by omega⟩, _, fun _ => hco, ⟨by omega, by omega⟩, hsk, ?_⟩
      rw [← hval] at Q2
      refine ⟨(argsL v).length - (k + 1), ⟨[(0, ptr b), (1, int' s), (2, int' x), (7, .slice (some ⟨K.next, 0, none⟩) N N), (8, .map (some (K.next + 1))), (9, int' ((x + d + 1 : Nat) : Int)), (48, .slice (some ⟨X.next, 0, none⟩) (argsL v).length (argsL v).length), (49, int' (((argsL v).length : Nat) : Int)), (50, int' ((k + 1 : Nat) : Int))], []⟩, by omega, (by (refine ⟨?_, ?_⟩ <;> repeat' first | exact trivial | exact congrArg (fun x => some (Value.int .i64 x)) hwk3 | exact rfl | refine ⟨?_, ?_⟩ | fail)), k + 1, by omega, rfl, rfl, ?_, ?_⟩
      · rw [← hval]; exact Q2
      · exact (stor_other (by omega)).trans hbl
    · have hk2 : k = (argsL v).length := by simp at hge2; omega
      subst hk2
      rw [← hac] at Q
      have hal : (acL N g.vals x (d + 1)).length = N := acL_len _ _ _ _
      have hsame : ∀ j, j ≤ x + d → baL (acL N g.vals x (d + 1)) j = baL ac j := fun j hj => by rw [hac, baL_set _ _ _ _ (by rw [hml]; omega), if_neg (by omega)]
      have hci := cellB2 (Rd.blk (d := dBool) Q.hA) (j := ((x + d + 1 : Nat) : Int)) (by omega) (by rw [hal]; omega)
      refine ⟨⟨by omega, by omega⟩, _, hci, fun ht => ?_, fun hf => ?_⟩
      · have hY := h.mono Q.e
        refine ⟨_, backward_ec Y lo b p _ r g.ins g.outs g.vals v (x + d + 1) hY (by omega) hvv (hin.mono (by omega)), ?_, fun v K hR => hR.no.elim⟩
        rintro _ Y2 ⟨ρ, hρ, hx2, e2, hat, hhas⟩
        cases hx2
        have hM2 := Y.lt _ _ Q.hM
        have Q2 := (Q.ext e2).add (ρ := ρ) (by omega) (by rw [hρ, hvv]; exact hhas)
        refine ⟨es, (Q.ext e2).hM, ?_⟩
        refine ⟨s - x - (d + 1), ⟨[(0, ptr b), (1, int' s), (2, int' x), (7, .slice (some ⟨K.next, 0, none⟩) N N), (8, .map (some (K.next + 1))), (9, int' ((x + (d + 1) + 1 : Nat) : Int))], []⟩, by omega, (by (refine ⟨?_, ?_⟩ <;> repeat' first | exact trivial | exact congrArg (fun x => some (Value.int .i64 x)) hwk2 | exact rfl | refine ⟨?_, ?_⟩ | fail)), d + 1, ρ :: rs, mset es (int' ((x + d + 1 : Nat) : Int)) ρ.val, by omega, rfl, rfl, Q2.setM _, R.new hsame hρ⟩
      · refine ⟨s - x - (d + 1), ⟨[(0, ptr b), (1, int' s), (2, int' x), (7, .slice (some ⟨K.next, 0, none⟩) N N), (8, .map (some (K.next + 1))), (9, int' ((x + (d + 1) + 1 : Nat) : Int))], []⟩, by omega, (by (refine ⟨?_, ?_⟩ <;> repeat' first | exact trivial | exact congrArg (fun x => some (Value.int .i64 x)) hwk2 | exact rfl | refine ⟨?_, ?_⟩ | fail)), d + 1, rs, es, by omega, rfl, rfl, Q, R.skip hsame (by have : (((x + d + 1 : Nat) : Int)).toNat = x + d + 1 := rfl; rw [← this]; exact hf)⟩
  · have hge : ¬ x + d + 1 ≤ s := by simp at hge; omega
    obtain rfl : d = s - x := by omega
    have hsame : ∀ j, j ≤ s → baL (acL N g.vals x (s - x)) j = baL (acL g.vals.length g.vals x (s - x)) j := fun j hj => acL_same hops (by omega) hx (s - x) (by omega) (by omega) (by omega) j (by omega) (by omega)
    have hal : (acL N g.vals x (s - x)).length = N := acL_len _ _ _ _
    have hcs := cellB2 (Rd.blk (d := dBool) P.hA) (j := (s : Int)) (by omega) (by rw [hal]; omega)
    rw [show baL (acL N g.vals x (s - x)) ((s : Int)).toNat = baL (acL g.vals.length g.vals x (s - x)) s from hsame s (Nat.le_refl _)] at hcs
    have hnx := P.e.next
    have hX := h.mono P.e
    have hlx := (valF_at hX.own.s.rd (i := (x : Int)) (by omega) (by dsimp only; omega)).2.1
    dsimp only at hlx
    rw [show (vAtI g.vals (x : Int)).len = lenAt g.vals x by unfold lenAt; rw [vAtI_get (by omega) (by omega)]; rfl] at hlx
    have hgz : (s < x ∨ baL (acL g.vals.length g.vals x (s - x)) s = false) → gradP g.vals s x = (g.vals ++ [opV 1 (lenAt g.vals x) 0 0 0], (g.vals.length : Int)) := fun h => by unfold gradP; rw [if_pos h]
    have hgn : ¬ (s < x ∨ baL (acL g.vals.length g.vals x (s - x)) s = false) → gradP g.vals s x = if atV (gr g.vals (baL (acL g.vals.length g.vals x (s - x))) s (g0 g.vals s) (s - x)).2 x < 0 then
      ((gr g.vals (baL (acL g.vals.length g.vals x (s - x))) s (g0 g.vals s) (s - x)).1 ++ [opV 1 (lenAt g.vals x) 0 0 0], ((gr g.vals (baL (acL g.vals.length g.vals x (s - x))) s (g0 g.vals s) (s - x)).1.length : Int))
      else ((gr g.vals (baL (acL g.vals.length g.vals x (s - x))) s (g0 g.vals s) (s - x)).1, atV (gr g.vals (baL (acL g.vals.length g.vals x (s - x))) s (g0 g.vals s) (s - x)).2 x) := fun h => by unfold gradP; rw [if_neg h]
    have hpc := fun hc d hd => grad_pre (x := x) C hc d hd
    have hact := acL_true (N := g.vals.length) (vals := g.vals) hx (s - x) (by omega)
    have hgo := fun d => gr_ok C (baL (acL g.vals.length g.vals x (s - x))) d
    generalize hy : gradP g.vals s x = y at *
    generalize acL g.vals.length g.vals x (s - x) = acn at *
    generalize acL N g.vals x (s - x) = ac at *
    have ks0 := (KS.start h hlo).ext P.e
    refine ⟨fun _ => ⟨by omega, by omega⟩, _, fun _ => hcs, fun hz => ?_, fun hz => ?_⟩
    · have hc : s < x ∨ baL acn s = false := by
        by_cases q : s < x
        · exact .inl q
        · right
          have q' : ¬ ((s : Int) < (x : Int)) := by omega
          simp [q'] at hz; exact hz
      rw [hgz hc]
      exact ⟨_, hX.cell1, ⟨by omega, by omega⟩, _, hlx, _, ks0.zeros _ (C.len _), KRes.elim2 fun q9 X9 k9 => k9.finB _, fun _ X h => h.panB (Pre.refl _)⟩
    · have hc : ¬ (s < x ∨ baL acn s = false) := by
        rintro (h | h)
        · have h' : (s : Int) < (x : Int) := by omega
          simp [h'] at hz
        · simp [h] at hz
      have hgn := hgn hc
      have hpc := hpc hc
      clear hgz hz
      have hxs : x ≤ s := by omega
      obtain ⟨pl1, pl2, pl3⟩ := h.plt
      have kM : KS K (some ⟨bq, 0, none⟩) (X.push (.map kkI [])) lo b p (some ⟨bq, 0, none⟩) r g.ins g.outs g.vals (withM (gD K b g.vals ac rs es) X.next []) := by
        have k := ks0.ext (Ext.push X (.map kkI []))
        refine ⟨k.at_, k.fr, k.nq, k.lo_, fun z c hz => ?_⟩
        have hbK := K.lt _ _ h.blk
        rcases hz with hz | ⟨rfl, rfl⟩
        · obtain ⟨a1, a2⟩ := P.gD hz
          exact ⟨(Ext.push X _).same _ _ a1, by omega, fun o e => by have := pl2 _ _ e; omega⟩
        · exact ⟨push_blk _ _, by omega, fun o e => by have := pl2 _ _ e; omega⟩
      have hDM : ∀ z c, gD K b g.vals ac rs es z c → z ≠ X.next := fun z c hz => by have := X.lt _ _ (P.gD hz).1; omega
      have hMp : ∀ o, p ≠ some ⟨X.next, o, none⟩ := fun o e => by have := pl1 _ _ e; omega
      have hMr : ∀ o, r ≠ some ⟨X.next, o, none⟩ := fun o e => by have := pl3 _ _ e; omega
      refine ⟨_, (put_ec (X.push (.map kkI [])) lo b p _ r g.ins g.outs g.vals oneV kM.at_ kM.lo_ ⟨by show (0:Int) ≤ 1; omega, by show (1:Int) ≤ 1000; omega⟩).mono fun _ _ h => kM.of_BR h, KRes.elim2 fun q1 X1 k1 => ?_, fun _ X h => h.panB (hpc 0 (Nat.zero_le _))⟩
      refine ⟨[], (k1.kb _ _ (.inr ⟨rfl, rfl⟩)).1, ?_⟩
      have k2 := k1.setM hDM hMp hMr hnx (mset [] (int' (s : Int)) (int' (g.vals.length : Int)))
      refine loop_ind ctx (fun t => t != 16) (fun m E Y => ∃ (d : Nat) (q' : Option Addr) (es1 : List (Value × Value)), d ≤ s - x ∧ m = s - x - d ∧ E = ⟨[(0, ptr b), (2, int' x), (7, .slice (some ⟨K.next, 0, none⟩) N N), (8, .map (some (K.next + 1))), (12, .map (some X.next)), (13, int' ((s - d : Nat) : Int))], []⟩ ∧ KS K (some ⟨bq, 0, none⟩) Y lo b p q' r g.ins g.outs (gr g.vals (baL acn) s (g0 g.vals s) d).1 (withM (gD K b g.vals ac rs es) X.next es1) ∧ MvInv es1 (gr g.vals (baL acn) s (g0 g.vals s) d).2)
        (E0 := ⟨[(0, ptr b), (2, int' x), (7, .slice (some ⟨K.next, 0, none⟩) N N), (8, .map (some (K.next + 1))), (12, .map (some X.next)), (13, int' ((s : Nat) : Int))], []⟩) ⟨0, q1, mset [] (int' (s : Int)) (int' (g.vals.length : Int)), Nat.zero_le _, rfl, rfl, k2, MvInv.start (n := s + 1) (x := s) (t := (g.vals.length : Int)) (by omega) (by omega)⟩ (by (refine ⟨?_, ?_⟩ <;> repeat' first | exact trivial | exact rfl | refine ⟨?_, ?_⟩ | fail)) ?_
      clear k1 k2 kM ks0
      rintro m E Y ⟨d, q', es1, hd, rfl, rfl, ks, hI⟩
      have ok := hgo d
      obtain ⟨e, he, hel, hew⟩ := ok.pre
      obtain ⟨bq', hq'⟩ : ∃ bq', q' = some ⟨bq', 0, none⟩ := bufq_some ks.at_.own.s (by show 0 < (gr g.vals (baL acn) s (g0 g.vals s) d).1.length; rw [he]; simp; omega)
      subst hq'
      have hM := (ks.kb _ _ (.inr ⟨rfl, rfl⟩)).1
      have hA := (ks.kb _ _ (.inl (.inl ⟨rfl, rfl⟩))).1
      have hM2 := (ks.kb _ _ (.inl (.inr (.inl ⟨rfl, rfl⟩)))).1
      refine ⟨fun hgt => ?_, fun hle => ?_⟩
      · have hgt : x < s - d := by simp at hgt; omega
        have hgr : gr g.vals (baL acn) s (g0 g.vals s) (d + 1) = gi g.vals (baL acn) (gr g.vals (baL acn) s (g0 g.vals s) d) (s - d) := rfl
        have hpcn := hpc (d + 1) (by omega)
        obtain ⟨i, hi⟩ : ∃ i, i = s - d := ⟨_, rfl⟩
        have hwi : IntKind.i64.wrap ((i : Int) - 1) = ((s - (d + 1) : Nat) : Int) := by rw [wrap_i64 (by omega) (by omega)]; omega
        rw [← hi] at hgr hgt ⊢
        have hvk : g.vals[i]? = some (vAtI g.vals (i : Int)) := vAtI_get (vals := g.vals) (i := (i : Int)) (by omega) (by omega)
        have hin := hops _ _ hvk
        have hn := C.all _ (List.mem_of_getElem? hvk)
        have hci := cellB2 (Rd.blk (d := dBool) hA) (j := (i : Int)) (by omega) (by rw [hal]; omega)
        rw [show ((i : Int)).toNat = i from rfl, hsame i (by omega)] at hci
        have hget := hI (i : Int) (by omega) (by rw [ok.len]; omega)
        generalize hst : gr g.vals (baL acn) s (g0 g.vals s) d = st at *
        by_cases hsl : 0 ≤ atV st.2 (i : Int)
        · rw [if_pos hsl] at hget
          refine ⟨.tuple #[int' (atV st.2 (i : Int)), .bool true], ⟨es1, hM, by rw [hget]; rfl⟩, fun _ => ⟨by omega, by omega⟩, _, fun _ => hci, fun ht => ?_, fun hf => ?_⟩
          · have ha : baL acn i = false := by simpa using ht
            have hno : gi g.vals (baL acn) st i = st := by unfold gi; rw [if_neg]; rintro ⟨h, _⟩; rw [h] at ha; cases ha
            refine ⟨s - x - (d + 1), ⟨[(0, ptr b), (2, int' x), (7, .slice (some ⟨K.next, 0, none⟩) N N), (8, .map (some (K.next + 1))), (12, .map (some X.next)), (13, int' ((s - (d + 1) : Nat) : Int))], []⟩, by omega, (by (refine ⟨?_, ?_⟩ <;> repeat' first | exact trivial | exact congrArg (fun x => some (Value.int .i64 x)) hwi | exact rfl | refine ⟨?_, ?_⟩ | fail)), d + 1, some ⟨bq', 0, none⟩, es1, by omega, rfl, rfl, ?_, ?_⟩
            · rw [hgr, hno]; exact ks
            · rw [hgr, hno]; exact hI
          · have ha : baL acn i = true := by simpa using hf
            obtain ⟨ρ, hρ, hρi, hρv⟩ := R i hgt (by omega) (by rw [hsame i (by omega)]; exact ha)
            have hgi : gi g.vals (baL acn) st i = gin g.vals (baL acn) (vAtI g.vals (i : Int)) i (atV st.2 (i : Int)) st (opnd (vAtI g.vals (i : Int)).op).toNat := by unfold gi; rw [if_pos ⟨ha, hsl⟩]
            have hgok := fun k hk => gin_ok C ok (act := baL acn) (i := i) (by omega) hsl k hk
            have hgpre := fun k j hk => gin_pre C ok (act := baL acn) (i := i) (by omega) hsl k j hk
            have hvo := valid_opC hv hvk
            have hD : ∀ z c, ρ.has b (vAtI g.vals (i : Int)) (srcV g.vals (vAtI g.vals (i : Int))) z c → gD K b g.vals ac rs es z c := fun z c hz => .inr (.inr ⟨ρ, hρ, by rw [hρi]; exact hz⟩)
            have hvi : vAtI st.1 (i : Int) = vAtI g.vals (i : Int) := vAtI_pre he (by omega) (by omega)
            generalize hvv : vAtI g.vals (i : Int) = v at *
            have hop2 : 2 ≤ v.op := by
              have h0 := hact i hgt (by omega) ha
              rw [hvv] at h0
              rcases Int.lt_or_le v.op 2 with q | q
              · exfalso
                have : opnd v.op = 0 := by unfold opnd; rw [if_pos (by have := hvo; omega)]
                omega
              · exact q
            have hsrc : 0 ≤ srcV g.vals v ∧ srcV g.vals v ≤ 1000 := by unfold srcV; split; exact C.len _; omega
            refine ⟨ρ.val, ⟨es, hM2, by rw [hρv]; rfl⟩, ?_⟩
            have ksD := ks.sub (D' := gD K b g.vals ac rs es) (fun z c hz => .inl hz)
            refine ⟨_, rule_ec ksD (B := ρ.at_) (V := ρ.at_ + 2) (N := ρ.at_ + 3) (I := ρ.at_ + 1) (S := ρ.at_ + 4) (v := v) (i := (i : Int)) (d := atV st.2 (i : Int)) (src := srcV g.vals v) (hD _ _ (.inl ⟨rfl, rfl⟩)) (hD _ _ (.inr (.inr (.inl ⟨rfl, rfl⟩)))) (hD _ _ (.inr (.inr (.inr (.inl ⟨rfl, rfl⟩))))) (hD _ _ (.inr (.inl ⟨rfl, by rw [hρi]⟩))) (hD _ _ (.inr (.inr (.inr (.inr ⟨rfl, rfl⟩))))) hn hsrc ⟨hop2, hvo.2⟩, ?_, fun v K hR => hR.no.elim⟩
            rintro _ X2 ⟨c0, c1, c2, hxx, e2, hpat, hparts⟩
            cases hxx
            obtain ⟨cs, hcs'⟩ : ∃ cs, cs = [c0, c1, c2] := ⟨_, rfl⟩
            have hT : ((X2.push (.cells [.nilFunc, .nilFunc, .nilFunc] 3 true)).stor X2.next 0 [c0, c1, c2]).blk X2.next = some (.cells cs 3 true) := by rw [hcs']; exact (stor_blk (push_blk _ _)).trans rfl
            have eT : Ext X2 ((X2.push (.cells [.nilFunc, .nilFunc, .nilFunc] 3 true)).stor X2.next 0 [c0, c1, c2]) := ⟨Nat.le_succ _, fun z c hz => (stor_other (by have := X2.lt _ _ hz; omega)).trans ((Ext.push X2 _).same z c hz)⟩
            rw [← hcs'] at hparts
            rcases hpat with ⟨f1, a1, f2, a2, rfl, rfl, rfl⟩ | ⟨f1, a1, rfl, rfl, rfl⟩ | ⟨f1, a1, f2, a2, rfl, rfl, rfl⟩
            all_goals
              clear hcs'
              refine ⟨stOK_push _ _ _ _ _ (Nat.le_refl 3), ?_⟩
              have ks3 := ks.ext (e2.trans eT)
              have hn3 := eT.next
              have hn2 := e2.next
              have hMlt := Y.lt _ _ hM
              obtain ⟨_, _, _, _, hva⟩ := valF_at ks3.at_.own.s.rd (i := (i : Int)) (by omega) (by dsimp only; rw [he]; simp; omega)
              dsimp only at hva
              rw [hvi] at hva
              refine ⟨_, ks3.at_.cell1, ⟨by omega, by rw [he]; simp; omega⟩, valV v, hva, _, operandsB_ec _ v, ?_, fun v K hR => by cases hR.1⟩
              rintro _ X4 ⟨hxx, hX4⟩
              cases hxx
              have hT4 : X4.blk X2.next = some (.cells cs 3 true) := by rw [hX4]; exact (Ext.push _ _).same _ _ hT
              have hbl : X4.blk (X2.next + 1) = some (.cells (flat dInt [v.a, v.b, v.c]) 1 true) := by rw [hX4]; exact push_blk _ _
              have e4 : Ext X2 X4 := by rw [hX4]; exact eT.push' _
              clear hX4 hT eT hva ks3 hn3
              have hn4 := e4.next
              have hl := argsL_len v
              have h3' := opnd3 v.op
              have eY := e2.trans e4
              have kg : KS K (some ⟨bq, 0, none⟩) X4 lo b p (some ⟨bq', 0, none⟩) r g.ins g.outs st.1 (withM (fun z c => gD K b g.vals ac rs es z c ∨ (Y.next ≤ z ∧ X4.blk z = some c)) X.next es1) := (ks.grow eY).sub fun z c hz => by
                rcases hz with (hz | hz) | hz
                · exact .inl (.inl hz)
                · exact .inr hz
                · exact .inl (.inr hz)
              have hD3 : ∀ z c, (gD K b g.vals ac rs es z c ∨ (Y.next ≤ z ∧ X4.blk z = some c)) → z ≠ X.next := fun z c hz => by
                rcases hz with hz | ⟨hz, _⟩
                · exact hDM z c hz
                · omega
              refine loop_ind ctx (fun t => t != 16) (fun m E Z => ∃ (k : Nat) (q2 : Option Addr) (es2 : List (Value × Value)), k ≤ (argsL v).length ∧ m = (argsL v).length - k ∧ E = ⟨[(0, ptr b), (2, int' x), (7, .slice (some ⟨K.next, 0, none⟩) N N), (8, .map (some (K.next + 1))), (12, .map (some X.next)), (13, int' ((i : Nat) : Int)), (16, ptr X2.next), (138, .slice (some ⟨X2.next + 1, 0, none⟩) (argsL v).length (argsL v).length), (139, int' (((argsL v).length : Nat) : Int)), (140, int' ((k : Nat) : Int))], []⟩ ∧ KS K (some ⟨bq, 0, none⟩) Z lo b p q2 r g.ins g.outs (gin g.vals (baL acn) v i (atV st.2 (i : Int)) st k).1 (withM (fun z c => gD K b g.vals ac rs es z c ∨ (Y.next ≤ z ∧ X4.blk z = some c)) X.next es2) ∧ MvInv es2 (gin g.vals (baL acn) v i (atV st.2 (i : Int)) st k).2)
                (E0 := ⟨[(0, ptr b), (2, int' x), (7, .slice (some ⟨K.next, 0, none⟩) N N), (8, .map (some (K.next + 1))), (12, .map (some X.next)), (13, int' ((i : Nat) : Int)), (16, ptr X2.next), (138, .slice (some ⟨X2.next + 1, 0, none⟩) (argsL v).length (argsL v).length), (139, int' (((argsL v).length : Nat) : Int)), (140, int' ((0 : Nat) : Int))], []⟩) ⟨0, some ⟨bq', 0, none⟩, es1, Nat.zero_le _, rfl, rfl, kg, hI⟩ (by (refine ⟨?_, ?_⟩ <;> repeat' first | exact trivial | exact rfl | refine ⟨?_, ?_⟩ | fail)) ?_
              clear kg
              rintro m E Z ⟨k, q2, es2, hk, rfl, rfl, kz, hI2⟩
              have hwk := wrap_nat (k := k) (by omega)
              refine ⟨fun hlt => ?_, fun hge => ?_⟩
              · have hlt : k < (argsL v).length := by simpa using hlt
                have hsu : gin g.vals (baL acn) v i (atV st.2 (i : Int)) st (k + 1) = gk g.vals (baL acn) v i (atV st.2 (i : Int)) (gin g.vals (baL acn) v i (atV st.2 (i : Int)) st k) k := rfl
                obtain ⟨okk, hpk0, _⟩ := hgok k (by omega)
                have hpre : Pre (gin g.vals (baL acn) v i (atV st.2 (i : Int)) st (k + 1)).1 y.1 := by
                  have := hgpre (k + 1) ((opnd v.op).toNat - (k + 1)) (by omega)
                  rw [show k + 1 + ((opnd v.op).toNat - (k + 1)) = (opnd v.op).toNat by omega, ← hgi, ← hgr] at this
                  exact this.trans hpcn
                have hA' := (kz.kb K.next _ (.inl (.inl (.inl ⟨rfl, rfl⟩)))).1
                have hT' := (kz.kb X2.next _ (.inl (.inr ⟨hn2, hT4⟩))).1
                have hbl' := (kz.kb (X2.next + 1) _ (.inl (.inr ⟨by omega, hbl⟩))).1
                obtain ⟨ba, oa, hba, hc⟩ := (rd_argsB hbl').cell (argsL_get (v := v) (j := k) (by omega))
                cases hba
                have hfld := opnd_fieldB hin (k := (k : Int)) (by omega) (by omega)
                have hAo := cellB2 (Rd.blk (d := dBool) hA') (j := fieldV v k) hfld.1 (by omega)
                rw [hsame _ (by omega)] at hAo
                have hck : ∀ ck, cs[k]? = some ck → Z.cell? X2.next (0 + ((k : Int)).toNat * 1) = some ck := fun ck hk => by
                  unfold Heap.cell?; rw [hT']
                  show cs[0 + k * 1]? = _
                  rw [Nat.zero_add, Nat.mul_one]; exact hk
                obtain ⟨hnil, hfun⟩ := hparts k (by omega)
                have hgetM := hI2 (fieldV v k) hfld.1 (by rw [okk.len]; omega)
                obtain ⟨ep, hep, hepl, _⟩ := okk.pre
                have hsl2 := hfld.1
                have hdk : Bd (atV st.2 (i : Int)) (gin g.vals (baL acn) v i (atV st.2 (i : Int)) st k).1 := (ok.bd (i : Int)).preB hpk0
                generalize hsk : (gin g.vals (baL acn) v i (atV st.2 (i : Int)) st k) = sk at *
                by_cases h8 : v.op = 8 ∧ k = 0
                · have hno : gin g.vals (baL acn) v i (atV st.2 (i : Int)) st (k + 1) = sk := by rw [hsu]; unfold gk; rw [if_neg]; rintro ⟨_, h⟩; exact h h8
                  refine ⟨⟨by omega, by omega⟩, _, hc, ⟨hfld.1, by omega⟩, _, hAo, fun _ => ⟨by omega, by omega⟩, .nilFunc, fun _ => hck _ (hnil h8), fun _ => ?_, fun hf => by simp at hf⟩
                  refine ⟨(argsL v).length - (k + 1), ⟨[(0, ptr b), (2, int' x), (7, .slice (some ⟨K.next, 0, none⟩) N N), (8, .map (some (K.next + 1))), (12, .map (some X.next)), (13, int' ((i : Nat) : Int)), (16, ptr X2.next), (138, .slice (some ⟨X2.next + 1, 0, none⟩) (argsL v).length (argsL v).length), (139, int' (((argsL v).length : Nat) : Int)), (140, int' ((k + 1 : Nat) : Int))], []⟩, by omega, (by (refine ⟨?_, ?_⟩ <;> repeat' first | exact trivial | exact congrArg (fun x => some (Value.int .i64 x)) hwk | exact rfl | refine ⟨?_, ?_⟩ | fail)), k + 1, q2, es2, by omega, rfl, rfl, ?_, ?_⟩
                  · rw [hno]; exact kz
                  · rw [hno]; exact hI2
                · obtain ⟨_, f, caps, rfl, hcs2, f', caps', hcf, hpo⟩ := hfun h8
                  cases hcf
                  refine ⟨⟨by omega, by omega⟩, _, hc, ⟨hfld.1, by omega⟩, _, hAo, fun _ => ⟨by omega, by omega⟩, .func (.func f) #[] caps, fun _ => hck _ hcs2, fun ht => ?_, fun hf => ?_⟩
                  · have ho : baL acn (fieldV v k).toNat = false := by
                      cases q : baL acn (fieldV v k).toNat with
                      | false => rfl
                      | true => rw [q] at ht; simp at ht
                    have hno : gin g.vals (baL acn) v i (atV st.2 (i : Int)) st (k + 1) = sk := by rw [hsu]; unfold gk; rw [if_neg]; rintro ⟨h, _⟩; rw [h] at ho; cases ho
                    refine ⟨(argsL v).length - (k + 1), ⟨[(0, ptr b), (2, int' x), (7, .slice (some ⟨K.next, 0, none⟩) N N), (8, .map (some (K.next + 1))), (12, .map (some X.next)), (13, int' ((i : Nat) : Int)), (16, ptr X2.next), (138, .slice (some ⟨X2.next + 1, 0, none⟩) (argsL v).length (argsL v).length), (139, int' (((argsL v).length : Nat) : Int)), (140, int' ((k + 1 : Nat) : Int))], []⟩, by omega, (by (refine ⟨?_, ?_⟩ <;> repeat' first | exact trivial | exact congrArg (fun x => some (Value.int .i64 x)) hwk | exact rfl | refine ⟨?_, ?_⟩ | fail)), k + 1, q2, es2, by omega, rfl, rfl, ?_, ?_⟩
                    · rw [hno]; exact kz
                    · rw [hno]; exact hI2
                  · have ho : baL acn (fieldV v k).toNat = true := by
                      cases q : baL acn (fieldV v k).toNat with
                      | true => rfl
                      | false => rw [q] at hf; simp at hf
                    have hgk : gk g.vals (baL acn) v i (atV st.2 (i : Int)) sk k = if atV sk.2 (fieldV v k) < 0 then ((partP sk.1 v i k (atV st.2 (i : Int)) (lenAt g.vals v.a)).1, sk.2.set (fieldV v k).toNat (partP sk.1 v i k (atV st.2 (i : Int)) (lenAt g.vals v.a)).2)
                      else ((partP sk.1 v i k (atV st.2 (i : Int)) (lenAt g.vals v.a)).1 ++ [opV 2 (lenAt g.vals (fieldV v k)) (atV sk.2 (fieldV v k)) (partP sk.1 v i k (atV st.2 (i : Int)) (lenAt g.vals v.a)).2 0], sk.2.set (fieldV v k).toNat ((partP sk.1 v i k (atV st.2 (i : Int)) (lenAt g.vals v.a)).1.length : Int)) := by
                      unfold gk; rw [if_pos ⟨ho, h8⟩]
                    have hsv : srcV g.vals v = lenAt g.vals v.a := by unfold srcV; rw [if_pos (by omega)]
                    rw [hsv] at hpo
                    obtain ⟨hpl, _, hp0⟩ := partP_pre (v := v) (i := (i : Int)) (k := (k : Int)) (src := lenAt g.vals v.a) hdk hn (C.len v.a)
                    have hp0 := hp0 hsl
                    obtain ⟨e5, he5, hel5, hew5⟩ := hpl
                    refine ⟨⟨by omega, by omega⟩, _, hck _ hcs2, ?_⟩
                    have hec := hpo K Z (some ⟨bq, 0, none⟩) q2 sk.1 (withM (fun z c => gD K b g.vals ac rs es z c ∨ (Y.next ≤ z ∧ X4.blk z = some c)) X.next es2) (fun z c hz => by
                      rcases hz with hz | ⟨h1, h2⟩
                      · exact .inl (.inl hz)
                      · exact .inl (.inr ⟨h1, e4.same _ _ h2⟩)) kz
                    dsimp only at hec
                    generalize hmp : partP sk.1 v i k (atV st.2 (i : Int)) (lenAt g.vals v.a) = mp at *
                    have hprm : Pre mp.1 y.1 := by
                      refine Pre.trans ?_ hpre
                      rw [hsu, hgk]
                      split
                      · exact .refl _
                      · exact Pre.snoc _ _ (C.len _)
                    have hmpe : mp.1 = g.vals ++ (ep ++ e5) := by rw [he5, hep, List.append_assoc]
                    have hoN : (((fieldV v k).toNat : Nat) : Int) = fieldV v k := by omega
                    refine ⟨_, hec, KRes.elim fun q5 Z5 k5 => ?_, fun _ X h => h.panB hprm⟩
                    have hM5 := (k5.kb X.next _ (.inr ⟨rfl, rfl⟩)).1
                    by_cases hneg : atV sk.2 (fieldV v k) < 0
                    · have hno : gin g.vals (baL acn) v i (atV st.2 (i : Int)) st (k + 1) = (mp.1, sk.2.set (fieldV v k).toNat mp.2) := by rw [hsu, hgk, if_pos hneg]
                      rw [if_neg (by omega)] at hgetM
                      refine ⟨.tuple #[int' 0, .bool false], ⟨es2, hM5, by rw [hgetM]; rfl⟩, fun h => by simp at h, fun _ => ?_⟩
                      refine ⟨es2, hM5, ?_⟩
                      have k6 := k5.setM hD3 hMp hMr hnx (mset es2 (int' (fieldV v k)) (int' mp.2))
                      refine ⟨(argsL v).length - (k + 1), ⟨[(0, ptr b), (2, int' x), (7, .slice (some ⟨K.next, 0, none⟩) N N), (8, .map (some (K.next + 1))), (12, .map (some X.next)), (13, int' ((i : Nat) : Int)), (16, ptr X2.next), (138, .slice (some ⟨X2.next + 1, 0, none⟩) (argsL v).length (argsL v).length), (139, int' (((argsL v).length : Nat) : Int)), (140, int' ((k + 1 : Nat) : Int))], []⟩, by omega, (by (refine ⟨?_, ?_⟩ <;> repeat' first | exact trivial | exact congrArg (fun x => some (Value.int .i64 x)) hwk | exact rfl | refine ⟨?_, ?_⟩ | fail)), k + 1, q5, mset es2 (int' (fieldV v k)) (int' mp.2), by omega, rfl, rfl, ?_, ?_⟩
                      · rw [hno]; exact k6
                      · rw [hno]
                        have := hI2.set (i := (fieldV v k).toNat) (m := mp.2) (by rw [okk.len]; omega) hp0
                        rw [hoN] at this
                        exact this
                    · have hno : gin g.vals (baL acn) v i (atV st.2 (i : Int)) st (k + 1) = (mp.1 ++ [opV 2 (lenAt g.vals (fieldV v k)) (atV sk.2 (fieldV v k)) mp.2 0], sk.2.set (fieldV v k).toNat (mp.1.length : Int)) := by rw [hsu, hgk, if_neg hneg]
                      rw [if_pos (by omega)] at hgetM
                      refine ⟨.tuple #[int' (atV sk.2 (fieldV v k)), .bool true], ⟨es2, hM5, by rw [hgetM]; rfl⟩, fun _ => ?_, fun h => by simp at h⟩
                      obtain ⟨b5, hb5⟩ : ∃ b5, q5 = some ⟨b5, 0, none⟩ := bufq_some k5.at_.own.s (by show 0 < mp.1.length; rw [hmpe]; simp; omega)
                      subst hb5
                      have hlo := (valF_at k5.at_.own.s.rd (i := fieldV v k) hfld.1 (by dsimp only; rw [hmpe]; simp; omega)).2.1
                      dsimp only at hlo
                      rw [vAtI_pre hmpe hfld.1 (by omega), show (vAtI g.vals (fieldV v k)).len = lenAt g.vals (fieldV v k) by unfold lenAt; rw [vAtI_get hfld.1 (by omega)]; rfl] at hlo
                      refine ⟨_, k5.at_.cell1, ⟨hfld.1, by rw [hmpe]; simp; omega⟩, _, hlo, ?_⟩
                      refine ⟨_, k5.opB 2 (lenAt g.vals (fieldV v k)) [atV sk.2 (fieldV v k), mp.2] (C.len _) (by simp), KRes.elim2 fun q6 Z6 k6 => ?_, fun _ X h => h.panB (by rw [hno] at hpre; exact hpre)⟩
                      have hM6 := (k6.kb X.next _ (.inr ⟨rfl, rfl⟩)).1
                      refine ⟨es2, hM6, ?_⟩
                      have k7 := k6.setM hD3 hMp hMr hnx (mset es2 (int' (fieldV v k)) (int' (mp.1.length : Int)))
                      refine ⟨(argsL v).length - (k + 1), ⟨[(0, ptr b), (2, int' x), (7, .slice (some ⟨K.next, 0, none⟩) N N), (8, .map (some (K.next + 1))), (12, .map (some X.next)), (13, int' ((i : Nat) : Int)), (16, ptr X2.next), (138, .slice (some ⟨X2.next + 1, 0, none⟩) (argsL v).length (argsL v).length), (139, int' (((argsL v).length : Nat) : Int)), (140, int' ((k + 1 : Nat) : Int))], []⟩, by omega, (by (refine ⟨?_, ?_⟩ <;> repeat' first | exact trivial | exact congrArg (fun x => some (Value.int .i64 x)) hwk | exact rfl | refine ⟨?_, ?_⟩ | fail)), k + 1, q6, mset es2 (int' (fieldV v k)) (int' (mp.1.length : Int)), by omega, rfl, rfl, ?_, ?_⟩
                      · rw [hno]; exact k7
                      · rw [hno]
                        have := hI2.set (i := (fieldV v k).toNat) (m := (mp.1.length : Int)) (by rw [okk.len]; omega) (by omega)
                        rw [hoN] at this
                        exact this
              · have hk2 : k = (argsL v).length := by simp at hge; omega
                subst hk2
                rw [hl, ← hgi, ← hgr] at kz hI2
                refine ⟨s - x - (d + 1), ⟨[(0, ptr b), (2, int' x), (7, .slice (some ⟨K.next, 0, none⟩) N N), (8, .map (some (K.next + 1))), (12, .map (some X.next)), (13, int' ((s - (d + 1) : Nat) : Int))], []⟩, by omega, (by (refine ⟨?_, ?_⟩ <;> repeat' first | exact trivial | exact congrArg (fun x => some (Value.int .i64 x)) hwi | exact rfl | refine ⟨?_, ?_⟩ | fail)), d + 1, q2, es2, by omega, rfl, rfl, kz.sub fun z c hz => ?_, hI2⟩
                rcases hz with hz | hz
                · exact .inl (.inl hz)
                · exact .inr hz
        · rw [if_neg hsl] at hget
          have hno : gi g.vals (baL acn) st i = st := by unfold gi; rw [if_neg]; rintro ⟨_, h⟩; exact hsl h
          refine ⟨.tuple #[int' 0, .bool false], ⟨es1, hM, by rw [hget]; rfl⟩, fun _ => ⟨by omega, by omega⟩, _, fun _ => hci, fun ht => ?_, fun hf => by simp at hf⟩
          refine ⟨s - x - (d + 1), ⟨[(0, ptr b), (2, int' x), (7, .slice (some ⟨K.next, 0, none⟩) N N), (8, .map (some (K.next + 1))), (12, .map (some X.next)), (13, int' ((s - (d + 1) : Nat) : Int))], []⟩, by omega, (by (refine ⟨?_, ?_⟩ <;> repeat' first | exact trivial | exact congrArg (fun x => some (Value.int .i64 x)) hwi | exact rfl | refine ⟨?_, ?_⟩ | fail)), d + 1, some ⟨bq', 0, none⟩, es1, by omega, rfl, rfl, ?_, ?_⟩
          · rw [hgr, hno]; exact ks
          · rw [hgr, hno]; exact hI
      · have hle : s - d ≤ x := by simp at hle; omega
        obtain rfl : d = s - x := by omega
        have hget := hI (x : Int) (by omega) (by rw [ok.len]; omega)
        have hlx' := (valF_at ks.at_.own.s.rd (i := (x : Int)) (by omega) (by dsimp only; rw [he]; simp; omega)).2.1
        dsimp only at hlx'
        rw [vAtI_pre he (by omega) (by omega), show (vAtI g.vals (x : Int)).len = lenAt g.vals x by unfold lenAt; rw [vAtI_get (by omega) (by omega)]; rfl] at hlx'
        by_cases hm : 0 ≤ atV (gr g.vals (baL acn) s (g0 g.vals s) (s - x)).2 (x : Int)
        · rw [if_pos hm] at hget
          refine ⟨.tuple #[int' (atV (gr g.vals (baL acn) s (g0 g.vals s) (s - x)).2 (x : Int)), .bool true], ⟨es1, hM, by rw [hget]; rfl⟩, fun _ => ?_, fun hn => by simp at hn⟩
          rw [hgn, if_neg (by omega)]
          exact ks.finB _
        · rw [if_neg hm] at hget
          refine ⟨.tuple #[int' 0, .bool false], ⟨es1, hM, by rw [hget]; rfl⟩, fun hy => by simp at hy, fun _ => ?_⟩
          rw [hgn, if_pos (by omega)]
          exact ⟨_, ks.at_.cell1, ⟨by omega, by rw [he]; simp; omega⟩, _, hlx', _, ks.zeros _ (C.len _), KRes.elim2 fun q9 X9 k9 => k9.finB _, fun _ X h => h.panB (Pre.refl _)⟩
end Go.Proofs.Ytaaelokodfildaa
