/- The program's Jvp, walked. Conditions: those of each. -/
import Derived.Test.YtimenmejmofkaaaJvl
import Derived.Test.YtimenmejmofkaaaJva
set_option linter.unusedVariables false
set_option linter.unusedSimpArgs false
namespace Go.Proofs.Ytimenmejmofkaaa
open Go.Am

/-- A new builder of a graph. -/
def NB (H : Heap) (g : Graph) (e : AEnd) (K : Heap) : Prop := ∃ p q r b, e = .ret (ptr b) ∧ Ext H K ∧ H.next ≤ K.next ∧ BAt K H.next b p q r g.ins g.vals g.outs
theorem NB.no {H K : Heap} {g : Graph} {v : Value} (h : NB H g (.pan v) K) : False := by obtain ⟨_, _, _, _, h, _⟩ := h; cases h
theorem valid_fit {g : Graph} (hv : validB g = true) : fitsL g.vals = true := by
  obtain ⟨h1, h2, h3⟩ := valid_lens hv
  simp only [validB, Bool.and_eq_true, decide_eq_true_eq] at hv
  exact fits_spec.2 ⟨h2, hv.2⟩
theorem valid_all {g : Graph} (hv : validB g = true) : ∀ v ∈ g.vals, 0 ≤ v.len ∧ v.len ≤ 1000 := fun v hm => by
  obtain ⟨i, hi⟩ := List.getElem?_of_mem hm
  have := valid_okl hv hi
  simp [okLen] at this; omega
set_option maxHeartbeats 1000000 in
theorem builderOf_ec (H : Heap) (p q r : Option Addr) (g : Graph) (hg : RdG H p q r g) (hv : validB g = true) :
    EC Try.prog 20 [gV p q r g] H (NB H g) := by
  obtain ⟨h1, h2, h3⟩ := valid_lens hv
  have hall := valid_all hv
  have hfit := valid_fit hv
  refine EC_fn ctx (fun t => t != 9) Try.func20 rfl rfl rfl ?_
  refine ⟨_, graphCopy_ec H p q r g hg (by omega) (by omega) (by omega), ?_, fun v K hR => hR.no.elim⟩
  rintro _ K ⟨p1, q1, r1, hx, e0, og⟩
  cases hx
  refine loop_ind ctx (fun t => t != 9) (fun m E X => ∃ k, k ≤ g.vals.length ∧ m = g.vals.length - k ∧ E = ⟨[(3, ptr K.next), (11, sv q g.vals), (12, .int .i64 g.vals.length), (13, .int .i64 (k : Int))], []⟩ ∧ X.blk K.next = some (.cells [sv p1 g.ins, sv q1 g.vals, sv r1 g.outs, .int .i64 (cellsOf (g.vals.take k))] 4 true) ∧ Ext K X)
    (E0 := ⟨[(3, ptr K.next), (11, sv q g.vals), (12, .int .i64 g.vals.length), (13, .int .i64 ((0 : Nat) : Int))], []⟩) ⟨0, Nat.zero_le _, rfl, rfl, push_blk _ _, Ext.push _ _⟩ (by (refine ⟨?_, ?_⟩ <;> repeat' first | exact trivial | exact congrArg (fun x => some (Value.int .i64 x)) (wrap_nat (by omega)) | exact sv_eq (by simp; done) | exact rfl | refine ⟨?_, ?_⟩ | fail)) ?_
  rintro m E X ⟨k, hk, rfl, rfl, hb, e⟩
  refine ⟨fun hlt => ?_, fun hge => ?_⟩
  · have hlt : k < g.vals.length := by simpa using hlt
    have hgk := (hg.mono (e0.trans e)).vals
    obtain ⟨bq, oq, rfl, hva⟩ := hgk.val (List.getElem?_eq_getElem hlt)
    have hc : X.cell? K.next 3 = some (.int .i64 (cellsOf (g.vals.take k))) := by unfold Heap.cell?; rw [hb]; rfl
    have hst : X.stOK K.next 3 1 := ⟨_, _, hb, by simp⟩
    have hbn := cells_bnd hall k hk
    have hcs := cells_succ hlt
    have hvl := hall _ (List.getElem_mem hlt)
    have hw : IntKind.i64.wrap (cellsOf (g.vals.take k) + g.vals[k].len) = cellsOf (g.vals.take (k + 1)) := by rw [hcs, wrap_i64 (by omega) (by omega)]
    refine ⟨⟨by omega, by omega⟩, valV g.vals[k], hva, ?_⟩
    refine ⟨.leaf [([0, 1, 2, 3, 4, 5, 6, 7, 8], some 9), ([], none)] [], by kernel_rfl, _, hc, hst, ?_⟩
    refine ⟨g.vals.length - (k + 1), ⟨[(3, ptr K.next), (11, sv (some ⟨bq, oq, none⟩) g.vals), (12, .int .i64 g.vals.length), (13, .int .i64 ((k + 1 : Nat) : Int))], []⟩, by omega, by (refine ⟨?_, ?_⟩ <;> repeat' first | exact trivial | exact congrArg (fun x => some (Value.int .i64 x)) (wrap_nat (by omega)) | exact sv_eq (by simp; done) | exact rfl | refine ⟨?_, ?_⟩ | fail), k + 1, by omega, rfl, rfl, ?_, ?_⟩
    · refine (stor_blk hb).trans ?_
      exact congrArg (fun z => some (Blk.cells [sv p1 g.ins, sv q1 g.vals, sv r1 g.outs, .int .i64 z] 4 true)) hw
    · exact ⟨e.next, fun x c hc => (stor_other (by have := K.lt _ _ hc; omega)).trans (e.same x c hc)⟩
  · have hk : k = g.vals.length := by simp at hge; omega
    subst hk
    rw [List.take_length] at hb
    refine ⟨p1, q1, r1, K.next, rfl, e0.trans e, (e0.trans e).next, hb, (og.mono e).grow e.next, e0.next, fun o => ⟨fun h => ?_, fun h => ?_, fun h => ?_⟩, hfit, hall⟩
    · have := og.hi_.1 _ _ h; omega
    · have := og.hi_.2.1 _ _ h; omega
    · have := og.hi_.2.2 _ _ h; omega
theorem isIndex_pc (H : Heap) (p q r : Option Addr) (g : Graph) (i : Int) : PC Try.prog 19 [gV p q r g, int' i] H (.bool (decide (0 ≤ i ∧ i < g.vals.length))) := by
  refine EC_fn ctx (fun _ => true) Try.func19 rfl rfl rfl ?_
  refine pbool ?_
  by_cases h0 : 0 ≤ i <;> by_cases h1 : i < g.vals.length <;> simp [h0, h1]
theorem jvp1_ec (X : Heap) (lo b : Nat) (p q r : Option Addr) (g : Graph) (s x : Nat) (t : Int) (B S Y Z : Nat) (h : BAt X lo b p q r g.ins g.vals g.outs) (hlo : lo ≤ X.next) (hv : validB g = true) (hs : s < g.vals.length) (hx : x < g.vals.length) (ht : 0 ≤ t ∧ t < g.vals.length)
    (hB : X.cell? B 0 = some (ptr b)) (hS : X.cell? S 0 = some (int' s)) (hY : X.cell? Y 0 = some (int' x)) (hZ : X.cell? Z 0 = some (int' t)) :
    EC Try.prog 22 [ptr B, ptr S, ptr Y, ptr Z] X (BR X lo b p q r g.ins g.outs (jvpP g.vals s x t)) := by
  refine EC_fn ctx (fun _ => true) Try.func22 rfl rfl rfl ?_
  refine ⟨_, hB, _, hS, _, hY, _, hZ, _, forward_ec X lo b p q r g s x t h hlo hv hs hx ht, ?_, fun v X h => h⟩
  rintro v X' (⟨hf, q', hv, h1, h2, h3⟩ | ⟨hf, hv, h1⟩)
  · cases hv; exact .inl ⟨hf, q', rfl, h1, h2, h3⟩
  · cases hv
theorem BAt.qlo {X : Heap} {lo b : Nat} {p q r : Option Addr} {ins outs : List Int} {vs : List Val} (h : BAt X lo b p q r ins vs outs) {x o : Nat} (e : q = some ⟨x, o, none⟩) : lo ≤ x := by
  have hs := h.own.s
  cases hs with
  | nil => cases e
  | blk h1 h2 => cases e; exact h1
theorem cell0 {K : Heap} {b : Nat} {v : Value} (h : K.blk b = some (.cells [v] 1 true)) : K.cell? b 0 = some v := by unfold Heap.cell?; rw [h]; rfl
theorem BR.int {K : Heap} {lo b : Nat} {p q r : Option Addr} {ins outs : List Int} {y : List Val × Int} (v : Value) (X : Heap) (h : BR K lo b p q r ins outs y (.ret v) X) : ∃ n, v = .int .i64 n := by
  rcases h with ⟨_, _, hv, _⟩ | ⟨_, hv, _⟩
  · cases hv; exact ⟨_, rfl⟩
  · cases hv
theorem BR.room {K : Heap} {lo b : Nat} {p q r : Option Addr} {ins outs : List Int} {y : List Val × Int} (v : Value) (X : Heap) (h : BR K lo b p q r ins outs y (.pan v) X) : v = noRoom := by
  rcases h with ⟨_, _, hv, _⟩ | ⟨_, hv, _⟩
  · cases hv
  · cases hv; rfl
set_option maxHeartbeats 1000000 in
theorem implJvp_ec (H : Heap) (p q r : Option Addr) (g : Graph) (s x t : Int) (hg : RdG H p q r g) (h1 : g.ins.length ≤ 1048576) (h2 : g.vals.length ≤ 1048576) (h3 : g.outs.length ≤ 1048576) :
    EC Try.prog 7 [gV p q r g, int' s, int' x, int' t] H (JAR H (jvA g s x t)) := by
  have e0 : Ext H (((H.push (.cells [int' s] 1 true)).push (.cells [int' x] 1 true)).push (.cells [int' t] 1 true)) := ((Ext.push _ _).push' _).push' _
  refine EC_fn ctx (fun t => t != 5 && t != 6 && t != 7 && t != 11) Try.func7 rfl rfl rfl ?_
  obtain ⟨K, hK⟩ : ∃ K, K = ((H.push (.cells [int' s] 1 true)).push (.cells [int' x] 1 true)).push (.cells [int' t] 1 true) := ⟨_, rfl⟩
  have hS : (((H.push (.cells [int' s] 1 true)).push (.cells [int' x] 1 true)).push (.cells [int' t] 1 true)).cell? H.next 0 = some (int' s) := cell0 ((((Ext.push _ _).push' _).same _ _ (push_blk H _)))
  have hY : (((H.push (.cells [int' s] 1 true)).push (.cells [int' x] 1 true)).push (.cells [int' t] 1 true)).cell? (H.next + 1) 0 = some (int' x) := cell0 ((Ext.push _ _).same _ _ (push_blk _ _))
  have hZ : (((H.push (.cells [int' s] 1 true)).push (.cells [int' x] 1 true)).push (.cells [int' t] 1 true)).cell? (H.next + 2) 0 = some (int' t) := cell0 (push_blk _ _)
  refine ⟨_, implValid_pc _ p q r g (hg.mono e0) h2 h1 h3, ?_, fun v K hR => by cases hR.1⟩
  rintro _ K ⟨hx, rfl⟩
  cases hx
  refine ⟨_, fun _ => hS, _, fun _ => isIndex_pc _ p q r g s, _, fun _ => hY, _, fun _ => isIndex_pc _ p q r g x, _, fun _ => hZ, _, fun _ => isIndex_pc _ p q r g t, fun h => ?_, fun h => ?_⟩
  · have hb : ¬ (validB g = true ∧ (0 ≤ s ∧ s < g.vals.length) ∧ (0 ≤ x ∧ x < g.vals.length) ∧ (0 ≤ t ∧ t < g.vals.length)) := by
      rintro ⟨hv, a, b, c⟩
      rw [decide_eq_true a, decide_eq_true b, decide_eq_true c, hv] at h
      simp at h
    exact JAR.zero (c := 1) (by unfold jvA; rw [if_neg hb]) e0
  have hall : validB g = true ∧ (0 ≤ s ∧ s < g.vals.length) ∧ (0 ≤ x ∧ x < g.vals.length) ∧ (0 ≤ t ∧ t < g.vals.length) := by
    cases hq : validB g with
    | false => rw [hq] at h; simp at h
    | true =>
      by_cases a : 0 ≤ s ∧ s < g.vals.length
      · by_cases b : 0 ≤ x ∧ x < g.vals.length
        · by_cases c : 0 ≤ t ∧ t < g.vals.length
          · exact ⟨rfl, a, b, c⟩
          · rw [decide_eq_true a, decide_eq_true b, decide_eq_false c, hq] at h; simp at h
        · rw [decide_eq_true a, decide_eq_false b, hq] at h; simp at h
      · rw [decide_eq_false a, hq] at h; simp at h
  obtain ⟨hv, ⟨a1, a2⟩, ⟨b1, b2⟩, c1, c2⟩ := hall
  clear h
  obtain ⟨l1, l2, l3⟩ := valid_lens hv
  have hgK := hg.mono e0
  obtain ⟨bq, oq, rfl⟩ := rdV_some hg.vals (by omega)
  have lt_ := (valF_at hgK.vals (i := t) c1 c2).2.1
  have lx_ := (valF_at hgK.vals (i := x) b1 b2).2.1
  rw [← lenAt_v (vs := g.vals) (o := t) rfl c1 c2] at lt_
  rw [← lenAt_v (vs := g.vals) (o := x) rfl b1 b2] at lx_
  refine ⟨.leaf [([0, 1, 2, 3, 4, 5, 6, 7, 8, 9, 10, 11, 12], none)] [], by kernel_rfl, ?_⟩
  refine ⟨_, hZ, ⟨c1, c2⟩, _, lt_, _, hY, ⟨b1, b2⟩, _, lx_, fun h => ?_, fun h => ?_⟩
  · have hne : ¬ lenAt g.vals t = lenAt g.vals x := by simpa using h
    exact JAR.zero (c := 4) (by unfold jvA; rw [if_pos ⟨hv, ⟨a1, a2⟩, ⟨b1, b2⟩, c1, c2⟩, if_neg hne]) e0
  have heq : lenAt g.vals t = lenAt g.vals x := by simpa using h
  have hja : jvA g s x t = if fitsL (jvpP g.vals s.toNat x.toNat t).1 then (⟨g.ins, (jvpP g.vals s.toNat x.toNat t).1, g.outs⟩, (jvpP g.vals s.toNat x.toNat t).2, 0) else (zGr, 0, 5) := by
    unfold jvA; rw [if_pos ⟨hv, ⟨a1, a2⟩, ⟨b1, b2⟩, c1, c2⟩, if_pos heq]
  obtain ⟨s', rfl⟩ : ∃ s' : Nat, s = s' := ⟨s.toNat, by omega⟩
  obtain ⟨x', rfl⟩ : ∃ x' : Nat, x = x' := ⟨x.toNat, by omega⟩
  simp only [Int.toNat_natCast] at hja
  refine ⟨_, builderOf_ec _ p _ r g hgK hv, ?_, fun v K hR => hR.no.elim⟩
  rintro _ K2 ⟨p1, q1, r1, b, hx, e1, hn1, hB⟩
  cases hx
  have hst : (K2.push (.cells [.pointer none] 1 true)).stor K2.next 0 [ptr b] = K2.push (.cells [ptr b] 1 true) := stor_push K2 [.pointer none] 1 true 0 _
  have eX : Ext K2 ((K2.push (.cells [.pointer none] 1 true)).stor K2.next 0 [ptr b]) := by rw [hst]; exact Ext.push _ _
  have hTb : ((K2.push (.cells [.pointer none] 1 true)).stor K2.next 0 [ptr b]).blk K2.next = some (.cells [ptr b] 1 true) := by rw [hst]; exact push_blk _ _
  have hT : ((K2.push (.cells [.pointer none] 1 true)).stor K2.next 0 [ptr b]).cell? K2.next 0 = some (ptr b) := cell0 hTb
  have hBX := hB.mono eX
  have hnx : H.next + 3 ≤ K2.next := hn1
  have hbl : H.next + 3 ≤ b := hB.lob
  have hloX : H.next + 3 ≤ ((K2.push (.cells [.pointer none] 1 true)).stor K2.next 0 [ptr b]).next := by rw [hst]; show _ ≤ K2.next + 1; omega
  have cell_e : ∀ {x v}, (((H.push (.cells [int' (s' : Int)] 1 true)).push (.cells [int' (x' : Int)] 1 true)).push (.cells [int' t] 1 true)).cell? x 0 = some v → ((K2.push (.cells [.pointer none] 1 true)).stor K2.next 0 [ptr b]).cell? x 0 = some v := fun {x v} hc => (e1.trans eX).cell' hc
  have hjv := jvp1_ec ((K2.push (.cells [.pointer none] 1 true)).stor K2.next 0 [ptr b]) (H.next + 3) b p1 q1 r1 g s' x' t K2.next H.next (H.next + 1) (H.next + 2) hBX hloX hv (by omega) (by omega) ⟨c1, c2⟩ hT (cell_e hS) (cell_e hY) (cell_e hZ)
  have eH : Ext H ((K2.push (.cells [.pointer none] 1 true)).stor K2.next 0 [ptr b]) := e0.trans (e1.trans eX)
  refine ⟨stOK_push _ _ _ _ _ (Nat.le_refl 1), _, hT, ?_⟩
  refine ⟨_, within_ec ((K2.push (.cells [.pointer none] 1 true)).stor K2.next 0 [ptr b]) (ptr b) 22 #[ptr K2.next, ptr H.next, ptr (H.next + 1), ptr (H.next + 2)] _ hjv (fun v K => BR.int v K) (fun v K => BR.room v K), ?_, ?_⟩
  · rintro v X (⟨n, hR, hx⟩ | ⟨hR, hx⟩)
    · cases hx
      rcases hR with ⟨hf, q', hn, hB', hF, hq⟩ | ⟨_, hn, _⟩
      · cases hn
        refine ⟨fun h => by simp at h, fun _ => ?_⟩
        have hTb' : X.blk K2.next = some (.cells [ptr b] 1 true) := hF.same _ _ (by have := K2.lt _ _ hB.blk; omega) (fun o e => by have := hB.qlt e; omega) hTb
        have hag : X.aggAt b 0 3 (gV p1 q' r1 ⟨g.ins, (jvpP g.vals s' x' t).1, g.outs⟩) := by
          show X.run? b 0 3 = some [sv p1 g.ins, sv q' (jvpP g.vals s' x' t).1, sv r1 g.outs]
          unfold Heap.run?; rw [hB'.blk]; rfl
        refine ⟨_, cell0 hTb', gV p1 q' r1 ⟨g.ins, (jvpP g.vals s' x' t).1, g.outs⟩, hag, ?_⟩
        rw [hja, hf]
        have eF : Ext H X := Fr.ext eH hF (by omega) (fun y o e => by have : H.next + 3 ≤ y := hB.qlo e; omega)
        have ow := hB'.own
        exact ⟨p1, q', r1, rfl, eF, ⟨ow.i.wider (Nat.le_add_right _ _), ow.s.wider (Nat.le_add_right _ _), ow.o.wider (Nat.le_add_right _ _), ow.hi_, ow.ne⟩⟩
      · cases hn
    · cases hx
      rcases hR with ⟨_, _, hn, _⟩ | ⟨hf, _, hF⟩
      · cases hn
      · refine ⟨fun _ => ?_, fun h => by simp at h⟩
        have eF : Ext H X := Fr.ext eH hF (by omega) (fun y o e => by have : H.next + 3 ≤ y := hB.qlo e; omega)
        exact JAR.zero (c := 5) (by rw [hja, hf]; rfl) eF
  · rintro v X (⟨n, hR, hx⟩ | ⟨hR, hx⟩) <;> cases hx
end Go.Proofs.Ytimenmejmofkaaa
