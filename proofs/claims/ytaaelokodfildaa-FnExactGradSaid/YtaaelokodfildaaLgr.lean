/- The program's Grad, walked. Conditions: those of each. FnExactGrad: the walk. Condition: the argument's slices read. -/
import Derived.Test.YtaaelokodfildaaGrd
import Derived.Test.YtaaelokodfildaaGrh
import Derived.Test.YtaaelokodfildaaJva
import Derived.Test.YtaaelokodfildaaMkg
import Derived.Test.YtaaelokodfildaaMrkg
set_option linter.unusedVariables false
set_option linter.unusedSimpArgs false
namespace Go.Proofs.Ytaaelokodfildaa
open Go.Am

theorem grad1_ec (X : Heap) (lo b : Nat) (p q r : Option Addr) (g : Graph) (s x : Nat) (B S Y : Nat) (h : BAt X lo b p q r g.ins g.vals g.outs) (hlo : lo ≤ X.next) (hv : validB g = true) (hs : s < g.vals.length) (hx : x < g.vals.length)
    (hB : X.cell? B 0 = some (ptr b)) (hS : X.cell? S 0 = some (int' s)) (hY : X.cell? Y 0 = some (int' x)) :
    EC Try.prog 22 [ptr B, ptr S, ptr Y] X (BR X lo b p q r g.ins g.outs (gradP g.vals s x)) := by
  refine EC_fn ctx (fun _ => true) Try.func22 rfl rfl rfl ?_
  refine ⟨_, hB, _, hS, _, hY, _, gradient_ec X lo b p q r g s x h hlo hv hs hx, ?_, fun v X h => h⟩
  rintro v X' (⟨hf, q', hv, h1, h2, h3⟩ | ⟨hf, hv, h1⟩)
  · cases hv; exact .inl ⟨hf, q', rfl, h1, h2, h3⟩
  · cases hv
set_option maxHeartbeats 1000000 in
theorem implGrad_ec (H : Heap) (p q r : Option Addr) (g : Graph) (s x : Int) (hg : RdG H p q r g) (h1 : g.ins.length ≤ 1048576) (h2 : g.vals.length ≤ 1048576) (h3 : g.outs.length ≤ 1048576) :
    EC Try.prog 7 [gV p q r g, int' s, int' x] H (JAR H (gdA g s x)) := by
  have e0 : Ext H ((H.push (.cells [int' s] 1 true)).push (.cells [int' x] 1 true)) := (Ext.push _ _).push' _
  refine EC_fn ctx (fun t => t != 4 && t != 5 && t != 9) Try.func7 rfl rfl rfl ?_
  obtain ⟨K, hK⟩ : ∃ K, K = (H.push (.cells [int' s] 1 true)).push (.cells [int' x] 1 true) := ⟨_, rfl⟩
  have hS : ((H.push (.cells [int' s] 1 true)).push (.cells [int' x] 1 true)).cell? H.next 0 = some (int' s) := cell0 ((Ext.push _ _).same _ _ (push_blk H _))
  have hY : ((H.push (.cells [int' s] 1 true)).push (.cells [int' x] 1 true)).cell? (H.next + 1) 0 = some (int' x) := cell0 (push_blk _ _)
  refine ⟨_, implValid_pc _ p q r g (hg.mono e0) h2 h1 h3, ?_, fun v K hR => by cases hR.1⟩
  rintro _ K ⟨hx, rfl⟩
  cases hx
  refine ⟨_, fun _ => hS, _, fun _ => isIndex_pc _ p q r g s, _, fun _ => hY, _, fun _ => isIndex_pc _ p q r g x, fun h => ?_, fun h => ?_⟩
  · have hb : ¬ (validB g = true ∧ (0 ≤ s ∧ s < g.vals.length) ∧ (0 ≤ x ∧ x < g.vals.length)) := by
      rintro ⟨hv, a, b⟩
      rw [decide_eq_true a, decide_eq_true b, hv] at h
      simp at h
    exact JAR.zero (c := 1) (by unfold gdA; rw [if_neg hb]) e0
  have hall : validB g = true ∧ (0 ≤ s ∧ s < g.vals.length) ∧ (0 ≤ x ∧ x < g.vals.length) := by
    cases hq : validB g with
    | false => rw [hq] at h; simp at h
    | true =>
      by_cases a : 0 ≤ s ∧ s < g.vals.length
      · by_cases b : 0 ≤ x ∧ x < g.vals.length
        · exact ⟨rfl, a, b⟩
        · rw [decide_eq_true a, decide_eq_false b, hq] at h; simp at h
      · rw [decide_eq_false a, hq] at h; simp at h
  obtain ⟨hv, ⟨a1, a2⟩, b1, b2⟩ := hall
  clear h
  obtain ⟨l1, l2, l3⟩ := valid_lens hv
  have hgK := hg.mono e0
  obtain ⟨bq, oq, rfl⟩ := rdV_some hg.vals (by omega)
  have ls_ := (valF_at hgK.vals (i := s) a1 a2).2.1
  rw [← lenAt_v2 (vs := g.vals) (o := s) rfl a1 a2] at ls_
  refine ⟨_, hS, ⟨a1, a2⟩, _, ls_, fun h => ?_, fun h => ?_⟩
  · have hne : ¬ lenAt g.vals s = 1 := by simpa using h
    exact JAR.zero (c := 4) (by unfold gdA; rw [if_pos ⟨hv, ⟨a1, a2⟩, b1, b2⟩, if_neg hne]) e0
  have heq : lenAt g.vals s = 1 := by simpa using h
  have hja : gdA g s x = if fitsL (gradP g.vals s.toNat x.toNat).1 then (⟨g.ins, (gradP g.vals s.toNat x.toNat).1, g.outs⟩, (gradP g.vals s.toNat x.toNat).2, 0) else (zGr, 0, 5) := by
    unfold gdA; rw [if_pos ⟨hv, ⟨a1, a2⟩, b1, b2⟩, if_pos heq]
  obtain ⟨s', rfl⟩ : ∃ s' : Nat, s = s' := ⟨s.toNat, by omega⟩
  obtain ⟨x', rfl⟩ : ∃ x' : Nat, x = x' := ⟨x.toNat, by omega⟩
  simp only [Int.toNat_natCast] at hja
  refine ⟨_, builderOf_ec _ p _ r g hgK hv, ?_, fun v K hR => hR.no.elim⟩
  rintro _ K2 ⟨p1, q1, r1, b, hx, e1, hn1, hB⟩
  cases hx
  have hst : (K2.push (.cells [.pointer none] 1 true)).stor K2.next 0 [ptr b] = K2.push (.cells [ptr b] 1 true) := stor_push K2 [.pointer none] 1 true 0 _
  have eX : Ext K2 ((K2.push (.cells [.pointer none] 1 true)).stor K2.next 0 [ptr b]) := by rw [hst]; exact Ext.push _ _
  have hTb : ((K2.push (.cells [.pointer none] 1 true)).stor K2.next 0 [ptr b]).blk K2.next = some (.cells [ptr b] 1 true) := by rw [hst]; exact push_blk _ _
  have hT : ((K2.push (.cells [.pointer none] 1 true)).stor K2.next 0 [ptr b]).cell? K2.next 0 = some (ptr b) := cell0 hTb
  have hBX := hB.mono eX
  have hnx : H.next + 2 ≤ K2.next := hn1
  have hbl : H.next + 2 ≤ b := hB.lob
  have hloX : H.next + 2 ≤ ((K2.push (.cells [.pointer none] 1 true)).stor K2.next 0 [ptr b]).next := by rw [hst]; show _ ≤ K2.next + 1; omega
  have cell_e : ∀ {x v}, ((H.push (.cells [int' (s' : Int)] 1 true)).push (.cells [int' (x' : Int)] 1 true)).cell? x 0 = some v → ((K2.push (.cells [.pointer none] 1 true)).stor K2.next 0 [ptr b]).cell? x 0 = some v := fun {x v} hc => (e1.trans eX).cell' hc
  have hjv := grad1_ec ((K2.push (.cells [.pointer none] 1 true)).stor K2.next 0 [ptr b]) (H.next + 2) b p1 q1 r1 g s' x' K2.next H.next (H.next + 1) hBX hloX hv (by omega) (by omega) hT (cell_e hS) (cell_e hY)
  have eH : Ext H ((K2.push (.cells [.pointer none] 1 true)).stor K2.next 0 [ptr b]) := e0.trans (e1.trans eX)
  refine ⟨stOK_push _ _ _ _ _ (Nat.le_refl 1), _, hT, ?_⟩
  refine ⟨_, within_ec ((K2.push (.cells [.pointer none] 1 true)).stor K2.next 0 [ptr b]) (ptr b) 22 #[ptr K2.next, ptr H.next, ptr (H.next + 1)] _ hjv (fun v K => BR.int v K) (fun v K => BR.room v K), ?_, ?_⟩
  · rintro v X (⟨n, hR, hx⟩ | ⟨hR, hx⟩)
    · cases hx
      rcases hR with ⟨hf, q', hn, hB', hF, hq⟩ | ⟨_, hn, _⟩
      · cases hn
        refine ⟨fun h => by simp at h, fun _ => ?_⟩
        have hTb' : X.blk K2.next = some (.cells [ptr b] 1 true) := hF.same _ _ (by have := K2.lt _ _ hB.blk; omega) (fun o e => by have := hB.qlt e; omega) hTb
        have hag : X.aggAt b 0 3 (gV p1 q' r1 ⟨g.ins, (gradP g.vals s' x').1, g.outs⟩) := by
          show X.run? b 0 3 = some [sv p1 g.ins, sv q' (gradP g.vals s' x').1, sv r1 g.outs]
          unfold Heap.run?; rw [hB'.blk]; rfl
        refine ⟨_, cell0 hTb', gV p1 q' r1 ⟨g.ins, (gradP g.vals s' x').1, g.outs⟩, hag, ?_⟩
        rw [hja, hf]
        have eF : Ext H X := Fr.ext eH hF (by omega) (fun y o e => by have : H.next + 2 ≤ y := hB.qlo e; omega)
        have ow := hB'.own
        exact ⟨p1, q', r1, rfl, eF, ⟨ow.i.wider (Nat.le_add_right _ _), ow.s.wider (Nat.le_add_right _ _), ow.o.wider (Nat.le_add_right _ _), ow.hi_, ow.ne⟩⟩
      · cases hn
    · cases hx
      rcases hR with ⟨_, _, hn, _⟩ | ⟨hf, _, hF⟩
      · cases hn
      · refine ⟨fun _ => ?_, fun h => by simp at h⟩
        have eF : Ext H X := Fr.ext eH hF (by omega) (fun y o e => by have : H.next + 2 ≤ y := hB.qlo e; omega)
        exact JAR.zero (c := 5) (by rw [hja, hf]; rfl) eF
  · rintro v X (⟨n, hR, hx⟩ | ⟨hR, hx⟩) <;> cases hx
end Go.Proofs.Ytaaelokodfildaa

set_option linter.unusedVariables false
namespace Go.Proofs.Ytaaelokodfildaa
open Go.Am

theorem szG_bndJ {g : Graph} {left : Int} (h0 : 0 ≤ left) (h : ¬ szG g left < 0) : (g.ins.length : Int) ≤ left ∧ (g.vals.length : Int) ≤ left ∧ (g.outs.length : Int) ≤ left := by
  unfold szG at h
  simp only at h
  split at h
  · omega
  · omega
theorem heldGraphJ_pc (K : Heap) (p q r : Option Addr) (c : Graph) (k : Int) (h : RdG K p q r (mkG k c)) (h1 : c.ins.length ≤ 1048576) (h2 : c.vals.length ≤ 1048576) (h3 : c.outs.length ≤ 1048576) (hk0 : 0 ≤ k) (hk : k ≤ 1000000) :
    PC Try.prog 10 [gV p q r c, .int .i64 k] K (.int .i64 (mkGk k c)) := by
  refine EC_fn ctx (fun _ => true) Try.func10 rfl rfl rfl ?_
  refine ⟨_, heldIntS_pc K p k c.ins.length h.ins h1 hk0 (by omega), ?_, fun v K hR => by cases hR.1⟩
  rintro _ K1 ⟨hx, rfl⟩
  cases hx
  refine ⟨fun h => by simp at h; omega, fun _ => ?_⟩
  refine ⟨_, heldValS_pc K1 q _ c.vals.length h.vals h2 (by omega) (by omega), ?_, fun v K hR => by cases hR.1⟩
  rintro _ K1 ⟨hx, rfl⟩
  cases hx
  refine ⟨fun h => by simp at h; omega, fun _ => ?_⟩
  refine ⟨_, heldIntS_pc K1 r _ c.outs.length h.outs h3 (by omega) (by omega), ?_, fun v K hR => by cases hR.1⟩
  rintro _ K1 ⟨hx, rfl⟩
  cases hx
  exact ⟨fun h => by simp at h; omega, fun _ => ⟨rfl, rfl⟩⟩
theorem gdA_len (g : Graph) (s x : Int) (h1 : g.ins.length ≤ 1048576) (h2 : g.vals.length ≤ 1048576) (h3 : g.outs.length ≤ 1048576) : (gdA g s x).1.ins.length ≤ 1048576 ∧ (gdA g s x).1.vals.length ≤ 1048576 ∧ (gdA g s x).1.outs.length ≤ 1048576 := by
  unfold gdA
  repeat' split
  · rename_i h _ _
    have := (grad_lens h.1 (s := s.toNat) (x := x.toNat) (by omega) (by omega)).1
    exact ⟨h1, by dsimp only; omega, h3⟩
  · simp [zGr]
  · simp [zGr]
  · simp [zGr]
set_option maxHeartbeats 1000000 in
theorem law_Grad {H : Heap} {p q r : Option Addr} {g : Graph} {s x : Int} (hg : RdG H p q r g) (h1 : g.ins.length ≤ 9223372036854775807) (h2 : g.vals.length ≤ 9223372036854775807) (h3 : g.outs.length ≤ 9223372036854775807) :
    EC Try.prog 3 [gV p q r g, .int .i64 s, .int .i64 x] H fun e H' => e = .ret (.bool true) := by
  refine EC_fn ctx (fun _ => true) Try.func3 rfl rfl rfl ?_
  refine ⟨_, szGraph_pc H p q r g 1048576 (by omega) (by omega) (by omega) (by omega) (by omega), ?_, fun v K hR => by cases hR.1⟩
  rintro _ H ⟨hx, rfl⟩
  cases hx
  refine ⟨fun h => rfl, fun h => ?_⟩
  have hsz : ¬ szG g 1048576 < 0 := by simp at h; omega
  obtain ⟨z1, z2, z3⟩ := szG_bndJ (by omega) hsz
  clear h h1 h2 h3
  obtain ⟨y1, y2, y3⟩ := gdA_len g s x (by omega) (by omega) (by omega)
  have hA := hg.at_
  refine ⟨_, toGraph_ec H p q r g hg (by omega) (by omega) (by omega), ?_, fun v K hR => by cases hR.1⟩
  rintro _ K1 ⟨hx, hK⟩
  cases hx
  obtain ⟨e1, o1, n1⟩ := pushG_own hK
  clear hK
  have hspec := specGrad_ec K1 _ _ _ g s x o1.rd (by omega) (by omega) (by omega)
  have himpl : ∀ (K : Heap) (p q r : Option Addr), RdG K p q r g → EC Try.prog 7 [gV p q r g, .int .i64 s, .int .i64 x] K (JAR K (gdA g s x)) := fun K p q r h => implGrad_ec K p q r g s x h (by omega) (by omega) (by omega)
  generalize gdA g s x = ya at *
  obtain ⟨g', at1, code⟩ := ya
  dsimp only at y1 y2 y3
  refine ⟨_, hspec, ?_, fun v K hR => hR.no.elim⟩
  rintro _ K2 ⟨w1, w2, w3, hx, e2, ow⟩
  dsimp only at hx ow
  cases hx
  refine ⟨_, toGraph_ec K2 p q r g (hA.mono (e1.trans e2)).rd (by omega) (by omega) (by omega), ?_, fun v K hR => by cases hR.1⟩
  rintro _ K3 ⟨hx, hK⟩
  cases hx
  obtain ⟨e3, o3, n3⟩ := pushG_own hK
  clear hK
  refine ⟨_, himpl K3 _ _ _ o3.rd, ?_, fun v K hR => hR.no.elim⟩
  rintro _ K4 ⟨g1, g2, g3, hx, e4, og⟩
  dsimp only at hx og
  cases hx
  have e34 := e3.trans e4
  have m1 := e1.next
  have m2 := e2.next
  have m4 := e4.next
  have ow := ow.mono e34
  have o3' := o3.mono e4
  have qA := hA.mono ((e1.trans e2).trans e34)
  refine ⟨_, eqGraph_pc K4 _ _ _ _ _ _ g' g' og.rd ow.rd (by omega) (by omega) (by omega), ?_, fun v K hR => by cases hR.1⟩
  rintro _ K4 ⟨hx, rfl⟩
  cases hx
  refine ⟨fun h => by simp at h, fun _ => ⟨.leaf [([0, 1], some 2), ([3, 4], none)] [0], by kernel_rfl, ?_⟩⟩
  refine ⟨_, toGraph_ec K4 p q r g qA.rd (by omega) (by omega) (by omega), ?_, fun v K hR => by cases hR.1⟩
  rintro _ K5 ⟨hx, hK⟩
  cases hx
  obtain ⟨e5, o5, n5⟩ := pushG_own hK
  clear hK
  have o3' := o3'.mono e5
  refine ⟨_, eqGraph_pc K5 _ _ _ _ _ _ g g o3'.rd o5.rd (by omega) (by omega) (by omega), fun h => by simp at h, fun _ => ?_⟩
  refine ⟨_, markGraph_ec K5 _ _ _ _ _ g 1 o3' (by omega) (by omega) (by omega) (by omega) (by omega), ?_, fun v K hR => by cases hR.1⟩
  rintro _ K6 ⟨hx, _, t6⟩
  cases hx
  have qA := (qA.mono e5).out t6 (by omega)
  have ow := (ow.mono e5).out t6 (by omega)
  have og := (og.mono e5).out t6 (by omega)
  refine ⟨_, fun _ => eqGraph_pc K6 _ _ _ _ _ _ g' g' og.rd ow.rd (by omega) (by omega) (by omega), fun h => ?_, fun _ => ?_⟩
  · simp [mkGk] at h; omega
  refine ⟨_, markGraph_ec K6 _ _ _ _ _ g' 1 og (by omega) (by omega) (by omega) (by omega) (by omega), ?_, fun v K hR => by cases hR.1⟩
  rintro _ K7 ⟨hx, og7, o7⟩
  cases hx
  have qA := qA.out o7 (by omega)
  have ow := ow.out o7 (by omega)
  refine ⟨_, heldGraphJ_pc K7 _ _ _ g' 1 og7.rd (by omega) (by omega) (by omega) (by omega) (by omega), ?_, fun v K hR => by cases hR.1⟩
  rintro _ K7 ⟨hx, rfl⟩
  cases hx
  refine ⟨fun h => by simp [mkGk] at h; omega, fun _ => ⟨fun h => by simp at h, fun _ => ?_⟩⟩
  refine ⟨_, toGraph_ec K7 p q r g qA.rd (by omega) (by omega) (by omega), ?_, fun v K hR => by cases hR.1⟩
  rintro _ K8 ⟨hx, hK⟩
  cases hx
  obtain ⟨e8, o8, n8⟩ := pushG_own hK
  clear hK
  refine ⟨_, himpl K8 _ _ _ o8.rd, ?_, fun v K hR => hR.no.elim⟩
  rintro _ K9 ⟨j1, j2, j3, hx, e9, oj⟩
  dsimp only at hx oj
  cases hx
  have ow := ow.mono (e8.trans e9)
  refine ⟨_, eqGraph_pc K9 _ _ _ _ _ _ g' g' oj.rd ow.rd (by omega) (by omega) (by omega), ?_, fun v K hR => by cases hR.1⟩
  rintro _ K9 ⟨hx, rfl⟩
  cases hx
  refine ⟨fun h => by simp at h, fun _ => ?_⟩
  refine ⟨_, heldGraphJ_pc K9 _ _ _ g' 1 (og7.rd.mono (e8.trans e9)) (by omega) (by omega) (by omega) (by omega) (by omega), ?_, fun v K hR => by cases hR.1⟩
  rintro _ K9 ⟨hx, rfl⟩
  cases hx
  exact ⟨fun h => by simp [mkGk] at h; omega, fun _ => ⟨fun h => by simp at h, fun _ => rfl⟩⟩
end Go.Proofs.Ytaaelokodfildaa
