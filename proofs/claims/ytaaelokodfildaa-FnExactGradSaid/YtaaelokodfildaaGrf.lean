/- The program's parts: closures over boxes. Conditions: those of each. The program's rules. Written by gengrf.py. Conditions: those of each. -/
import Derived.Test.YtaaelokodfildaaGrb
set_option linter.unusedVariables false
set_option linter.unusedSimpArgs false
namespace Go.Proofs.Ytaaelokodfildaa
open Go.Am

/-- A walk over a builder; D: blocks that no operation of the builder touches. -/
structure KS (K0 : Heap) (q0 : Option Addr) (X : Heap) (lo b : Nat) (p q r : Option Addr) (ins outs : List Int) (vs : List Val) (D : Nat → Blk → Prop) : Prop where
  at_ : BAt X lo b p q r ins vs outs
  fr : Fr K0 b q0 X
  nq : NewQ K0 q0 q
  lo_ : lo ≤ X.next
  kb : ∀ x c, D x c → X.blk x = some c ∧ x ≠ b ∧ ∀ o, q ≠ some ⟨x, o, none⟩
section
variable {K0 X : Heap} {q0 : Option Addr} {lo b : Nat} {p q r : Option Addr} {ins outs : List Int} {vs : List Val} {D : Nat → Blk → Prop}
theorem KS.ext (ks : KS K0 q0 X lo b p q r ins outs vs D) {X' : Heap} (e : Ext X X') : KS K0 q0 X' lo b p q r ins outs vs D :=
  ⟨ks.at_.mono e, ks.fr.trans ks.nq (.of_ext e), ks.nq, Nat.le_trans ks.lo_ e.next, fun x c h => ⟨e.same _ _ (ks.kb x c h).1, (ks.kb x c h).2⟩⟩
theorem KS.sub (ks : KS K0 q0 X lo b p q r ins outs vs D) {D' : Nat → Blk → Prop} (h : ∀ x c, D' x c → D x c) : KS K0 q0 X lo b p q r ins outs vs D' := ⟨ks.at_, ks.fr, ks.nq, ks.lo_, fun x c h' => ks.kb x c (h x c h')⟩
/-- All that is new is kept too. -/
theorem KS.grow (ks : KS K0 q0 X lo b p q r ins outs vs D) {X' : Heap} (e : Ext X X') : KS K0 q0 X' lo b p q r ins outs vs (fun x c => D x c ∨ (X.next ≤ x ∧ X'.blk x = some c)) :=
  ⟨ks.at_.mono e, ks.fr.trans ks.nq (.of_ext e), ks.nq, Nat.le_trans ks.lo_ e.next, fun x c h => by
    rcases h with h | ⟨h1, h2⟩
    · exact ⟨e.same _ _ (ks.kb x c h).1, (ks.kb x c h).2⟩
    · exact ⟨h2, by have := X.lt _ _ ks.at_.blk; omega, fun o e' => by have := ks.at_.qlt e'; omega⟩⟩
theorem KS.cell (ks : KS K0 q0 X lo b p q r ins outs vs D) {x : Nat} {v : Value} (h : D x (.cells [v] 1 true)) : X.cell? x 0 = some v := by
  unfold Heap.cell?; rw [(ks.kb x _ h).1]; rfl
theorem KS.fld (ks : KS K0 q0 X lo b p q r ins outs vs D) {x o : Nat} {w : Val} {u : Value} (h : D x (.cells (vcells w) 6 true)) (hu : (vcells w)[o]? = some u) : X.cell? x o = some u := by
  unfold Heap.cell?; rw [(ks.kb x _ h).1]; exact hu
/-- What a call leaves. -/
def KRes (K0 : Heap) (q0 : Option Addr) (lo b : Nat) (p r : Option Addr) (ins outs : List Int) (D : Nat → Blk → Prop) (y : List Val × Int) (e : AEnd) (X' : Heap) : Prop :=
  (∃ q', e = .ret (.int .i64 y.2) ∧ KS K0 q0 X' lo b p q' r ins outs y.1 D) ∨ (e = .pan noRoom ∧ fitsL y.1 = false ∧ Fr K0 b q0 X')
theorem KS.of_BR (ks : KS K0 q0 X lo b p q r ins outs vs D) {y : List Val × Int} {e : AEnd} {X' : Heap} (h : BR X lo b p q r ins outs y e X') : KRes K0 q0 lo b p r ins outs D y e X' := by
  rcases h with ⟨hf, q', rfl, hb, hF, hq⟩ | ⟨hf, rfl, hF⟩
  · refine .inl ⟨q', rfl, hb, ks.fr.trans ks.nq hF, ks.nq.trans ks.fr.next hq, Nat.le_trans ks.lo_ hF.next, fun x c hx => ?_⟩
    obtain ⟨a1, a2, a3⟩ := ks.kb x c hx
    have hlt := X.lt _ _ a1
    refine ⟨hF.same x _ a2 a3 a1, a2, fun o e => ?_⟩
    rcases hq with rfl | ⟨b', rfl, hn⟩
    · exact a3 o e
    · cases e; omega
  · exact .inr ⟨rfl, hf, ks.fr.trans ks.nq hF⟩
theorem KRes.elim {y : List Val × Int} {G : Value → Heap → Prop} (h : ∀ q' X', KS K0 q0 X' lo b p q' r ins outs y.1 D → G (.int .i64 y.2) X') : ∀ v X', KRes K0 q0 lo b p r ins outs D y (.ret v) X' → G v X' := fun v X' hR => by
  rcases hR with ⟨q', hv, ks⟩ | ⟨hv, _⟩
  · cases hv; exact h q' X' ks
  · cases hv
theorem KRes.elim2 {l : List Val} {n : Int} {G : Value → Heap → Prop} (h : ∀ q' X', KS K0 q0 X' lo b p q' r ins outs l D → G (.int .i64 n) X') : ∀ v X', KRes K0 q0 lo b p r ins outs D (l, n) (.ret v) X' → G v X' := KRes.elim h
theorem KRes.pan {D' : Nat → Blk → Prop} {y z : List Val × Int} {v : Value} {X' : Heap} (h : KRes K0 q0 lo b p r ins outs D y (.pan v) X') (hp : Pre y.1 z.1) : KRes K0 q0 lo b p r ins outs D' z (.pan v) X' := by
  rcases h with ⟨q', hv, ms⟩ | ⟨hv, hf, hF⟩
  · cases hv
  · exact .inr ⟨hv, hp.nofit hf, hF⟩
theorem KRes.panB {y z : List Val × Int} {v : Value} {X' : Heap} (h : KRes K0 q0 lo b p r ins outs D y (.pan v) X') (hp : Pre y.1 z.1) : BR K0 lo b p q0 r ins outs z (.pan v) X' := by
  rcases h with ⟨q', hv, ms⟩ | ⟨hv, hf, hF⟩
  · cases hv
  · cases hv; exact .inr ⟨hp.nofit hf, rfl, hF⟩
theorem KS.fin (ks : KS K0 q0 X lo b p q r ins outs vs D) (m : Int) : KRes K0 q0 lo b p r ins outs D (vs, m) (.ret (.int .i64 m)) X := .inl ⟨q, rfl, ks⟩
theorem KS.finB (ks : KS K0 q0 X lo b p q r ins outs vs D) (m : Int) : BR K0 lo b p q0 r ins outs (vs, m) (.ret (.int .i64 m)) X := .inl ⟨ks.at_.fit, q, rfl, ks.at_, ks.fr, ks.nq⟩
theorem KS.op (ks : KS K0 q0 X lo b p q r ins outs vs D) (op n : Int) (a : Option Addr) (fs : List Int) (hn : 0 ≤ n ∧ n ≤ 1000) (hr : Rd dInt X a fs) (hl : fs.length ≤ 3) :
    EC Try.prog 51 [.pointer (some ⟨b, 0, none⟩), .int .i64 op, .int .i64 n, sv a fs] X (KRes K0 q0 lo b p r ins outs D (vs ++ [fv op n fs], (vs.length : Int))) :=
  (op_ec X lo b p q r ins outs vs op n a fs ks.at_ ks.lo_ hn hr hl).mono fun _ _ h => ks.of_BR h
theorem KS.opB (ks : KS K0 q0 X lo b p q r ins outs vs D) (op n : Int) (fs : List Int) (hn : 0 ≤ n ∧ n ≤ 1000) (hl : fs.length ≤ 3) :
    EC Try.prog 51 [.pointer (some ⟨b, 0, none⟩), .int .i64 op, .int .i64 n, sv (some ⟨X.next, 0, none⟩) fs] (X.push (.cells (flat dInt fs) 1 true)) (KRes K0 q0 lo b p r ins outs D (vs ++ [fv op n fs], (vs.length : Int))) :=
  (ks.ext (Ext.push X _)).op op n _ fs hn (Rd.push X true) hl
theorem KS.zeros (ks : KS K0 q0 X lo b p q r ins outs vs D) (n : Int) (hn : 0 ≤ n ∧ n ≤ 1000) :
    EC Try.prog 49 [.pointer (some ⟨b, 0, none⟩), .int .i64 n] X (KRes K0 q0 lo b p r ins outs D (vs ++ [opV 1 n 0 0 0], (vs.length : Int))) :=
  ((MS.start ks.at_ ks.lo_).zeros n hn).mono fun _ _ h => ks.of_BR h.fin
theorem KS.keep (ks : KS K0 q0 X lo b p q r ins outs vs D) {q' : Option Addr} {X' : Heap} {vs' : List Val} (ks' : KS K0 q0 X' lo b p q' r ins outs vs' D) : ExtS (fun x => ∃ c, D x c) X X' := fun x c ⟨c', h⟩ hc => by
  have h1 := (ks.kb x c' h).1
  rw [hc] at h1
  cases h1
  exact (ks'.kb x c h).1
/-- A part: a closure that puts behind what y says; its boxes are in D0. -/
def PartOK (lo b : Nat) (p r : Option Addr) (ins outs : List Int) (D0 : Nat → Blk → Prop) (c : Value) (y : List Val → List Val × Int) : Prop :=
  ∃ f caps, c = .func (.func f) #[] caps ∧ ∀ (K0 X : Heap) (q0 q : Option Addr) (vs : List Val) (D : Nat → Blk → Prop), (∀ x c, D0 x c → D x c) → KS K0 q0 X lo b p q r ins outs vs D → EC Try.prog f caps.toList X (KRes K0 q0 lo b p r ins outs D (y vs))
theorem bsame_ec (ks : KS K0 q0 X lo b p q r ins outs vs D) {x : Nat} {d : Int} (h : D x (.cells [int' d] 1 true)) :
    EC Try.prog 61 [ptr x] X (KRes K0 q0 lo b p r ins outs D (vs, d)) := by
  refine EC_fn ctx (fun _ => true) Try.func61 rfl rfl rfl ?_
  exact ⟨_, ks.cell h, ks.fin _⟩
theorem bone_ec (ks : KS K0 q0 X lo b p q r ins outs vs D) {B O N F S : Nat} {op n : Int} {fs : List Int} (hB : D B (.cells [ptr b] 1 true)) (hO : D O (.cells [int' op] 1 true)) (hN : D N (.cells [int' n] 1 true)) (hF : D F (.cells [sv (some ⟨S, 0, none⟩) fs] 1 true)) (hS : D S (.cells (flat dInt fs) 1 true)) (hn : 0 ≤ n ∧ n ≤ 1000) (hl : fs.length ≤ 3) :
    EC Try.prog 63 [ptr B, ptr O, ptr N, ptr F] X (KRes K0 q0 lo b p r ins outs D (vs ++ [fv op n fs], (vs.length : Int))) := by
  refine EC_fn ctx (fun _ => true) Try.func63 rfl rfl rfl ?_
  refine ⟨_, ks.cell hB, _, ks.cell hO, _, ks.cell hN, _, ks.cell hF, ?_⟩
  exact ⟨_, ks.op op n _ fs hn (Rd.blk (ks.kb _ _ hS).1) hl, KRes.elim2 fun q' X' ks' => ks'.fin _, fun v X' h => h⟩
theorem bdiv_ec (ks : KS K0 q0 X lo b p q r ins outs vs D) {B N E I V : Nat} {v : Val} {d i : Int} (hB : D B (.cells [ptr b] 1 true)) (hN : D N (.cells [int' v.len] 1 true)) (hE : D E (.cells [int' d] 1 true)) (hI : D I (.cells [int' i] 1 true)) (hV : D V (.cells (vcells v) 6 true)) (hn : 0 ≤ v.len ∧ v.len ≤ 1000) :
    EC Try.prog 64 [ptr B, ptr N, ptr E, ptr I, ptr V] X (KRes K0 q0 lo b p r ins outs D (vs ++ [fv 4 v.len [d, i]] ++ [fv 5 v.len [(vs.length : Int), v.b]] ++ [fv 6 v.len [((vs ++ [fv 4 v.len [d, i]]).length : Int)]], ((vs ++ [fv 4 v.len [d, i]] ++ [fv 5 v.len [(vs.length : Int), v.b]]).length : Int))) := by
  refine EC_fn ctx (fun _ => true) Try.func64 rfl rfl rfl ?_
  refine ⟨_, ks.cell hB, _, ks.cell hN, _, ks.cell hE, _, ks.cell hI, ?_⟩
  refine ⟨_, ks.opB 4 v.len [d, i] hn (by simp), KRes.elim2 fun q1 X1 k1 => ?_, fun _ X h => h.pan ((Pre.snoc _ (fv 5 v.len [(vs.length : Int), v.b]) hn).trans (Pre.snoc _ (fv 6 v.len [((vs ++ [fv 4 v.len [d, i]]).length : Int)]) hn))⟩
  refine ⟨_, k1.cell hB, _, k1.cell hN, _, k1.fld (o := 3) (u := .int .i64 v.b) hV rfl, ?_⟩
  refine ⟨_, k1.opB 5 v.len [(vs.length : Int), v.b] hn (by simp), KRes.elim2 fun q2 X2 k2 => ?_, fun _ X h => h.pan (Pre.snoc _ (fv 6 v.len [((vs ++ [fv 4 v.len [d, i]]).length : Int)]) hn)⟩
  refine ⟨_, k2.cell hB, _, k2.cell hN, ?_⟩
  exact ⟨_, k2.opB 6 v.len [((vs ++ [fv 4 v.len [d, i]]).length : Int)] hn (by simp), KRes.elim2 fun q3 X3 k3 => k3.fin _, fun _ X h => h⟩
set_option maxHeartbeats 1000000 in
theorem bmax1_ec (ks : KS K0 q0 X lo b p q r ins outs vs D) {B N V E : Nat} {v : Val} {d : Int} (hB : D B (.cells [ptr b] 1 true)) (hN : D N (.cells [int' v.len] 1 true)) (hE : D E (.cells [int' d] 1 true)) (hV : D V (.cells (vcells v) 6 true)) (hn : 0 ≤ v.len ∧ v.len ≤ 1000) :
    EC Try.prog 65 [ptr B, ptr N, ptr V, ptr E] X (KRes K0 q0 lo b p r ins outs D ((vs ++ [fv 3 v.len [v.a, v.b]]) ++ [opV 1 v.len 0 0 0] ++ [fv 8 v.len [(vs.length : Int), d, ((vs ++ [fv 3 v.len [v.a, v.b]]).length : Int)]], (((vs ++ [fv 3 v.len [v.a, v.b]]) ++ [opV 1 v.len 0 0 0]).length : Int))) := by
  refine EC_fn ctx (fun _ => true) Try.func65 rfl rfl rfl ?_
  refine ⟨_, ks.cell hB, _, ks.cell hN, _, ks.fld (o := 2) (u := .int .i64 v.a) hV rfl, _, ks.fld (o := 3) (u := .int .i64 v.b) hV rfl, ?_⟩
  refine ⟨_, ks.opB 3 v.len [v.a, v.b] hn (by simp), KRes.elim2 fun q1 X1 k1 => ?_, fun _ X h => h.pan ((Pre.snoc _ (opV 1 v.len 0 0 0) hn).trans (Pre.snoc _ (fv 8 v.len [(vs.length : Int), d, ((vs ++ [fv 3 v.len [v.a, v.b]]).length : Int)]) hn))⟩
  refine ⟨.leafS [([0, 1, 2, 3, 4, 5], some 6), ([], some 7), ([], some 8), ([9], none)] [0, 1, 2, 3], by kernel_rfl, (fun x => ∃ c, D x c), _, k1.cell hB, ⟨_, hB⟩, _, k1.cell hN, ⟨_, hN⟩, _, k1.cell hE, ⟨_, hE⟩, _, k1.cell hB, _, k1.cell hN, ?_⟩
  refine ⟨_, k1.zeros v.len hn, KRes.elim2 fun q2 X2 k2 => ⟨k1.keep k2, ?_⟩, fun _ X h => h.pan (Pre.snoc _ (fv 8 v.len [(vs.length : Int), d, ((vs ++ [fv 3 v.len [v.a, v.b]]).length : Int)]) hn)⟩
  refine ⟨fun x c _ hc => (Ext.push X2 _).same x c hc, ?_⟩
  exact ⟨_, k2.opB 8 v.len [(vs.length : Int), d, ((vs ++ [fv 3 v.len [v.a, v.b]]).length : Int)] hn (by simp), KRes.elim2 fun q3 X3 k3 => ⟨(k2.ext (Ext.push X2 _)).keep k3, k3.fin _⟩, fun _ X h => h⟩
set_option maxHeartbeats 1000000 in
theorem bmax2_ec (ks : KS K0 q0 X lo b p q r ins outs vs D) {B N V E : Nat} {v : Val} {d : Int} (hB : D B (.cells [ptr b] 1 true)) (hN : D N (.cells [int' v.len] 1 true)) (hE : D E (.cells [int' d] 1 true)) (hV : D V (.cells (vcells v) 6 true)) (hn : 0 ≤ v.len ∧ v.len ≤ 1000) :
    EC Try.prog 66 [ptr B, ptr N, ptr V, ptr E] X (KRes K0 q0 lo b p r ins outs D ((vs ++ [fv 3 v.len [v.a, v.b]]) ++ [opV 1 v.len 0 0 0] ++ [fv 8 v.len [(vs.length : Int), ((vs ++ [fv 3 v.len [v.a, v.b]]).length : Int), d]], (((vs ++ [fv 3 v.len [v.a, v.b]]) ++ [opV 1 v.len 0 0 0]).length : Int))) := by
  refine EC_fn ctx (fun _ => true) Try.func66 rfl rfl rfl ?_
  refine ⟨_, ks.cell hB, _, ks.cell hN, _, ks.fld (o := 2) (u := .int .i64 v.a) hV rfl, _, ks.fld (o := 3) (u := .int .i64 v.b) hV rfl, ?_⟩
  refine ⟨_, ks.opB 3 v.len [v.a, v.b] hn (by simp), KRes.elim2 fun q1 X1 k1 => ?_, fun _ X h => h.pan ((Pre.snoc _ (opV 1 v.len 0 0 0) hn).trans (Pre.snoc _ (fv 8 v.len [(vs.length : Int), ((vs ++ [fv 3 v.len [v.a, v.b]]).length : Int), d]) hn))⟩
  refine ⟨.leafS [([0, 1, 2, 3, 4, 6], some 5), ([], some 7), ([], some 8), ([9], none)] [0, 1, 2, 6], by kernel_rfl, (fun x => ∃ c, D x c), _, k1.cell hB, ⟨_, hB⟩, _, k1.cell hN, ⟨_, hN⟩, _, k1.cell hB, _, k1.cell hN, _, k1.cell hE, ⟨_, hE⟩, ?_⟩
  refine ⟨_, k1.zeros v.len hn, KRes.elim2 fun q2 X2 k2 => ⟨k1.keep k2, ?_⟩, fun _ X h => h.pan (Pre.snoc _ (fv 8 v.len [(vs.length : Int), ((vs ++ [fv 3 v.len [v.a, v.b]]).length : Int), d]) hn)⟩
  refine ⟨fun x c _ hc => (Ext.push X2 _).same x c hc, ?_⟩
  exact ⟨_, k2.opB 8 v.len [(vs.length : Int), ((vs ++ [fv 3 v.len [v.a, v.b]]).length : Int), d] hn (by simp), KRes.elim2 fun q3 X3 k3 => ⟨(k2.ext (Ext.push X2 _)).keep k3, k3.fin _⟩, fun _ X h => h⟩
set_option maxHeartbeats 1000000 in
theorem bsel1_ec (ks : KS K0 q0 X lo b p q r ins outs vs D) {B N V E : Nat} {v : Val} {d : Int} (hB : D B (.cells [ptr b] 1 true)) (hN : D N (.cells [int' v.len] 1 true)) (hE : D E (.cells [int' d] 1 true)) (hV : D V (.cells (vcells v) 6 true)) (hn : 0 ≤ v.len ∧ v.len ≤ 1000) :
    EC Try.prog 67 [ptr B, ptr N, ptr V, ptr E] X (KRes K0 q0 lo b p r ins outs D (vs ++ [opV 1 v.len 0 0 0] ++ [fv 8 v.len [v.a, d, (vs.length : Int)]], ((vs ++ [opV 1 v.len 0 0 0]).length : Int))) := by
  refine EC_fn ctx (fun _ => true) Try.func67 rfl rfl rfl ?_
  refine ⟨.leafS [([0, 1, 2, 3, 4, 5, 6], some 7), ([], some 8), ([], some 9), ([10], none)] [0, 1, 2, 3, 4], by kernel_rfl, (fun x => ∃ c, D x c), _, ks.cell hB, ⟨_, hB⟩, _, ks.cell hN, ⟨_, hN⟩, _, ks.fld (o := 2) (u := .int .i64 v.a) hV rfl, ⟨_, hV⟩, _, ks.cell hE, ⟨_, hE⟩, _, ks.cell hB, _, ks.cell hN, ?_⟩
  refine ⟨_, ks.zeros v.len hn, KRes.elim2 fun q2 X2 k2 => ⟨ks.keep k2, ?_⟩, fun _ X h => h.pan (Pre.snoc _ (fv 8 v.len [v.a, d, (vs.length : Int)]) hn)⟩
  refine ⟨fun x c _ hc => (Ext.push X2 _).same x c hc, ?_⟩
  exact ⟨_, k2.opB 8 v.len [v.a, d, (vs.length : Int)] hn (by simp), KRes.elim2 fun q3 X3 k3 => ⟨(k2.ext (Ext.push X2 _)).keep k3, k3.fin _⟩, fun _ X h => h⟩
set_option maxHeartbeats 1000000 in
theorem bsel2_ec (ks : KS K0 q0 X lo b p q r ins outs vs D) {B N V E : Nat} {v : Val} {d : Int} (hB : D B (.cells [ptr b] 1 true)) (hN : D N (.cells [int' v.len] 1 true)) (hE : D E (.cells [int' d] 1 true)) (hV : D V (.cells (vcells v) 6 true)) (hn : 0 ≤ v.len ∧ v.len ≤ 1000) :
    EC Try.prog 68 [ptr B, ptr N, ptr V, ptr E] X (KRes K0 q0 lo b p r ins outs D (vs ++ [opV 1 v.len 0 0 0] ++ [fv 8 v.len [v.a, (vs.length : Int), d]], ((vs ++ [opV 1 v.len 0 0 0]).length : Int))) := by
  refine EC_fn ctx (fun _ => true) Try.func68 rfl rfl rfl ?_
  refine ⟨.leafS [([0, 1, 2, 3, 4, 5, 7], some 6), ([], some 8), ([], some 9), ([10], none)] [0, 1, 2, 3, 7], by kernel_rfl, (fun x => ∃ c, D x c), _, ks.cell hB, ⟨_, hB⟩, _, ks.cell hN, ⟨_, hN⟩, _, ks.fld (o := 2) (u := .int .i64 v.a) hV rfl, ⟨_, hV⟩, _, ks.cell hB, _, ks.cell hN, _, ks.cell hE, ⟨_, hE⟩, ?_⟩
  refine ⟨_, ks.zeros v.len hn, KRes.elim2 fun q2 X2 k2 => ⟨ks.keep k2, ?_⟩, fun _ X h => h.pan (Pre.snoc _ (fv 8 v.len [v.a, (vs.length : Int), d]) hn)⟩
  refine ⟨fun x c _ hc => (Ext.push X2 _).same x c hc, ?_⟩
  exact ⟨_, k2.opB 8 v.len [v.a, (vs.length : Int), d] hn (by simp), KRes.elim2 fun q3 X3 k3 => ⟨(k2.ext (Ext.push X2 _)).keep k3, k3.fin _⟩, fun _ X h => h⟩
end
end Go.Proofs.Ytaaelokodfildaa

set_option linter.unusedVariables false
namespace Go.Proofs.Ytaaelokodfildaa
open Go.Am

theorem pushAll (X : Heap) : ∀ (cs : List Blk), X.next + cs.length = (cs.foldl Heap.push X).next ∧ Ext X (cs.foldl Heap.push X) ∧ ∀ j c, cs[j]? = some c → (cs.foldl Heap.push X).blk (X.next + j) = some c
  | [] => ⟨rfl, Ext.refl _, fun j c h => by simp at h⟩
  | c0 :: cs => by
    obtain ⟨h1, h2, h3⟩ := pushAll (X.push c0) cs
    refine ⟨?_, (Ext.push X c0).trans h2, fun j c h => ?_⟩
    · show _ = (cs.foldl Heap.push (X.push c0)).next
      rw [← h1]; show X.next + (cs.length + 1) = X.next + 1 + cs.length; omega
    · cases j with
      | zero => cases h; exact h2.same _ _ (push_blk _ _)
      | succ j =>
        have := h3 j c (by simpa using h)
        rw [show X.next + (j + 1) = (X.push c0).next + j by show _ = X.next + 1 + j; omega]
        exact this
theorem bone2_ec (X : Heap) (B : Nat) (op n : Int) (f : Value) (hf : (∃ a m, f = .slice a m m)) :
    EC Try.prog 62 [int' op, int' n, f, ptr B] X fun e X' => e = .ret (.func (.func 63) #[] #[ptr B, ptr X.next, ptr (X.next + 1), ptr (X.next + 2)]) ∧ X' = ((X.push (.cells [int' op] 1 true)).push (.cells [int' n] 1 true)).push (.cells [f] 1 true) := by
  obtain ⟨a, m, rfl⟩ := hf
  refine EC_fn ctx (fun t => t != 4 && t != 5 && t != 6) Try.func62 rfl rfl rfl ?_
  exact ⟨rfl, rfl⟩
section
variable {K0 X : Heap} {q0 : Option Addr} {lo b : Nat} {p q r : Option Addr} {ins outs : List Int} {vs : List Val} {D D0 : Nat → Blk → Prop}
theorem PartOK.same {x : Nat} {d : Int} (h : D0 x (.cells [int' d] 1 true)) {y : List Val → List Val × Int} (hy : ∀ vs, y vs = (vs, d)) :
    PartOK lo b p r ins outs D0 (.func (.func 61) #[] #[ptr x]) y :=
  ⟨_, _, rfl, fun K0 X q0 q vs D hD ks => by rw [hy]; exact bsame_ec ks (hD _ _ h)⟩
theorem PartOK.one {B O N F S : Nat} {op n : Int} {fs : List Int} (hB : D0 B (.cells [ptr b] 1 true)) (hO : D0 O (.cells [int' op] 1 true)) (hN : D0 N (.cells [int' n] 1 true)) (hF : D0 F (.cells [sv (some ⟨S, 0, none⟩) fs] 1 true)) (hS : D0 S (.cells (flat dInt fs) 1 true)) (hn : 0 ≤ n ∧ n ≤ 1000) (hl : fs.length ≤ 3) {y : List Val → List Val × Int} (hy : ∀ vs, y vs = (vs ++ [fv op n fs], (vs.length : Int))) :
    PartOK lo b p r ins outs D0 (.func (.func 63) #[] #[ptr B, ptr O, ptr N, ptr F]) y :=
  ⟨_, _, rfl, fun K0 X q0 q vs D hD ks => by rw [hy]; exact bone_ec ks (hD _ _ hB) (hD _ _ hO) (hD _ _ hN) (hD _ _ hF) (hD _ _ hS) hn hl⟩
/-- What a rule leaves: its parts. -/
def RuleR (lo b : Nat) (p r : Option Addr) (ins outs : List Int) (X : Heap) (D : Nat → Blk → Prop) (v : Val) (i d src : Int) (e : AEnd) (X' : Heap) : Prop :=
  ∃ c0 c1 c2, e = .ret (.agg #[c0, c1, c2]) ∧ Ext X X' ∧ ((∃ f a h m, c0 = .func (.func f) #[] a ∧ c1 = .func (.func h) #[] m ∧ c2 = .nilFunc) ∨ (∃ f a, c0 = .func (.func f) #[] a ∧ c1 = .nilFunc ∧ c2 = .nilFunc) ∨ (∃ f a h m, c0 = .nilFunc ∧ c1 = .func (.func f) #[] a ∧ c2 = .func (.func h) #[] m)) ∧ ∀ k : Nat, k < (opnd v.op).toNat → ((v.op = 8 ∧ k = 0) → [c0, c1, c2][k]? = some .nilFunc) ∧ (¬ (v.op = 8 ∧ k = 0) → ∃ c f caps, c = .func (.func f) #[] caps ∧ [c0, c1, c2][k]? = some c ∧ PartOK lo b p r ins outs (fun x c => D x c ∨ (X.next ≤ x ∧ X'.blk x = some c)) c (fun vs => partP vs v i k d src))
theorem RuleR.no {v : Val} {i d src : Int} {u : Value} {X' : Heap} (h : RuleR lo b p r ins outs X D v i d src (.pan u) X') : False := by obtain ⟨_, _, _, h, _⟩ := h; cases h
set_option maxHeartbeats 1000000 in
theorem rule2_ec (ks : KS K0 q0 X lo b p q r ins outs vs D) {B V N I S : Nat} {v : Val} {i d src : Int} (hB : D B (.cells [ptr b] 1 true)) (hV : D V (.cells (vcells v) 6 true)) (hN : D N (.cells [int' v.len] 1 true)) (hI : D I (.cells [int' i] 1 true)) (hS : D S (.cells [int' src] 1 true)) (hn : 0 ≤ v.len ∧ v.len ≤ 1000) (hs : 0 ≤ src ∧ src ≤ 1000) (hop : v.op = 2) :
    EC Try.prog 60 [int' d, ptr B, ptr V, ptr N, ptr I, ptr S] X (RuleR lo b p r ins outs X D v i d src) := by
  have k1 := ks.ext (Ext.push X (.cells [int' d] 1 true))
  have hE : (X.push (.cells [int' d] 1 true)).cell? X.next 0 = some (int' d) := cell0 (push_blk _ _)
  have hop2 : (vcells v)[0]? = some (.int .i64 v.op) := rfl
  refine EC_fn ctx (fun t => t != 6) Try.func60 rfl rfl rfl ?_
  refine ⟨_, k1.fld (o := 0) hV hop2, ?_⟩
  refine ⟨fun _ => ?_, fun h => by simp [hop] at h⟩
  obtain ⟨_, hx, hb⟩ := pushAll X [.cells [int' d] 1 true]
  refine ⟨_, _, _, rfl, hx, .inl ⟨_, _, _, _, rfl, rfl, rfl⟩, fun k hk => ?_⟩
  have ho : opnd v.op = 2 := by rw [hop]; rfl
  rw [ho] at hk
  have hk : k = 0 ∨ k = 1 := by have : (2 : Int).toNat = 2 := rfl; omega
  rcases hk with rfl | rfl
  · refine ⟨fun h => by omega, fun h => ⟨_, _, _, rfl, rfl, ?_⟩⟩
    exact PartOK.same (x := X.next + 0) (.inr ⟨by omega, hb 0 _ rfl⟩) (fun vs => by unfold partP; rw [if_pos (by omega)])
  · refine ⟨fun h => by omega, fun h => ⟨_, _, _, rfl, rfl, ?_⟩⟩
    exact PartOK.same (x := X.next + 0) (.inr ⟨by omega, hb 0 _ rfl⟩) (fun vs => by unfold partP; rw [if_pos (by omega)])
set_option maxHeartbeats 1000000 in
theorem rule3_ec (ks : KS K0 q0 X lo b p q r ins outs vs D) {B V N I S : Nat} {v : Val} {i d src : Int} (hB : D B (.cells [ptr b] 1 true)) (hV : D V (.cells (vcells v) 6 true)) (hN : D N (.cells [int' v.len] 1 true)) (hI : D I (.cells [int' i] 1 true)) (hS : D S (.cells [int' src] 1 true)) (hn : 0 ≤ v.len ∧ v.len ≤ 1000) (hs : 0 ≤ src ∧ src ≤ 1000) (hop : v.op = 3) :
    EC Try.prog 60 [int' d, ptr B, ptr V, ptr N, ptr I, ptr S] X (RuleR lo b p r ins outs X D v i d src) := by
  have k1 := ks.ext (Ext.push X (.cells [int' d] 1 true))
  have hE : (X.push (.cells [int' d] 1 true)).cell? X.next 0 = some (int' d) := cell0 (push_blk _ _)
  have hop2 : (vcells v)[0]? = some (.int .i64 v.op) := rfl
  refine EC_fn ctx (fun t => t != 6) Try.func60 rfl rfl rfl ?_
  refine ⟨_, k1.fld (o := 0) hV hop2, ?_⟩
  refine ⟨fun h => by simp [hop] at h, fun _ => ?_⟩
  refine ⟨fun _ => ?_, fun h => by simp [hop] at h⟩
  refine ⟨_, k1.cell hN, _, hE, ?_⟩
  refine ⟨_, bone2_ec _ B _ _ _ ⟨_, _, rfl⟩, ?_, fun v K hR => by cases hR.1⟩
  rintro _ Y ⟨hxx, rfl⟩
  cases hxx
  obtain ⟨_, hx, hb⟩ := pushAll X [.cells [int' d] 1 true, .cells (flat dInt [d]) 1 true, .cells [int' 6] 1 true, .cells [int' v.len] 1 true, .cells [sv (some ⟨X.next + 1, 0, none⟩) [d]] 1 true]
  refine ⟨_, _, _, rfl, hx, .inl ⟨_, _, _, _, rfl, rfl, rfl⟩, fun k hk => ?_⟩
  have ho : opnd v.op = 2 := by rw [hop]; rfl
  rw [ho] at hk
  have hk : k = 0 ∨ k = 1 := by have : (2 : Int).toNat = 2 := rfl; omega
  rcases hk with rfl | rfl
  · refine ⟨fun h => by omega, fun h => ⟨_, _, _, rfl, rfl, ?_⟩⟩
    exact PartOK.same (x := X.next + 0) (.inr ⟨by omega, hb 0 _ rfl⟩) (fun vs => by unfold partP; rw [if_pos (by omega)])
  · refine ⟨fun h => by omega, fun h => ⟨_, _, _, rfl, rfl, ?_⟩⟩
    exact PartOK.one (B := B) (O := X.next + 2) (N := X.next + 3) (F := X.next + 4) (S := X.next + 1) (op := 6) (n := v.len) (fs := [d]) (.inl hB) (.inr ⟨by omega, hb 2 _ rfl⟩) (.inr ⟨by omega, hb 3 _ rfl⟩) (.inr ⟨by omega, hb 4 _ rfl⟩) (.inr ⟨by omega, hb 1 _ rfl⟩) hn (by simp) (fun vs => by unfold partP; rw [if_neg (by omega), if_pos (by omega)]; rfl)
set_option maxHeartbeats 1000000 in
theorem rule6_ec (ks : KS K0 q0 X lo b p q r ins outs vs D) {B V N I S : Nat} {v : Val} {i d src : Int} (hB : D B (.cells [ptr b] 1 true)) (hV : D V (.cells (vcells v) 6 true)) (hN : D N (.cells [int' v.len] 1 true)) (hI : D I (.cells [int' i] 1 true)) (hS : D S (.cells [int' src] 1 true)) (hn : 0 ≤ v.len ∧ v.len ≤ 1000) (hs : 0 ≤ src ∧ src ≤ 1000) (hop : v.op = 6) :
    EC Try.prog 60 [int' d, ptr B, ptr V, ptr N, ptr I, ptr S] X (RuleR lo b p r ins outs X D v i d src) := by
  have k1 := ks.ext (Ext.push X (.cells [int' d] 1 true))
  have hE : (X.push (.cells [int' d] 1 true)).cell? X.next 0 = some (int' d) := cell0 (push_blk _ _)
  have hop2 : (vcells v)[0]? = some (.int .i64 v.op) := rfl
  refine EC_fn ctx (fun t => t != 6) Try.func60 rfl rfl rfl ?_
  refine ⟨_, k1.fld (o := 0) hV hop2, ?_⟩
  refine ⟨fun h => by simp [hop] at h, fun _ => ?_⟩
  refine ⟨fun h => by simp [hop] at h, fun _ => ?_⟩
  refine ⟨fun h => by simp [hop] at h, fun _ => ?_⟩
  refine ⟨fun h => by simp [hop] at h, fun _ => ?_⟩
  refine ⟨fun _ => ?_, fun h => by simp [hop] at h⟩
  refine ⟨_, k1.cell hN, _, hE, ?_⟩
  refine ⟨_, bone2_ec _ B _ _ _ ⟨_, _, rfl⟩, ?_, fun v K hR => by cases hR.1⟩
  rintro _ Y ⟨hxx, rfl⟩
  cases hxx
  obtain ⟨_, hx, hb⟩ := pushAll X [.cells [int' d] 1 true, .cells (flat dInt [d]) 1 true, .cells [int' 6] 1 true, .cells [int' v.len] 1 true, .cells [sv (some ⟨X.next + 1, 0, none⟩) [d]] 1 true]
  refine ⟨_, _, _, rfl, hx, .inr (.inl ⟨_, _, rfl, rfl, rfl⟩), fun k hk => ?_⟩
  have ho : opnd v.op = 1 := by rw [hop]; rfl
  rw [ho] at hk
  have hk : k = 0 := by have : (1 : Int).toNat = 1 := rfl; omega
  subst hk
  refine ⟨fun h => by omega, fun h => ⟨_, _, _, rfl, rfl, ?_⟩⟩
  exact PartOK.one (B := B) (O := X.next + 2) (N := X.next + 3) (F := X.next + 4) (S := X.next + 1) (op := 6) (n := v.len) (fs := [d]) (.inl hB) (.inr ⟨by omega, hb 2 _ rfl⟩) (.inr ⟨by omega, hb 3 _ rfl⟩) (.inr ⟨by omega, hb 4 _ rfl⟩) (.inr ⟨by omega, hb 1 _ rfl⟩) hn (by simp) (fun vs => by unfold partP; rw [if_neg (by omega), if_pos (by omega)]; rfl)
set_option maxHeartbeats 1000000 in
theorem rule9_ec (ks : KS K0 q0 X lo b p q r ins outs vs D) {B V N I S : Nat} {v : Val} {i d src : Int} (hB : D B (.cells [ptr b] 1 true)) (hV : D V (.cells (vcells v) 6 true)) (hN : D N (.cells [int' v.len] 1 true)) (hI : D I (.cells [int' i] 1 true)) (hS : D S (.cells [int' src] 1 true)) (hn : 0 ≤ v.len ∧ v.len ≤ 1000) (hs : 0 ≤ src ∧ src ≤ 1000) (hop : v.op = 9) :
    EC Try.prog 60 [int' d, ptr B, ptr V, ptr N, ptr I, ptr S] X (RuleR lo b p r ins outs X D v i d src) := by
  have k1 := ks.ext (Ext.push X (.cells [int' d] 1 true))
  have hE : (X.push (.cells [int' d] 1 true)).cell? X.next 0 = some (int' d) := cell0 (push_blk _ _)
  have hop2 : (vcells v)[0]? = some (.int .i64 v.op) := rfl
  refine EC_fn ctx (fun t => t != 6) Try.func60 rfl rfl rfl ?_
  refine ⟨_, k1.fld (o := 0) hV hop2, ?_⟩
  refine ⟨fun h => by simp [hop] at h, fun _ => ?_⟩
  refine ⟨fun h => by simp [hop] at h, fun _ => ?_⟩
  refine ⟨fun h => by simp [hop] at h, fun _ => ?_⟩
  refine ⟨fun h => by simp [hop] at h, fun _ => ?_⟩
  refine ⟨fun h => by simp [hop] at h, fun _ => ?_⟩
  refine ⟨fun h => by simp [hop] at h, fun _ => ?_⟩
  refine ⟨fun h => by simp [hop] at h, fun _ => ?_⟩
  refine ⟨fun _ => ?_, fun h => by simp [hop] at h⟩
  refine ⟨_, k1.cell hS, _, hE, ?_⟩
  refine ⟨_, bone2_ec _ B _ _ _ ⟨_, _, rfl⟩, ?_, fun v K hR => by cases hR.1⟩
  rintro _ Y ⟨hxx, rfl⟩
  cases hxx
  obtain ⟨_, hx, hb⟩ := pushAll X [.cells [int' d] 1 true, .cells (flat dInt [d]) 1 true, .cells [int' 10] 1 true, .cells [int' src] 1 true, .cells [sv (some ⟨X.next + 1, 0, none⟩) [d]] 1 true]
  refine ⟨_, _, _, rfl, hx, .inr (.inl ⟨_, _, rfl, rfl, rfl⟩), fun k hk => ?_⟩
  have ho : opnd v.op = 1 := by rw [hop]; rfl
  rw [ho] at hk
  have hk : k = 0 := by have : (1 : Int).toNat = 1 := rfl; omega
  subst hk
  refine ⟨fun h => by omega, fun h => ⟨_, _, _, rfl, rfl, ?_⟩⟩
  exact PartOK.one (B := B) (O := X.next + 2) (N := X.next + 3) (F := X.next + 4) (S := X.next + 1) (op := 10) (n := src) (fs := [d]) (.inl hB) (.inr ⟨by omega, hb 2 _ rfl⟩) (.inr ⟨by omega, hb 3 _ rfl⟩) (.inr ⟨by omega, hb 4 _ rfl⟩) (.inr ⟨by omega, hb 1 _ rfl⟩) hs (by simp) (fun vs => by unfold partP; rw [if_neg (by omega), if_neg (by omega), if_neg (by omega), if_neg (by omega), if_neg (by omega), if_neg (by omega), if_neg (by omega), if_pos (by omega)]; rfl)
set_option maxHeartbeats 1000000 in
theorem rule10_ec (ks : KS K0 q0 X lo b p q r ins outs vs D) {B V N I S : Nat} {v : Val} {i d src : Int} (hB : D B (.cells [ptr b] 1 true)) (hV : D V (.cells (vcells v) 6 true)) (hN : D N (.cells [int' v.len] 1 true)) (hI : D I (.cells [int' i] 1 true)) (hS : D S (.cells [int' src] 1 true)) (hn : 0 ≤ v.len ∧ v.len ≤ 1000) (hs : 0 ≤ src ∧ src ≤ 1000) (hop : v.op = 10) :
    EC Try.prog 60 [int' d, ptr B, ptr V, ptr N, ptr I, ptr S] X (RuleR lo b p r ins outs X D v i d src) := by
  have k1 := ks.ext (Ext.push X (.cells [int' d] 1 true))
  have hE : (X.push (.cells [int' d] 1 true)).cell? X.next 0 = some (int' d) := cell0 (push_blk _ _)
  have hop2 : (vcells v)[0]? = some (.int .i64 v.op) := rfl
  refine EC_fn ctx (fun t => t != 6) Try.func60 rfl rfl rfl ?_
  refine ⟨_, k1.fld (o := 0) hV hop2, ?_⟩
  refine ⟨fun h => by simp [hop] at h, fun _ => ?_⟩
  refine ⟨fun h => by simp [hop] at h, fun _ => ?_⟩
  refine ⟨fun h => by simp [hop] at h, fun _ => ?_⟩
  refine ⟨fun h => by simp [hop] at h, fun _ => ?_⟩
  refine ⟨fun h => by simp [hop] at h, fun _ => ?_⟩
  refine ⟨fun h => by simp [hop] at h, fun _ => ?_⟩
  refine ⟨fun h => by simp [hop] at h, fun _ => ?_⟩
  refine ⟨fun h => by simp [hop] at h, fun _ => ?_⟩
  refine ⟨fun _ => ?_, fun h => by simp [hop] at h⟩
  refine ⟨_, hE, ?_⟩
  refine ⟨_, bone2_ec _ B _ _ _ ⟨_, _, rfl⟩, ?_, fun v K hR => by cases hR.1⟩
  rintro _ Y ⟨hxx, rfl⟩
  cases hxx
  obtain ⟨_, hx, hb⟩ := pushAll X [.cells [int' d] 1 true, .cells (flat dInt [d]) 1 true, .cells [int' 9] 1 true, .cells [int' 1] 1 true, .cells [sv (some ⟨X.next + 1, 0, none⟩) [d]] 1 true]
  refine ⟨_, _, _, rfl, hx, .inr (.inl ⟨_, _, rfl, rfl, rfl⟩), fun k hk => ?_⟩
  have ho : opnd v.op = 1 := by rw [hop]; rfl
  rw [ho] at hk
  have hk : k = 0 := by have : (1 : Int).toNat = 1 := rfl; omega
  subst hk
  refine ⟨fun h => by omega, fun h => ⟨_, _, _, rfl, rfl, ?_⟩⟩
  exact PartOK.one (B := B) (O := X.next + 2) (N := X.next + 3) (F := X.next + 4) (S := X.next + 1) (op := 9) (n := 1) (fs := [d]) (.inl hB) (.inr ⟨by omega, hb 2 _ rfl⟩) (.inr ⟨by omega, hb 3 _ rfl⟩) (.inr ⟨by omega, hb 4 _ rfl⟩) (.inr ⟨by omega, hb 1 _ rfl⟩) ⟨by omega, by omega⟩ (by simp) (fun vs => by unfold partP; rw [if_neg (by omega), if_neg (by omega), if_neg (by omega), if_neg (by omega), if_neg (by omega), if_neg (by omega), if_neg (by omega), if_neg (by omega), if_pos (by omega)]; rfl)
set_option maxHeartbeats 1000000 in
theorem rule11_ec (ks : KS K0 q0 X lo b p q r ins outs vs D) {B V N I S : Nat} {v : Val} {i d src : Int} (hB : D B (.cells [ptr b] 1 true)) (hV : D V (.cells (vcells v) 6 true)) (hN : D N (.cells [int' v.len] 1 true)) (hI : D I (.cells [int' i] 1 true)) (hS : D S (.cells [int' src] 1 true)) (hn : 0 ≤ v.len ∧ v.len ≤ 1000) (hs : 0 ≤ src ∧ src ≤ 1000) (hop : v.op = 11) :
    EC Try.prog 60 [int' d, ptr B, ptr V, ptr N, ptr I, ptr S] X (RuleR lo b p r ins outs X D v i d src) := by
  have k1 := ks.ext (Ext.push X (.cells [int' d] 1 true))
  have hE : (X.push (.cells [int' d] 1 true)).cell? X.next 0 = some (int' d) := cell0 (push_blk _ _)
  have hop2 : (vcells v)[0]? = some (.int .i64 v.op) := rfl
  refine EC_fn ctx (fun t => t != 6) Try.func60 rfl rfl rfl ?_
  refine ⟨_, k1.fld (o := 0) hV hop2, ?_⟩
  refine ⟨fun h => by simp [hop] at h, fun _ => ?_⟩
  refine ⟨fun h => by simp [hop] at h, fun _ => ?_⟩
  refine ⟨fun h => by simp [hop] at h, fun _ => ?_⟩
  refine ⟨fun h => by simp [hop] at h, fun _ => ?_⟩
  refine ⟨fun h => by simp [hop] at h, fun _ => ?_⟩
  refine ⟨fun h => by simp [hop] at h, fun _ => ?_⟩
  refine ⟨fun h => by simp [hop] at h, fun _ => ?_⟩
  refine ⟨fun h => by simp [hop] at h, fun _ => ?_⟩
  refine ⟨fun h => by simp [hop] at h, fun _ => ?_⟩
  refine ⟨fun _ => ?_, fun h => by simp [hop] at h⟩
  refine ⟨_, k1.cell hS, _, hE, _, k1.fld (o := 4) (u := .int .i64 v.c) hV rfl, ?_⟩
  refine ⟨_, bone2_ec _ B _ _ _ ⟨_, _, rfl⟩, ?_, fun v K hR => by cases hR.1⟩
  rintro _ Y ⟨hxx, rfl⟩
  cases hxx
  obtain ⟨_, hx, hb⟩ := pushAll X [.cells [int' d] 1 true, .cells (flat dInt [d, 0, v.c]) 1 true, .cells [int' 12] 1 true, .cells [int' src] 1 true, .cells [sv (some ⟨X.next + 1, 0, none⟩) [d, 0, v.c]] 1 true]
  refine ⟨_, _, _, rfl, hx, .inr (.inl ⟨_, _, rfl, rfl, rfl⟩), fun k hk => ?_⟩
  have ho : opnd v.op = 1 := by rw [hop]; rfl
  rw [ho] at hk
  have hk : k = 0 := by have : (1 : Int).toNat = 1 := rfl; omega
  subst hk
  refine ⟨fun h => by omega, fun h => ⟨_, _, _, rfl, rfl, ?_⟩⟩
  exact PartOK.one (B := B) (O := X.next + 2) (N := X.next + 3) (F := X.next + 4) (S := X.next + 1) (op := 12) (n := src) (fs := [d, 0, v.c]) (.inl hB) (.inr ⟨by omega, hb 2 _ rfl⟩) (.inr ⟨by omega, hb 3 _ rfl⟩) (.inr ⟨by omega, hb 4 _ rfl⟩) (.inr ⟨by omega, hb 1 _ rfl⟩) hs (by simp) (fun vs => by unfold partP; rw [if_neg (by omega), if_neg (by omega), if_neg (by omega), if_neg (by omega), if_neg (by omega), if_neg (by omega), if_neg (by omega), if_neg (by omega), if_neg (by omega), if_pos (by omega)]; rfl)
set_option maxHeartbeats 1000000 in
theorem rule12_ec (ks : KS K0 q0 X lo b p q r ins outs vs D) {B V N I S : Nat} {v : Val} {i d src : Int} (hB : D B (.cells [ptr b] 1 true)) (hV : D V (.cells (vcells v) 6 true)) (hN : D N (.cells [int' v.len] 1 true)) (hI : D I (.cells [int' i] 1 true)) (hS : D S (.cells [int' src] 1 true)) (hn : 0 ≤ v.len ∧ v.len ≤ 1000) (hs : 0 ≤ src ∧ src ≤ 1000) (hop : v.op = 12) :
    EC Try.prog 60 [int' d, ptr B, ptr V, ptr N, ptr I, ptr S] X (RuleR lo b p r ins outs X D v i d src) := by
  have k1 := ks.ext (Ext.push X (.cells [int' d] 1 true))
  have hE : (X.push (.cells [int' d] 1 true)).cell? X.next 0 = some (int' d) := cell0 (push_blk _ _)
  have hop2 : (vcells v)[0]? = some (.int .i64 v.op) := rfl
  refine EC_fn ctx (fun t => t != 6) Try.func60 rfl rfl rfl ?_
  refine ⟨_, k1.fld (o := 0) hV hop2, ?_⟩
  refine ⟨fun h => by simp [hop] at h, fun _ => ?_⟩
  refine ⟨fun h => by simp [hop] at h, fun _ => ?_⟩
  refine ⟨fun h => by simp [hop] at h, fun _ => ?_⟩
  refine ⟨fun h => by simp [hop] at h, fun _ => ?_⟩
  refine ⟨fun h => by simp [hop] at h, fun _ => ?_⟩
  refine ⟨fun h => by simp [hop] at h, fun _ => ?_⟩
  refine ⟨fun h => by simp [hop] at h, fun _ => ?_⟩
  refine ⟨fun h => by simp [hop] at h, fun _ => ?_⟩
  refine ⟨fun h => by simp [hop] at h, fun _ => ?_⟩
  refine ⟨fun h => by simp [hop] at h, fun _ => ?_⟩
  refine ⟨fun _ => ?_, fun h => by simp [hop] at h⟩
  refine ⟨_, hE, _, k1.fld (o := 4) (u := .int .i64 v.c) hV rfl, ?_⟩
  refine ⟨_, bone2_ec _ B _ _ _ ⟨_, _, rfl⟩, ?_, fun v K hR => by cases hR.1⟩
  rintro _ Y ⟨hxx, rfl⟩
  cases hxx
  obtain ⟨_, hx, hb⟩ := pushAll X [.cells [int' d] 1 true, .cells (flat dInt [d, 0, v.c]) 1 true, .cells [int' 11] 1 true, .cells [int' 1] 1 true, .cells [sv (some ⟨X.next + 1, 0, none⟩) [d, 0, v.c]] 1 true]
  refine ⟨_, _, _, rfl, hx, .inr (.inl ⟨_, _, rfl, rfl, rfl⟩), fun k hk => ?_⟩
  have ho : opnd v.op = 1 := by rw [hop]; rfl
  rw [ho] at hk
  have hk : k = 0 := by have : (1 : Int).toNat = 1 := rfl; omega
  subst hk
  refine ⟨fun h => by omega, fun h => ⟨_, _, _, rfl, rfl, ?_⟩⟩
  exact PartOK.one (B := B) (O := X.next + 2) (N := X.next + 3) (F := X.next + 4) (S := X.next + 1) (op := 11) (n := 1) (fs := [d, 0, v.c]) (.inl hB) (.inr ⟨by omega, hb 2 _ rfl⟩) (.inr ⟨by omega, hb 3 _ rfl⟩) (.inr ⟨by omega, hb 4 _ rfl⟩) (.inr ⟨by omega, hb 1 _ rfl⟩) ⟨by omega, by omega⟩ (by simp) (fun vs => by unfold partP; rw [if_neg (by omega), if_neg (by omega), if_neg (by omega), if_neg (by omega), if_neg (by omega), if_neg (by omega), if_neg (by omega), if_neg (by omega), if_neg (by omega), if_neg (by omega), if_pos (by omega)]; rfl)
set_option maxHeartbeats 1000000 in
theorem rule13_ec (ks : KS K0 q0 X lo b p q r ins outs vs D) {B V N I S : Nat} {v : Val} {i d src : Int} (hB : D B (.cells [ptr b] 1 true)) (hV : D V (.cells (vcells v) 6 true)) (hN : D N (.cells [int' v.len] 1 true)) (hI : D I (.cells [int' i] 1 true)) (hS : D S (.cells [int' src] 1 true)) (hn : 0 ≤ v.len ∧ v.len ≤ 1000) (hs : 0 ≤ src ∧ src ≤ 1000) (hop : v.op = 13) :
    EC Try.prog 60 [int' d, ptr B, ptr V, ptr N, ptr I, ptr S] X (RuleR lo b p r ins outs X D v i d src) := by
  have k1 := ks.ext (Ext.push X (.cells [int' d] 1 true))
  have hE : (X.push (.cells [int' d] 1 true)).cell? X.next 0 = some (int' d) := cell0 (push_blk _ _)
  have hop2 : (vcells v)[0]? = some (.int .i64 v.op) := rfl
  refine EC_fn ctx (fun t => t != 6) Try.func60 rfl rfl rfl ?_
  refine ⟨_, k1.fld (o := 0) hV hop2, ?_⟩
  refine ⟨fun h => by simp [hop] at h, fun _ => ?_⟩
  refine ⟨fun h => by simp [hop] at h, fun _ => ?_⟩
  refine ⟨fun h => by simp [hop] at h, fun _ => ?_⟩
  refine ⟨fun h => by simp [hop] at h, fun _ => ?_⟩
  refine ⟨fun h => by simp [hop] at h, fun _ => ?_⟩
  refine ⟨fun h => by simp [hop] at h, fun _ => ?_⟩
  refine ⟨fun h => by simp [hop] at h, fun _ => ?_⟩
  refine ⟨fun h => by simp [hop] at h, fun _ => ?_⟩
  refine ⟨fun h => by simp [hop] at h, fun _ => ?_⟩
  refine ⟨fun h => by simp [hop] at h, fun _ => ?_⟩
  refine ⟨fun h => by simp [hop] at h, fun _ => ?_⟩
  refine ⟨fun _ => ?_, fun h => by simp [hop] at h⟩
  refine ⟨_, k1.cell hN, _, hE, _, k1.cell hI, ?_⟩
  refine ⟨_, bone2_ec _ B _ _ _ ⟨_, _, rfl⟩, ?_, fun v K hR => by cases hR.1⟩
  rintro _ Y ⟨hxx, rfl⟩
  cases hxx
  obtain ⟨_, hx, hb⟩ := pushAll X [.cells [int' d] 1 true, .cells (flat dInt [d, i]) 1 true, .cells [int' 4] 1 true, .cells [int' v.len] 1 true, .cells [sv (some ⟨X.next + 1, 0, none⟩) [d, i]] 1 true]
  refine ⟨_, _, _, rfl, hx, .inr (.inl ⟨_, _, rfl, rfl, rfl⟩), fun k hk => ?_⟩
  have ho : opnd v.op = 1 := by rw [hop]; rfl
  rw [ho] at hk
  have hk : k = 0 := by have : (1 : Int).toNat = 1 := rfl; omega
  subst hk
  refine ⟨fun h => by omega, fun h => ⟨_, _, _, rfl, rfl, ?_⟩⟩
  exact PartOK.one (B := B) (O := X.next + 2) (N := X.next + 3) (F := X.next + 4) (S := X.next + 1) (op := 4) (n := v.len) (fs := [d, i]) (.inl hB) (.inr ⟨by omega, hb 2 _ rfl⟩) (.inr ⟨by omega, hb 3 _ rfl⟩) (.inr ⟨by omega, hb 4 _ rfl⟩) (.inr ⟨by omega, hb 1 _ rfl⟩) hn (by simp) (fun vs => by unfold partP; rw [if_neg (by omega), if_neg (by omega), if_neg (by omega), if_neg (by omega), if_neg (by omega), if_neg (by omega), if_neg (by omega), if_neg (by omega), if_neg (by omega), if_neg (by omega), if_neg (by omega)]; rfl)
set_option maxHeartbeats 1000000 in
theorem rule5_ec (ks : KS K0 q0 X lo b p q r ins outs vs D) {B V N I S : Nat} {v : Val} {i d src : Int} (hB : D B (.cells [ptr b] 1 true)) (hV : D V (.cells (vcells v) 6 true)) (hN : D N (.cells [int' v.len] 1 true)) (hI : D I (.cells [int' i] 1 true)) (hS : D S (.cells [int' src] 1 true)) (hn : 0 ≤ v.len ∧ v.len ≤ 1000) (hs : 0 ≤ src ∧ src ≤ 1000) (hop : v.op = 5) :
    EC Try.prog 60 [int' d, ptr B, ptr V, ptr N, ptr I, ptr S] X (RuleR lo b p r ins outs X D v i d src) := by
  have k1 := ks.ext (Ext.push X (.cells [int' d] 1 true))
  have hE : (X.push (.cells [int' d] 1 true)).cell? X.next 0 = some (int' d) := cell0 (push_blk _ _)
  have hop2 : (vcells v)[0]? = some (.int .i64 v.op) := rfl
  refine EC_fn ctx (fun t => t != 6) Try.func60 rfl rfl rfl ?_
  refine ⟨_, k1.fld (o := 0) hV hop2, ?_⟩
  refine ⟨fun h => by simp [hop] at h, fun _ => ?_⟩
  refine ⟨fun h => by simp [hop] at h, fun _ => ?_⟩
  refine ⟨fun h => by simp [hop] at h, fun _ => ?_⟩
  refine ⟨fun _ => ?_, fun h => by simp [hop] at h⟩
  refine ⟨_, k1.cell hN, _, hE, _, k1.fld (o := 3) (u := .int .i64 v.b) hV rfl, ?_⟩
  refine ⟨_, bone2_ec _ B _ _ _ ⟨_, _, rfl⟩, ?_, fun v K hR => by cases hR.1⟩
  rintro _ Y ⟨hxx, rfl⟩
  cases hxx
  obtain ⟨_, hx, hb⟩ := pushAll X [.cells [int' d] 1 true, .cells (flat dInt [d, v.b]) 1 true, .cells [int' 5] 1 true, .cells [int' v.len] 1 true, .cells [sv (some ⟨X.next + 1, 0, none⟩) [d, v.b]] 1 true]
  refine ⟨_, _, _, rfl, hx, .inl ⟨_, _, _, _, rfl, rfl, rfl⟩, fun k hk => ?_⟩
  have ho : opnd v.op = 2 := by rw [hop]; rfl
  rw [ho] at hk
  have hk : k = 0 ∨ k = 1 := by have : (2 : Int).toNat = 2 := rfl; omega
  rcases hk with rfl | rfl
  · refine ⟨fun h => by omega, fun h => ⟨_, _, _, rfl, rfl, ?_⟩⟩
    exact PartOK.one (B := B) (O := X.next + 2) (N := X.next + 3) (F := X.next + 4) (S := X.next + 1) (op := 5) (n := v.len) (fs := [d, v.b]) (.inl hB) (.inr ⟨by omega, hb 2 _ rfl⟩) (.inr ⟨by omega, hb 3 _ rfl⟩) (.inr ⟨by omega, hb 4 _ rfl⟩) (.inr ⟨by omega, hb 1 _ rfl⟩) hn (by simp) (fun vs => by unfold partP; rw [if_neg (by omega), if_neg (by omega), if_neg (by omega), if_pos (by omega)]; rfl)
  · refine ⟨fun h => by omega, fun h => ⟨_, _, _, rfl, rfl, ?_⟩⟩
    exact ⟨_, _, rfl, fun K0 X0 q0 q vs D1 hD ks => by
        dsimp only
        rw [show partP vs v i ((1 : Nat) : Int) d src = (vs ++ [fv 4 v.len [d, i]] ++ [fv 5 v.len [(vs.length : Int), v.b]] ++ [fv 6 v.len [((vs ++ [fv 4 v.len [d, i]]).length : Int)]], ((vs ++ [fv 4 v.len [d, i]] ++ [fv 5 v.len [(vs.length : Int), v.b]]).length : Int)) by
          rw [show ((vs ++ [fv 4 v.len [d, i]]).length : Int) = (vs.length : Int) + 1 by simp, show ((vs ++ [fv 4 v.len [d, i]] ++ [fv 5 v.len [(vs.length : Int), v.b]]).length : Int) = (vs.length : Int) + 2 by simp <;> omega]
          unfold partP; rw [if_neg (by omega), if_neg (by omega), if_neg (by omega), if_neg (by omega), if_pos (by omega)]; rfl]
        exact bdiv_ec ks (B := B) (N := N) (E := X.next + 0) (I := I) (V := V) (hD _ _ (.inl hB)) (hD _ _ (.inl hN)) (hD _ _ (.inr ⟨by omega, hb 0 _ rfl⟩)) (hD _ _ (.inl hI)) (hD _ _ (.inl hV)) hn⟩
set_option maxHeartbeats 1000000 in
theorem rule7_ec (ks : KS K0 q0 X lo b p q r ins outs vs D) {B V N I S : Nat} {v : Val} {i d src : Int} (hB : D B (.cells [ptr b] 1 true)) (hV : D V (.cells (vcells v) 6 true)) (hN : D N (.cells [int' v.len] 1 true)) (hI : D I (.cells [int' i] 1 true)) (hS : D S (.cells [int' src] 1 true)) (hn : 0 ≤ v.len ∧ v.len ≤ 1000) (hs : 0 ≤ src ∧ src ≤ 1000) (hop : v.op = 7) :
    EC Try.prog 60 [int' d, ptr B, ptr V, ptr N, ptr I, ptr S] X (RuleR lo b p r ins outs X D v i d src) := by
  have k1 := ks.ext (Ext.push X (.cells [int' d] 1 true))
  have hE : (X.push (.cells [int' d] 1 true)).cell? X.next 0 = some (int' d) := cell0 (push_blk _ _)
  have hop2 : (vcells v)[0]? = some (.int .i64 v.op) := rfl
  refine EC_fn ctx (fun t => t != 6) Try.func60 rfl rfl rfl ?_
  refine ⟨_, k1.fld (o := 0) hV hop2, ?_⟩
  refine ⟨fun h => by simp [hop] at h, fun _ => ?_⟩
  refine ⟨fun h => by simp [hop] at h, fun _ => ?_⟩
  refine ⟨fun h => by simp [hop] at h, fun _ => ?_⟩
  refine ⟨fun h => by simp [hop] at h, fun _ => ?_⟩
  refine ⟨fun h => by simp [hop] at h, fun _ => ?_⟩
  refine ⟨fun _ => ?_, fun h => by simp [hop] at h⟩
  obtain ⟨_, hx, hb⟩ := pushAll X [.cells [int' d] 1 true]
  refine ⟨_, _, _, rfl, hx, .inl ⟨_, _, _, _, rfl, rfl, rfl⟩, fun k hk => ?_⟩
  have ho : opnd v.op = 2 := by rw [hop]; rfl
  rw [ho] at hk
  have hk : k = 0 ∨ k = 1 := by have : (2 : Int).toNat = 2 := rfl; omega
  rcases hk with rfl | rfl
  · refine ⟨fun h => by omega, fun h => ⟨_, _, _, rfl, rfl, ?_⟩⟩
    exact ⟨_, _, rfl, fun K0 X0 q0 q vs D1 hD ks => by
        dsimp only
        rw [show partP vs v i ((0 : Nat) : Int) d src = ((vs ++ [fv 3 v.len [v.a, v.b]]) ++ [opV 1 v.len 0 0 0] ++ [fv 8 v.len [(vs.length : Int), d, ((vs ++ [fv 3 v.len [v.a, v.b]]).length : Int)]], (((vs ++ [fv 3 v.len [v.a, v.b]]) ++ [opV 1 v.len 0 0 0]).length : Int)) by
          rw [show ((vs ++ [fv 3 v.len [v.a, v.b]]).length : Int) = (vs.length : Int) + 1 by simp, show (((vs ++ [fv 3 v.len [v.a, v.b]]) ++ [opV 1 v.len 0 0 0]).length : Int) = (vs.length : Int) + 2 by simp <;> omega]
          unfold partP; rw [if_neg (by omega), if_neg (by omega), if_neg (by omega), if_neg (by omega), if_neg (by omega), if_pos (by omega), if_pos (by omega)]; rfl]
        exact bmax1_ec ks (B := B) (N := N) (V := V) (E := X.next + 0) (hD _ _ (.inl hB)) (hD _ _ (.inl hN)) (hD _ _ (.inr ⟨by omega, hb 0 _ rfl⟩)) (hD _ _ (.inl hV)) hn⟩
  · refine ⟨fun h => by omega, fun h => ⟨_, _, _, rfl, rfl, ?_⟩⟩
    exact ⟨_, _, rfl, fun K0 X0 q0 q vs D1 hD ks => by
        dsimp only
        rw [show partP vs v i ((1 : Nat) : Int) d src = ((vs ++ [fv 3 v.len [v.a, v.b]]) ++ [opV 1 v.len 0 0 0] ++ [fv 8 v.len [(vs.length : Int), ((vs ++ [fv 3 v.len [v.a, v.b]]).length : Int), d]], (((vs ++ [fv 3 v.len [v.a, v.b]]) ++ [opV 1 v.len 0 0 0]).length : Int)) by
          rw [show ((vs ++ [fv 3 v.len [v.a, v.b]]).length : Int) = (vs.length : Int) + 1 by simp, show (((vs ++ [fv 3 v.len [v.a, v.b]]) ++ [opV 1 v.len 0 0 0]).length : Int) = (vs.length : Int) + 2 by simp <;> omega]
          unfold partP; rw [if_neg (by omega), if_neg (by omega), if_neg (by omega), if_neg (by omega), if_neg (by omega), if_pos (by omega), if_neg (by omega)]; rfl]
        exact bmax2_ec ks (B := B) (N := N) (V := V) (E := X.next + 0) (hD _ _ (.inl hB)) (hD _ _ (.inl hN)) (hD _ _ (.inr ⟨by omega, hb 0 _ rfl⟩)) (hD _ _ (.inl hV)) hn⟩
set_option maxHeartbeats 1000000 in
theorem rule8_ec (ks : KS K0 q0 X lo b p q r ins outs vs D) {B V N I S : Nat} {v : Val} {i d src : Int} (hB : D B (.cells [ptr b] 1 true)) (hV : D V (.cells (vcells v) 6 true)) (hN : D N (.cells [int' v.len] 1 true)) (hI : D I (.cells [int' i] 1 true)) (hS : D S (.cells [int' src] 1 true)) (hn : 0 ≤ v.len ∧ v.len ≤ 1000) (hs : 0 ≤ src ∧ src ≤ 1000) (hop : v.op = 8) :
    EC Try.prog 60 [int' d, ptr B, ptr V, ptr N, ptr I, ptr S] X (RuleR lo b p r ins outs X D v i d src) := by
  have k1 := ks.ext (Ext.push X (.cells [int' d] 1 true))
  have hE : (X.push (.cells [int' d] 1 true)).cell? X.next 0 = some (int' d) := cell0 (push_blk _ _)
  have hop2 : (vcells v)[0]? = some (.int .i64 v.op) := rfl
  refine EC_fn ctx (fun t => t != 6) Try.func60 rfl rfl rfl ?_
  refine ⟨_, k1.fld (o := 0) hV hop2, ?_⟩
  refine ⟨fun h => by simp [hop] at h, fun _ => ?_⟩
  refine ⟨fun h => by simp [hop] at h, fun _ => ?_⟩
  refine ⟨fun h => by simp [hop] at h, fun _ => ?_⟩
  refine ⟨fun h => by simp [hop] at h, fun _ => ?_⟩
  refine ⟨fun h => by simp [hop] at h, fun _ => ?_⟩
  refine ⟨fun h => by simp [hop] at h, fun _ => ?_⟩
  refine ⟨fun _ => ?_, fun h => by simp [hop] at h⟩
  obtain ⟨_, hx, hb⟩ := pushAll X [.cells [int' d] 1 true]
  refine ⟨_, _, _, rfl, hx, .inr (.inr ⟨_, _, _, _, rfl, rfl, rfl⟩), fun k hk => ?_⟩
  have ho : opnd v.op = 3 := by rw [hop]; rfl
  rw [ho] at hk
  have hk : k = 0 ∨ k = 1 ∨ k = 2 := by have : (3 : Int).toNat = 3 := rfl; omega
  rcases hk with rfl | rfl | rfl
  · refine ⟨fun h => rfl, fun h => absurd ⟨hop, rfl⟩ h⟩
  · refine ⟨fun h => by omega, fun h => ⟨_, _, _, rfl, rfl, ?_⟩⟩
    exact ⟨_, _, rfl, fun K0 X0 q0 q vs D1 hD ks => by
        dsimp only
        rw [show partP vs v i ((1 : Nat) : Int) d src = (vs ++ [opV 1 v.len 0 0 0] ++ [fv 8 v.len [v.a, d, (vs.length : Int)]], ((vs ++ [opV 1 v.len 0 0 0]).length : Int)) by
          rw [show ((vs ++ [opV 1 v.len 0 0 0]).length : Int) = (vs.length : Int) + 1 by simp <;> omega]
          unfold partP; rw [if_neg (by omega), if_neg (by omega), if_neg (by omega), if_neg (by omega), if_neg (by omega), if_neg (by omega), if_pos (by omega), if_pos (by omega)]; rfl]
        exact bsel1_ec ks (B := B) (N := N) (V := V) (E := X.next + 0) (hD _ _ (.inl hB)) (hD _ _ (.inl hN)) (hD _ _ (.inr ⟨by omega, hb 0 _ rfl⟩)) (hD _ _ (.inl hV)) hn⟩
  · refine ⟨fun h => by omega, fun h => ⟨_, _, _, rfl, rfl, ?_⟩⟩
    exact ⟨_, _, rfl, fun K0 X0 q0 q vs D1 hD ks => by
        dsimp only
        rw [show partP vs v i ((2 : Nat) : Int) d src = (vs ++ [opV 1 v.len 0 0 0] ++ [fv 8 v.len [v.a, (vs.length : Int), d]], ((vs ++ [opV 1 v.len 0 0 0]).length : Int)) by
          rw [show ((vs ++ [opV 1 v.len 0 0 0]).length : Int) = (vs.length : Int) + 1 by simp <;> omega]
          unfold partP; rw [if_neg (by omega), if_neg (by omega), if_neg (by omega), if_neg (by omega), if_neg (by omega), if_neg (by omega), if_pos (by omega), if_neg (by omega)]; rfl]
        exact bsel2_ec ks (B := B) (N := N) (V := V) (E := X.next + 0) (hD _ _ (.inl hB)) (hD _ _ (.inl hN)) (hD _ _ (.inr ⟨by omega, hb 0 _ rfl⟩)) (hD _ _ (.inl hV)) hn⟩
set_option maxHeartbeats 1000000 in
theorem rule4_ec (ks : KS K0 q0 X lo b p q r ins outs vs D) {B V N I S : Nat} {v : Val} {i d src : Int} (hB : D B (.cells [ptr b] 1 true)) (hV : D V (.cells (vcells v) 6 true)) (hN : D N (.cells [int' v.len] 1 true)) (hI : D I (.cells [int' i] 1 true)) (hS : D S (.cells [int' src] 1 true)) (hn : 0 ≤ v.len ∧ v.len ≤ 1000) (hs : 0 ≤ src ∧ src ≤ 1000) (hop : v.op = 4) :
    EC Try.prog 60 [int' d, ptr B, ptr V, ptr N, ptr I, ptr S] X (RuleR lo b p r ins outs X D v i d src) := by
  have k1 := ks.ext (Ext.push X (.cells [int' d] 1 true))
  have hE : (X.push (.cells [int' d] 1 true)).cell? X.next 0 = some (int' d) := cell0 (push_blk _ _)
  have hop2 : (vcells v)[0]? = some (.int .i64 v.op) := rfl
  refine EC_fn ctx (fun t => t != 6) Try.func60 rfl rfl rfl ?_
  refine ⟨_, k1.fld (o := 0) hV hop2, ?_⟩
  refine ⟨fun h => by simp [hop] at h, fun _ => ?_⟩
  refine ⟨fun h => by simp [hop] at h, fun _ => ?_⟩
  refine ⟨fun _ => ?_, fun h => by simp [hop] at h⟩
  refine ⟨.split 5 12 (.leaf [([0, 1, 2, 3, 4, 7, 8, 9, 10, 11], some 12), ([], some 5), ([], some 6), ([], some 13), ([14], some 15), ([], none)] [0, 1, 2, 3, 4, 7, 8, 9, 10, 11]) (.split 6 12 (.leaf [([0, 1, 2, 3, 4, 7, 8, 9, 10, 11], some 5), ([], some 12), ([], some 6), ([], some 13), ([14], some 15), ([], none)] [0, 1, 7, 8, 9, 10, 11]) (.leaf [([0, 1, 2, 3, 4, 7, 8, 9, 10, 11], some 5), ([], some 6), ([], some 12), ([], some 13), ([14], some 15), ([], none)] [0, 1, 7, 8, 9, 10, 11])), by kernel_rfl, ?_, ?_, ?_⟩
  · refine ⟨_, k1.cell hN, _, hE, _, k1.fld (o := 3) (u := .int .i64 v.b) hV rfl, _, k1.cell hN, _, hE, _, k1.fld (o := 2) (u := .int .i64 v.a) hV rfl, ?_⟩
    refine ⟨Ext.push _ _, ?_⟩
    refine ⟨Ext.push _ _, ?_⟩
    refine ⟨_, bone2_ec _ B _ _ _ ⟨_, _, rfl⟩, ?_, fun v K hR => by cases hR.1⟩
    rintro _ Y ⟨hxx, rfl⟩
    cases hxx
    refine ⟨((Ext.push _ _).push' _).push' _, ?_⟩
    refine ⟨_, bone2_ec _ B _ _ _ ⟨_, _, rfl⟩, ?_, fun v K hR => by cases hR.1⟩
    rintro _ Y ⟨hxx, rfl⟩
    cases hxx
    refine ⟨((Ext.push _ _).push' _).push' _, ?_⟩
    obtain ⟨_, hx, hb⟩ := pushAll X [.cells [int' d] 1 true, .cells (flat dInt [d, v.a]) 1 true, .cells (flat dInt [d, v.b]) 1 true, .cells [int' 4] 1 true, .cells [int' v.len] 1 true, .cells [sv (some ⟨X.next + 2, 0, none⟩) [d, v.b]] 1 true, .cells [int' 4] 1 true, .cells [int' v.len] 1 true, .cells [sv (some ⟨X.next + 1, 0, none⟩) [d, v.a]] 1 true]
    refine ⟨Ext.refl _, _, _, _, rfl, hx, .inl ⟨_, _, _, _, rfl, rfl, rfl⟩, fun k hk => ?_⟩
    have ho : opnd v.op = 2 := by rw [hop]; rfl
    rw [ho] at hk
    have hk : k = 0 ∨ k = 1 := by have : (2 : Int).toNat = 2 := rfl; omega
    rcases hk with rfl | rfl
    · refine ⟨fun h => by omega, fun h => ⟨_, _, _, rfl, rfl, ?_⟩⟩
      exact PartOK.one (B := B) (O := X.next + 3) (N := X.next + 4) (F := X.next + 5) (S := X.next + 2) (op := 4) (n := v.len) (fs := [d, v.b]) (.inl hB) (.inr ⟨by omega, hb 3 _ rfl⟩) (.inr ⟨by omega, hb 4 _ rfl⟩) (.inr ⟨by omega, hb 5 _ rfl⟩) (.inr ⟨by omega, hb 2 _ rfl⟩) hn (by simp) (fun vs => by unfold partP; rw [if_neg (by omega), if_neg (by omega), if_pos (by omega)]; rfl)
    · refine ⟨fun h => by omega, fun h => ⟨_, _, _, rfl, rfl, ?_⟩⟩
      exact PartOK.one (B := B) (O := X.next + 6) (N := X.next + 7) (F := X.next + 8) (S := X.next + 1) (op := 4) (n := v.len) (fs := [d, v.a]) (.inl hB) (.inr ⟨by omega, hb 6 _ rfl⟩) (.inr ⟨by omega, hb 7 _ rfl⟩) (.inr ⟨by omega, hb 8 _ rfl⟩) (.inr ⟨by omega, hb 1 _ rfl⟩) hn (by simp) (fun vs => by unfold partP; rw [if_neg (by omega), if_neg (by omega), if_pos (by omega)]; rfl)
  · refine ⟨_, k1.cell hN, _, hE, _, k1.fld (o := 3) (u := .int .i64 v.b) hV rfl, _, k1.cell hN, _, hE, _, k1.fld (o := 2) (u := .int .i64 v.a) hV rfl, ?_⟩
    refine ⟨Ext.push _ _, ?_⟩
    refine ⟨Ext.push _ _, ?_⟩
    refine ⟨_, bone2_ec _ B _ _ _ ⟨_, _, rfl⟩, ?_, fun v K hR => by cases hR.1⟩
    rintro _ Y ⟨hxx, rfl⟩
    cases hxx
    refine ⟨((Ext.push _ _).push' _).push' _, ?_⟩
    refine ⟨_, bone2_ec _ B _ _ _ ⟨_, _, rfl⟩, ?_, fun v K hR => by cases hR.1⟩
    rintro _ Y ⟨hxx, rfl⟩
    cases hxx
    refine ⟨((Ext.push _ _).push' _).push' _, ?_⟩
    obtain ⟨_, hx, hb⟩ := pushAll X [.cells [int' d] 1 true, .cells (flat dInt [d, v.b]) 1 true, .cells (flat dInt [d, v.a]) 1 true, .cells [int' 4] 1 true, .cells [int' v.len] 1 true, .cells [sv (some ⟨X.next + 1, 0, none⟩) [d, v.b]] 1 true, .cells [int' 4] 1 true, .cells [int' v.len] 1 true, .cells [sv (some ⟨X.next + 2, 0, none⟩) [d, v.a]] 1 true]
    refine ⟨Ext.refl _, _, _, _, rfl, hx, .inl ⟨_, _, _, _, rfl, rfl, rfl⟩, fun k hk => ?_⟩
    have ho : opnd v.op = 2 := by rw [hop]; rfl
    rw [ho] at hk
    have hk : k = 0 ∨ k = 1 := by have : (2 : Int).toNat = 2 := rfl; omega
    rcases hk with rfl | rfl
    · refine ⟨fun h => by omega, fun h => ⟨_, _, _, rfl, rfl, ?_⟩⟩
      exact PartOK.one (B := B) (O := X.next + 3) (N := X.next + 4) (F := X.next + 5) (S := X.next + 1) (op := 4) (n := v.len) (fs := [d, v.b]) (.inl hB) (.inr ⟨by omega, hb 3 _ rfl⟩) (.inr ⟨by omega, hb 4 _ rfl⟩) (.inr ⟨by omega, hb 5 _ rfl⟩) (.inr ⟨by omega, hb 1 _ rfl⟩) hn (by simp) (fun vs => by unfold partP; rw [if_neg (by omega), if_neg (by omega), if_pos (by omega)]; rfl)
    · refine ⟨fun h => by omega, fun h => ⟨_, _, _, rfl, rfl, ?_⟩⟩
      exact PartOK.one (B := B) (O := X.next + 6) (N := X.next + 7) (F := X.next + 8) (S := X.next + 2) (op := 4) (n := v.len) (fs := [d, v.a]) (.inl hB) (.inr ⟨by omega, hb 6 _ rfl⟩) (.inr ⟨by omega, hb 7 _ rfl⟩) (.inr ⟨by omega, hb 8 _ rfl⟩) (.inr ⟨by omega, hb 2 _ rfl⟩) hn (by simp) (fun vs => by unfold partP; rw [if_neg (by omega), if_neg (by omega), if_pos (by omega)]; rfl)
  · refine ⟨_, k1.cell hN, _, hE, _, k1.fld (o := 3) (u := .int .i64 v.b) hV rfl, _, k1.cell hN, _, hE, _, k1.fld (o := 2) (u := .int .i64 v.a) hV rfl, ?_⟩
    refine ⟨Ext.push _ _, ?_⟩
    refine ⟨_, bone2_ec _ B _ _ _ ⟨_, _, rfl⟩, ?_, fun v K hR => by cases hR.1⟩
    rintro _ Y ⟨hxx, rfl⟩
    cases hxx
    refine ⟨((Ext.push _ _).push' _).push' _, ?_⟩
    refine ⟨Ext.push _ _, ?_⟩
    refine ⟨_, bone2_ec _ B _ _ _ ⟨_, _, rfl⟩, ?_, fun v K hR => by cases hR.1⟩
    rintro _ Y ⟨hxx, rfl⟩
    cases hxx
    refine ⟨((Ext.push _ _).push' _).push' _, ?_⟩
    obtain ⟨_, hx, hb⟩ := pushAll X [.cells [int' d] 1 true, .cells (flat dInt [d, v.b]) 1 true, .cells [int' 4] 1 true, .cells [int' v.len] 1 true, .cells [sv (some ⟨X.next + 1, 0, none⟩) [d, v.b]] 1 true, .cells (flat dInt [d, v.a]) 1 true, .cells [int' 4] 1 true, .cells [int' v.len] 1 true, .cells [sv (some ⟨X.next + 5, 0, none⟩) [d, v.a]] 1 true]
    refine ⟨Ext.refl _, _, _, _, rfl, hx, .inl ⟨_, _, _, _, rfl, rfl, rfl⟩, fun k hk => ?_⟩
    have ho : opnd v.op = 2 := by rw [hop]; rfl
    rw [ho] at hk
    have hk : k = 0 ∨ k = 1 := by have : (2 : Int).toNat = 2 := rfl; omega
    rcases hk with rfl | rfl
    · refine ⟨fun h => by omega, fun h => ⟨_, _, _, rfl, rfl, ?_⟩⟩
      exact PartOK.one (B := B) (O := X.next + 2) (N := X.next + 3) (F := X.next + 4) (S := X.next + 1) (op := 4) (n := v.len) (fs := [d, v.b]) (.inl hB) (.inr ⟨by omega, hb 2 _ rfl⟩) (.inr ⟨by omega, hb 3 _ rfl⟩) (.inr ⟨by omega, hb 4 _ rfl⟩) (.inr ⟨by omega, hb 1 _ rfl⟩) hn (by simp) (fun vs => by unfold partP; rw [if_neg (by omega), if_neg (by omega), if_pos (by omega)]; rfl)
    · refine ⟨fun h => by omega, fun h => ⟨_, _, _, rfl, rfl, ?_⟩⟩
      exact PartOK.one (B := B) (O := X.next + 6) (N := X.next + 7) (F := X.next + 8) (S := X.next + 5) (op := 4) (n := v.len) (fs := [d, v.a]) (.inl hB) (.inr ⟨by omega, hb 6 _ rfl⟩) (.inr ⟨by omega, hb 7 _ rfl⟩) (.inr ⟨by omega, hb 8 _ rfl⟩) (.inr ⟨by omega, hb 5 _ rfl⟩) hn (by simp) (fun vs => by unfold partP; rw [if_neg (by omega), if_neg (by omega), if_pos (by omega)]; rfl)
theorem rule_ec (ks : KS K0 q0 X lo b p q r ins outs vs D) {B V N I S : Nat} {v : Val} {i d src : Int} (hB : D B (.cells [ptr b] 1 true)) (hV : D V (.cells (vcells v) 6 true)) (hN : D N (.cells [int' v.len] 1 true)) (hI : D I (.cells [int' i] 1 true)) (hS : D S (.cells [int' src] 1 true)) (hn : 0 ≤ v.len ∧ v.len ≤ 1000) (hs : 0 ≤ src ∧ src ≤ 1000) (hop : 2 ≤ v.op ∧ v.op ≤ 13) :
    EC Try.prog 60 [int' d, ptr B, ptr V, ptr N, ptr I, ptr S] X (RuleR lo b p r ins outs X D v i d src) := by
  have h : v.op = 2 ∨ v.op = 3 ∨ v.op = 4 ∨ v.op = 5 ∨ v.op = 6 ∨ v.op = 7 ∨ v.op = 8 ∨ v.op = 9 ∨ v.op = 10 ∨ v.op = 11 ∨ v.op = 12 ∨ v.op = 13 := by omega
  rcases h with h | h | h | h | h | h | h | h | h | h | h | h
  · exact rule2_ec ks hB hV hN hI hS hn hs h
  · exact rule3_ec ks hB hV hN hI hS hn hs h
  · exact rule4_ec ks hB hV hN hI hS hn hs h
  · exact rule5_ec ks hB hV hN hI hS hn hs h
  · exact rule6_ec ks hB hV hN hI hS hn hs h
  · exact rule7_ec ks hB hV hN hI hS hn hs h
  · exact rule8_ec ks hB hV hN hI hS hn hs h
  · exact rule9_ec ks hB hV hN hI hS hn hs h
  · exact rule10_ec ks hB hV hN hI hS hn hs h
  · exact rule11_ec ks hB hV hN hI hS hn hs h
  · exact rule12_ec ks hB hV hN hI hS hn hs h
  · exact rule13_ec ks hB hV hN hI hS hn hs h
end
end Go.Proofs.Ytaaelokodfildaa
