/- impl.within: a call under a recover. Condition: what is thrown is noRoom. -/
import Derived.Test.YtaaelokodfildaaAmUse
import Derived.Tactics
import Derived.Tactics2
import Derived.Defers
import Derived.Recover
import Derived.Laws.Pointers
set_option linter.unusedVariables false
set_option linter.unusedSimpArgs false
namespace Go.Proofs.Ytaaelokodfildaa
open Go.Am Go

theorem within1_pan (p q : Addr) (x : Value) (y : Value) (w : World) (hc : (w.alloc (.cells #[] 74)).cell? p = some x) (hz : (w.alloc (.cells #[] 74)).frozen? p = false) (hc' : ((w.alloc (.cells #[] 74)).setCell p (.int .i64 0)).cell? q = some y) (hz' : ((w.alloc (.cells #[] 74)).setCell p (.int .i64 0)).frozen? q = false) :
    CallsD Try.prog 46 #[.pointer (some p), .pointer (some q)] (.panicking [{ v := .iface 74 (.agg #[]), recovered := false }]) w fun e u' w' =>
      e = .returned (.tuple #[]) ∧ u' = .panicking [{ v := .iface 74 (.agg #[]), recovered := true }] ∧ w' = ((w.alloc (.cells #[] 74)).setCell p (.int .i64 0)).setCell q (.bool false) := by
  have hta : ∀ w : World, Sem.run Try.prog (Instr.typeAssert (.iface 74 (.agg #[])) 20 74 true) w = .ok (.tuple #[.agg #[], .bool true]) w := fun _ => by rfl
  refine callsD_of_wpS Try.func46 rfl fun c₀ cs hu => ?_
  apply wpS_seq
  apply wpS_region
  simp [wpOpsS, go_sem, recoverD, hu, Try.ntmps46, Exit.thenS]
  apply wpS_seq
  apply wpS_region
  simp [wpOpsS, go_sem, Exit.thenS]
  refine wpS_cond (t := true) (by simp [Act.eval]) ?_
  simp only [if_true]
  apply wpS_seq
  apply wpS_seq
  apply wpS_region
  simp [wpOpsS, go_sem, Exit.thenS, hta]
  apply wpS_seq
  apply wpS_region
  simp [wpOpsS, go_sem, Exit.thenS]
  refine wpS_cond (t := false) (by simp [Act.eval]) ?_
  simp only [Bool.false_eq_true, if_false]
  refine wpS_of_wp (wp_skip ?_)
  simp only [Exit.thenS]
  apply wpS_region
  simp [wpOpsS, go_sem, hc, hz, hc', hz', bodyPostS, results, Try.results46]
theorem within1_idle (p q : Addr) (w : World) :
    CallsD Try.prog 46 #[.pointer (some p), .pointer (some q)] .returning w fun e u' w' =>
      e = .returned (.tuple #[]) ∧ u' = .returning ∧ w' = w := by
  refine callsD_of_wpS Try.func46 rfl fun c₀ cs hu => ?_
  apply wpS_seq
  apply wpS_region
  simp [wpOpsS, go_sem, recoverD, hu, Try.ntmps46, Exit.thenS]
  apply wpS_seq
  apply wpS_region
  simp [wpOpsS, go_sem, Exit.thenS]
  refine wpS_cond (t := false) (by simp [Act.eval]) ?_
  simp only [Bool.false_eq_true, if_false]
  refine wpS_of_wp (wp_skip ?_)
  cases c₀
  simp_all [bodyPostS, results, Try.results46]
theorem setCell_ne (w : World) (a : Addr) (v : Value) {x : Nat} (h : x ≠ a.block) : (w.setCell a v).heap[x]? = w.heap[x]? := by
  unfold World.setCell
  simp only
  rw [Array.getElem?_modify, if_neg (fun e => h e.symm)]
theorem setCell_at {w : World} {b o : Nat} {v : Value} {C : Array Value} {T : TypeId} {fz : Nat × Nat} (h : w.heap[b]? = some (.cells C T fz)) : (w.setCell ⟨b, o, none⟩ v).heap[b]? = some (.cells (C.setIfInBounds o v) T fz) := by
  unfold World.setCell
  simp only
  rw [Array.getElem?_modify, if_pos rfl, h]
  rfl
theorem setCell_size (w : World) (a : Addr) (v : Value) : (w.setCell a v).heap.size = w.heap.size := by unfold World.setCell; simp
theorem cell_at {w : World} {b : Nat} {v : Value} {T : TypeId} (h : w.heap[b]? = some (.cells #[v] T (0, 0))) : w.cell? ⟨b, 0, none⟩ = some v ∧ w.frozen? ⟨b, 0, none⟩ = false := by
  unfold World.cell? World.frozen?
  rw [h]; exact ⟨rfl, rfl⟩
theorem alloc_old {w : World} {b : Nat} {o o' : Obj} (h : w.heap[b]? = some o) : (w.alloc o').heap[b]? = some o := by
  have hlt := (Array.getElem?_eq_some_iff.1 h).1
  unfold World.alloc
  simp only
  rw [Array.getElem?_push_lt hlt]
  rw [Array.getElem?_eq_getElem hlt] at h
  exact h
theorem _root_.Go.Am.HRel.mv {ρ : Rho} {own own' : Nat → Owner} {H : Heap} {w w' : World} (h : HRel ρ own H w) (he : ∀ B, B < w.heap.size → own B ≠ .none → w'.heap[B]? = w.heap[B]? ∧ own' B = own B) : HRel ρ own' H w' where
  lt := h.lt
  cells := fun b L cs esz rw_ h1 h2 => by
    obtain ⟨e1, D, T, fz, e2, e3, e4, e5, e6, e7⟩ := h.cells b L cs esz rw_ h1 h2
    have hlt := lt_of_some e2
    have hne : own L.B ≠ .none := by
      cases rw_ with
      | true => rw [(e6 rfl).2]; simp
      | false => rw [e7 rfl]; simp
    obtain ⟨q1, q2⟩ := he L.B hlt hne
    exact ⟨e1, D, T, fz, by rw [q1]; exact e2, e3, e4, e5, fun r => by rw [q2]; exact e6 r, fun r => by rw [q2]; exact e7 r⟩
  maps := fun b L kk es h1 h2 => by
    have q := h.maps b L kk es h1 h2
    obtain ⟨q1, q2⟩ := he L.B q.lt (by rw [q.1]; simp)
    exact q.mono (Rho.le_refl _) q2 q1
theorem within_fin {ρ ρ' : Rho} {own own' : Nat → Owner} {H' : Heap} {w w3 w5 : World} {B4 B5 : Nat} (hnp : NoPriv own) (g : Guar ρ own w ρ' own' w3) (hr : HRel ρ' own' H' w3) (hB : ∀ x, x < w3.heap.size → x ≠ B4 → x ≠ B5 → w5.heap[x]? = w3.heap[x]?) (hp4 : own' B4 = .priv 0) (hp5 : own' B5 = .priv 1)
    (h4 : w.heap.size ≤ B4) (h5 : w.heap.size ≤ B5) (hs : w3.heap.size ≤ w5.heap.size) (hx : Ext3 w3 w5) : HRel ρ' (eraseP own') H' w5 ∧ NoPriv (eraseP own') ∧ Guar ρ own w ρ' (eraseP own') w5 := by
  refine ⟨hr.erase.mv fun B hlt hne => ⟨hB B hlt (fun e => hne ?_) (fun e => hne ?_), rfl⟩, eraseP_noPriv _, ⟨g.le, g.ext.trans hx, Nat.le_trans g.size hs, fun B hlt hn => ?_⟩⟩
  · unfold eraseP; rw [e, hp4]
  · unfold eraseP; rw [e, hp5]
  · obtain ⟨q1, q2⟩ := g.keep B hlt hn
    refine ⟨(hB B (Nat.lt_of_lt_of_le hlt g.size) (by omega) (by omega)).trans q1, ?_⟩
    unfold eraseP
    rw [q2]
    split
    · rename_i k hk; exact absurd hk (hnp B k)
    · rfl
theorem wpOps_step {P : Program} {ops : Array Oper} {Q : Exit → Act → World → Prop} {i : Nat} {rest : List Nat} {a : Act} {w : World} {o : Oper} (ho : ops[i]? = some o) (hg : o.guard = none) (h : o.wp P a w (wpOps P ops Q rest) Q) : wpOps P ops Q (i :: rest) a w := by
  simp only [wpOps, ho]
  rw [if_pos (by simp [Region.wanted, hg])]
  exact .inl h
theorem one_box {ρ : Rho} {v : Value} {C : Array Value} {h : VRels ρ [v] C.toList} : ∃ v', C = #[v'] ∧ VRel ρ v v' := by
  obtain ⟨l⟩ := C
  simp only at h
  cases h with
  | cons h1 h2 => cases h2; exact ⟨_, rfl, h1⟩
theorem within_ec (H : Heap) (bv : Value) (k : FuncId) (cap : Array Value) (R : AEnd → Heap → Prop) (hdo : EC Try.prog k cap.toList H R) (hn : ∀ v K, R (.ret v) K → ∃ n, v = .int .i64 n) (hp : ∀ v K, R (.pan v) K → v = .iface 74 (.agg #[])) :
    EC Try.prog 21 [bv, .func (.func k) #[] cap] H fun e K => (∃ n, R (.ret (.int .i64 n)) K ∧ e = .ret (.tuple #[.int .i64 n, .bool true])) ∨ (R (.pan (.iface 74 (.agg #[]))) K ∧ e = .ret (.tuple #[.int .i64 0, .bool false])) where
  run := fun ρ own w cargs hr hnp hargs => by
    have hrun : (callFunc 21 cargs.toArray).run Try.prog w = .ok (.enter 21 cargs.toArray) w := by
      have hf := Try.func21
      simp only [callFunc, Sem.run_bind, run_program, Result.andThen_ok, hf]
      rfl
    unfold CallRun
    rw [hrun]
    obtain _ | ⟨hb, _ | ⟨hf, hnil⟩⟩ := hargs
    cases hnil
    cases hf
    rename_i bv' cap' hcap
    refine calls_of_wp_defers Try.func21 rfl ?_
    have hmf : ∀ (fn : Fn) (first cap : Array Value) (w : World), (Instr.makeFunc fn first cap).run Try.prog w = .ok (.func fn first cap) w := fun _ _ _ _ => rfl
    have fin : ∀ (e : Ending) (w' : World) (r : AEnd) (H' : Heap) (ρ' : Rho) (own' : Nat → Owner), ((∃ n, R (.ret (.int .i64 n)) H' ∧ r = .ret (.tuple #[.int .i64 n, .bool true])) ∨ (R (.pan (.iface 74 (.agg #[]))) H' ∧ r = .ret (.tuple #[.int .i64 0, .bool false]))) → ERel ρ' r e → HRel ρ' own' H' w' → NoPriv own' → Guar ρ own w ρ' own' w' → ∃ r H' ρ' own', ((∃ n, R (.ret (.int .i64 n)) H' ∧ r = .ret (.tuple #[.int .i64 n, .bool true])) ∨ (R (.pan (.iface 74 (.agg #[]))) H' ∧ r = .ret (.tuple #[.int .i64 0, .bool false]))) ∧ ERel ρ' r e ∧ HRel ρ' own' H' w' ∧ NoPriv own' ∧ Guar ρ own w ρ' own' w' := fun e w' r H' ρ' own' a b c d f => ⟨r, H', ρ', own', a, b, c, d, f⟩
    generalize hRR : (fun (e : Ending) (w' : World) => ∃ r H' ρ' own', ((∃ n, R (.ret (.int .i64 n)) H' ∧ r = .ret (.tuple #[.int .i64 n, .bool true])) ∨ (R (.pan (.iface 74 (.agg #[]))) H' ∧ r = .ret (.tuple #[.int .i64 0, .bool false]))) ∧ ERel ρ' r e ∧ HRel ρ' own' H' w' ∧ NoPriv own' ∧ Guar ρ own w ρ' own' w') = RR
    have fin' : ∀ (e : Ending) (w' : World) (r : AEnd) (H' : Heap) (ρ' : Rho) (own' : Nat → Owner), ((∃ n, R (.ret (.int .i64 n)) H' ∧ r = .ret (.tuple #[.int .i64 n, .bool true])) ∨ (R (.pan (.iface 74 (.agg #[]))) H' ∧ r = .ret (.tuple #[.int .i64 0, .bool false]))) → ERel ρ' r e → HRel ρ' own' H' w' → NoPriv own' → Guar ρ own w ρ' own' w' → RR e w' := fun e w' r H' ρ' own' a b c d f => by rw [← hRR]; exact fin e w' r H' ρ' own' a b c d f
    clear fin hRR
    apply wp_seq
    apply wp_region
    simp [wpOps, go_sem, Try.ntmps21, Exit.then]
    refine .inl (.inl ?_)
    apply wp_seq
    apply wp_region
    simp [wpOps, go_sem, Exit.then]
    refine .inl (.inl ?_)
    generalize hw2 : (w.alloc (.cells #[.int .i64 0] 3)).alloc (.cells #[.bool false] 4) = w2
    have hh2 : w2.heap = (w.heap.push (.cells #[.int .i64 0] 3 (0, 0))).push (.cells #[.bool false] 4 (0, 0)) := by rw [← hw2]; rfl
    have B0 : BW [] ρ own [] H w := ⟨hr, rfl, fun k cs h => by simp at h⟩
    have B1 := B0.pushBox (w' := w.alloc (.cells #[.int .i64 0] 3)) (cs := [.int .i64 0]) (D := #[.int .i64 0]) (T := 3) (.cons (.int _ _) .nil) rfl
    have B2 := B1.pushBox (w' := w2) (cs := [.bool false]) (D := #[.bool false]) (T := 4) (.cons (.bool _) .nil) (by rw [← hw2]; rfl)
    have g1 := (Guar.refl ρ own w).push (w' := w.alloc (.cells #[.int .i64 0] 3)) (Rho.le_refl _) (.priv 0) rfl rfl
    have g2 := g1.push (w' := w2) (Rho.le_refl _) (.priv 1) (by rw [← hw2]; rfl) (by rw [← hw2]; rfl)
    have hsz : (w.alloc (.cells #[.int .i64 0] 3)).heap.size = w.heap.size + 1 := Array.size_push _
    rw [hsz] at B2 g2
    have hown : ∀ (ρ' : Rho) (own' : Nat → Owner) (H' : Heap) (w3 : World), BW [w.heap.size, w.heap.size + 1] ρ' own' [[.int .i64 0], [.bool false]] H' w3 → ∃ T4 T5, own' w.heap.size = .priv 0 ∧ own' (w.heap.size + 1) = .priv 1 ∧ w3.heap[w.heap.size]? = some (.cells #[.int .i64 0] T4 (0, 0)) ∧ w3.heap[w.heap.size + 1]? = some (.cells #[.bool false] T5 (0, 0)) := fun ρ' own' H' w3 B3 => by
      obtain ⟨x4, C4, T4, a1, a2, a3, a4⟩ := B3.box 0 _ rfl
      obtain ⟨x5, C5, T5, b1, b2, b3, b4⟩ := B3.box 1 _ rfl
      cases a1; cases b1
      obtain ⟨v4, rfl, q4⟩ := one_box (h := a4)
      obtain ⟨v5, rfl, q5⟩ := one_box (h := b4)
      cases q4; cases q5
      exact ⟨T4, T5, a2, b2, a3, b3⟩
    apply wp_seq
    apply wp_region
    show wpOps _ _ _ [0, 1, 2, 3] _ _
    have B2 : BW [w.heap.size, w.heap.size + 1] ρ (updO (updO own w.heap.size (.priv 0)) (w.heap.size + 1) (.priv 1)) [[.int .i64 0], [.bool false]] H w2 := B2
    refine wpOps_step rfl rfl ?_
    simp [Oper.wp, go_sem]
    refine wpOps_step rfl rfl ?_
    refine call_sound B2 hnp g2 (cargs := cap'.toList) ?_ (hcap.mono (Rho.le_refl _)) hdo ?_ ?_
    · simp [go_sem]
    · rintro v H' ρ' own' v' w3 hR hv hle B3 g3
      obtain ⟨n, rfl⟩ := hn _ _ hR
      cases hv
      obtain ⟨T4, T5, p4, p5, b4, b5⟩ := hown _ _ _ _ B3
      obtain ⟨c4, z4⟩ := cell_at b4
      have b4' : (w3.setCell ⟨w.heap.size, 0, none⟩ (.int .i64 n)).heap[w.heap.size]? = some (.cells #[.int .i64 n] T4 (0, 0)) := setCell_at b4
      have b5' : (w3.setCell ⟨w.heap.size, 0, none⟩ (.int .i64 n)).heap[w.heap.size + 1]? = some (.cells #[.bool false] T5 (0, 0)) := by rw [setCell_ne _ _ _ (by simp)]; exact b5
      obtain ⟨c5, z5⟩ := cell_at b5'
      have b5'' : ((w3.setCell ⟨w.heap.size, 0, none⟩ (.int .i64 n)).setCell ⟨w.heap.size + 1, 0, none⟩ (.bool true)).heap[w.heap.size + 1]? = some (.cells #[.bool true] T5 (0, 0)) := setCell_at b5'
      have b4'' : ((w3.setCell ⟨w.heap.size, 0, none⟩ (.int .i64 n)).setCell ⟨w.heap.size + 1, 0, none⟩ (.bool true)).heap[w.heap.size]? = some (.cells #[.int .i64 n] T4 (0, 0)) := by rw [setCell_ne _ _ _ (by simp)]; exact b4'
      obtain ⟨c6, z6⟩ := cell_at b5''
      obtain ⟨c7, z7⟩ := cell_at b4''
      obtain ⟨f1, f2, f3⟩ := within_fin hnp g3 B3.hrel (w5 := (w3.setCell ⟨w.heap.size, 0, none⟩ (.int .i64 n)).setCell ⟨w.heap.size + 1, 0, none⟩ (.bool true)) (fun x _ h4 h5 => by rw [setCell_ne _ _ _ (by simpa using h5), setCell_ne _ _ _ (by simpa using h4)]) p4 p5 (Nat.le_refl _) (by omega) (by rw [setCell_size, setCell_size]; exact Nat.le_refl _) rfl
      refine wpOps_step rfl rfl ?_
      simp [Oper.wp, go_sem, c4, z4]
      refine wpOps_step rfl rfl ?_
      simp [Oper.wp, go_sem, c5, z5]
      simp only [wpOps, Exit.then]
      refine wp_ret ?_
      refine leaves_cons (f := 46) (args := #[.pointer (some ⟨w.heap.size, 0, none⟩), .pointer (some ⟨w.heap.size + 1, 0, none⟩)]) (by simp) (by simp [go_sem]) ?_
      refine (within1_idle _ _ _).mono ?_
      rintro e u' w'' ⟨rfl, rfl, rfl⟩
      simp [Leaves, settle, results, Try.results21, go_sem, c6, c7]
      exact fin' _ _ (.ret (.tuple #[.int .i64 n, .bool true])) H' ρ' _ (.inl ⟨n, hR, rfl⟩) (.tuple (.cons (.int _ _) (.cons (.bool _) .nil))) f1 f2 f3
    · rintro v H' ρ' own' v' w3 hR hv B3 g3
      obtain rfl := hp _ _ hR
      cases hv
      rename_i va hva
      cases hva
      rename_i cs' hcs
      obtain ⟨cs'⟩ := cs'
      cases hcs
      obtain ⟨T4, T5, p4, p5, b4, b5⟩ := hown _ _ _ _ B3
      generalize hwa : w3.alloc (.cells #[] 74) = wa
      have b4a : wa.heap[w.heap.size]? = some (.cells #[.int .i64 0] T4 (0, 0)) := by rw [← hwa]; exact alloc_old b4
      have b5a : wa.heap[w.heap.size + 1]? = some (.cells #[.bool false] T5 (0, 0)) := by rw [← hwa]; exact alloc_old b5
      obtain ⟨c4, z4⟩ := cell_at b4a
      have b4' : (wa.setCell ⟨w.heap.size, 0, none⟩ (.int .i64 0)).heap[w.heap.size]? = some (.cells #[.int .i64 0] T4 (0, 0)) := setCell_at b4a
      have b5' : (wa.setCell ⟨w.heap.size, 0, none⟩ (.int .i64 0)).heap[w.heap.size + 1]? = some (.cells #[.bool false] T5 (0, 0)) := by rw [setCell_ne _ _ _ (by simp)]; exact b5a
      obtain ⟨c5, z5⟩ := cell_at b5'
      have b5'' : ((wa.setCell ⟨w.heap.size, 0, none⟩ (.int .i64 0)).setCell ⟨w.heap.size + 1, 0, none⟩ (.bool false)).heap[w.heap.size + 1]? = some (.cells #[.bool false] T5 (0, 0)) := setCell_at b5'
      have b4'' : ((wa.setCell ⟨w.heap.size, 0, none⟩ (.int .i64 0)).setCell ⟨w.heap.size + 1, 0, none⟩ (.bool false)).heap[w.heap.size]? = some (.cells #[.int .i64 0] T4 (0, 0)) := by rw [setCell_ne _ _ _ (by simp)]; exact b4'
      obtain ⟨c6, z6⟩ := cell_at b5''
      obtain ⟨c7, z7⟩ := cell_at b4''
      have hwh : ∀ x, x < w3.heap.size → wa.heap[x]? = w3.heap[x]? := fun x hx => by
        rw [← hwa, Array.getElem?_eq_getElem hx]; exact alloc_old (Array.getElem?_eq_getElem hx)
      have hws : w3.heap.size ≤ wa.heap.size := by rw [← hwa]; show _ ≤ (Array.push _ _).size; rw [Array.size_push]; omega
      obtain ⟨f1, f2, f3⟩ := within_fin hnp g3 B3.hrel (w5 := (wa.setCell ⟨w.heap.size, 0, none⟩ (.int .i64 0)).setCell ⟨w.heap.size + 1, 0, none⟩ (.bool false)) (fun x hx h4 h5 => by rw [setCell_ne _ _ _ (by simpa using h5), setCell_ne _ _ _ (by simpa using h4), hwh x hx]) p4 p5 (Nat.le_refl _) (by omega) (by rw [setCell_size, setCell_size]; exact hws) (by rw [← hwa]; rfl)
      refine leaves_cons (f := 46) (args := #[.pointer (some ⟨w.heap.size, 0, none⟩), .pointer (some ⟨w.heap.size + 1, 0, none⟩)]) (by simp) (by simp [go_sem]) ?_
      refine (within1_pan ⟨w.heap.size, 0, none⟩ ⟨w.heap.size + 1, 0, none⟩ (.int .i64 0) (.bool false) w3 (by rw [hwa]; exact c4) (by rw [hwa]; exact z4) (by rw [hwa]; exact c5) (by rw [hwa]; exact z5)).mono ?_
      rintro e u' w'' ⟨rfl, rfl, rfl⟩
      rw [hwa]
      simp [Leaves, settle, results, Try.results21, go_sem, c6, c7]
      exact fin' _ _ (.ret (.tuple #[.int .i64 0, .bool false])) H' ρ' _ (.inr ⟨hR, rfl⟩) (.tuple (.cons (.int _ _) (.cons (.bool _) .nil))) f1 f2 f3
end Go.Proofs.Ytaaelokodfildaa
