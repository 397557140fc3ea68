/- Eval: the reference's values. Conditions: a valid graph; inputs that fit it. -/
import Derived.Test.YtjhldpghbnjjmaaEvs
set_option linter.unusedVariables false
set_option linter.unusedSimpArgs false
namespace Go.Proofs.Ytjhldpghbnjjmaa
open Go.Am

abbrev gcells (p q r : Option Addr) (g : Graph) : List Value := [sv p g.ins, sv q g.vals, sv r g.outs]
theorem _root_.Go.Am.Buf.wide {α : Type} {d : Enc α} {H : Heap} {base base' : Nat} {a : Option Addr} {xs : List α} (h : Buf d H base a xs) (hb : base' ≤ base) : Buf d H base' a xs := by
  cases h with
  | nil => exact .nil
  | blk h1 h2 => exact .blk (Nat.le_trans hb h1) h2
/-- The values so far: a slice of the walk's own, whose elements live without it. -/
structure Vals (H K : Heap) (o : Option Addr) (es : List SlE) : Prop where
  buf : Buf dSl K H.next o es
  inn : ∀ e ∈ es, Rd dFlt (K.killO o) e.1 e.2
  ext : Ext H (K.killO o)
theorem Vals.ss {H K : Heap} {o : Option Addr} {es : List SlE} (h : Vals H K o es) : RdSS K o es := ⟨h.buf.rd, fun e he => (h.inn e he).mono (unkillO K o)⟩
theorem Vals.extK {H K : Heap} {o : Option Addr} {es : List SlE} (h : Vals H K o es) : Ext H K := h.ext.trans (unkillO K o)
theorem Vals.nil (H : Heap) : Vals H H none [] := ⟨.nil, by simp, Ext.refl _⟩
/-- One more: made in K2, behind K. -/
theorem Vals.app {H K K2 : Heap} {o o2 : Option Addr} {es : List SlE} {xs : List Nat} {news : List Value} (h : Vals H K o es) (e : Ext K K2) (hb : Buf dFlt K2 K.next o2 xs) (c : Blk) (hn : news = [.slice o2 xs.length xs.length]) :
    Vals H (((K2.push c).killO o).push (.cells (flat dSl es ++ news) 1 true)) (some ⟨K2.next + 1, 0, none⟩) (es ++ [(o2, xs)]) := by
  have e3 : Ext K (K2.push c) := e.trans (Ext.push _ _)
  have hk := killO_app e3 o (.cells (flat dSl es ++ news) 1 true)
  refine ⟨(h.buf.mono e3).app (ys := [(o2, xs)]) hn (Nat.le_trans h.extK.next e3.next), fun f hf => ?_, h.ext.trans hk⟩
  rcases List.mem_append.1 hf with hf | hf
  · exact (h.inn f hf).mono hk
  · simp at hf; subst hf
    exact (Buf.killed h.buf (hb.mono (Ext.push K2 c)) (Nat.le_refl _)).mono (killO_app (Ext.refl _) o _)

theorem snds_get {es : List SlE} {xss : List (List Nat)} (h : snds es = xss) {i : Nat} (hi : i < es.length) : (xss[i]?).getD [] = es[i].2 := by
  subst h
  simp [hi]
set_option maxHeartbeats 1000000 in
theorem l1values_ec (H : Heap) (p q r a : Option Addr) (g : Graph) (fs : List SlE) (hg : RdG H p q r g) (hin : RdSS H a fs) (hv : Vld g) (hfl : fs.length = g.ins.length) (hx : ∀ e ∈ fs, e.2.length ≤ 1048576) :
    EC Try.prog 91 [gV p q r g, sv a fs] H fun R K => ∃ o es, R = .ret (sv o es) ∧ snds es = evP g (snds fs) g.vals.length ∧ Vals H K o es := by
  have hvl := hv.vals
  have hxs : ∀ xs ∈ snds fs, xs.length ≤ 1048576 := fun xs h => by
    obtain ⟨e, he, rfl⟩ := List.mem_map.1 h
    exact hx e he
  refine EC_fn ctx (fun _ => true) Try.func91 rfl rfl rfl ?_
  refine loop_ind ctx (fun _ => true) (fun m E K => ∃ (k : Nat) (o : Option Addr) (es : List SlE), k ≤ g.vals.length ∧ m = g.vals.length - k ∧ E = ⟨[(1, sv a fs), (2, .pointer (some ⟨0, 0, some 0⟩)), (5, sv o es), (6, .int .i64 k)], [gcells p q r g]⟩ ∧ snds es = evP g (snds fs) k ∧ Vals H K o es)
    ⟨0, none, [], Nat.zero_le _, rfl, rfl, rfl, Vals.nil H⟩ (by (refine ⟨?_, ?_⟩ <;> repeat' first | exact trivial | exact congrArg (fun x => some (Value.int .i64 x)) (wrap_nat (by omega)) | exact sv_eq (by simp; done) | exact rfl | refine ⟨?_, ?_⟩ | fail)) ?_
  rintro m E K ⟨k, o, es, hk, rfl, rfl, hsn, hV⟩
  have hel : es.length = k := by have := congrArg List.length hsn; simpa using this
  refine ⟨fun hlt => ?_, fun hge => ?_⟩
  · have hlt : k < g.vals.length := by simpa using hlt
    have hxv := List.getElem?_eq_getElem hlt
    have hmem := List.getElem_mem hlt
    have hev := evP_succ (xss := snds fs) hxv
    have hle := evP_le hv hxs k (by omega)
    have hlen := hv.len _ hmem
    have hinp := hv.inp _ hmem
    have harg := hv.arg k _ hxv
    obtain ⟨b, f, rfl, hcs⟩ := (hg.vals.mono hV.extK).val hxv
    generalize g.vals[k] = v at hxv hev hlen hinp harg hcs
    refine ⟨⟨by omega, by omega⟩, valV v, hcs, fun h0 => ?_, fun h0 => ?_⟩
    · have h0 : v.op = 0 := by simpa using h0
      obtain ⟨a0, a1⟩ := hinp h0
      have haf : v.a.toNat < fs.length := by omega
      obtain ⟨b2, f2, rfl, hc2⟩ := (hin.out.mono hV.extK).cell (List.getElem?_eq_getElem haf)
      have hr2 := (hin.inn _ (List.getElem_mem haf)).mono hV.extK
      refine ⟨⟨by omega, by omega⟩, _, hc2, _, l1copy_ec K _ _ hr2 (hx _ (List.getElem_mem haf)), ?_, fun v K hR => by obtain ⟨_, h, _⟩ := hR; cases h⟩
      rintro _ K2 ⟨o2, hx', e2, hb2⟩
      cases hx'
      have hown := ((hV.buf.mono e2).mono (Ext.push K2 (.cells [.slice o2 fs[v.a.toNat].2.length fs[v.a.toNat].2.length] 1 true))).own
      refine ⟨_, run_push _ _ _ _ (by simp), by dsimp only; omega, by dsimp only; omega, _, hown, ?_⟩
      refine ⟨g.vals.length - (k + 1), ⟨[(1, sv (some ⟨b2, f2, none⟩) fs), (2, .pointer (some ⟨0, 0, some 0⟩)), (5, .slice (some ⟨K2.next + 1, 0, none⟩) (es.length + 1) (es.length + 1)), (6, .int .i64 ((k + 1 : Nat) : Int))], [gcells p (some ⟨b, f, none⟩) r g]⟩, by omega, by (refine ⟨?_, ?_⟩ <;> repeat' first | exact trivial | exact congrArg (fun x => some (Value.int .i64 x)) (wrap_nat (by omega)) | exact sv_eq (by simp; done) | exact rfl | refine ⟨?_, ?_⟩ | fail), k + 1, some ⟨K2.next + 1, 0, none⟩, es ++ [(o2, fs[v.a.toNat].2)], by omega, rfl, ?_, ?_, hV.app e2 hb2 _ rfl⟩
      · rw [← sv_snoc _ es [((o2, fs[v.a.toNat].2) : SlE)] rfl]; rfl
      · rw [hev]
        simp only [snds, List.map_append, List.map_cons, List.map_nil] at hsn ⊢
        rw [hsn]
        unfold evOne
        rw [if_pos h0]
        simp [haf]
    · have h0 : ¬ v.op = 0 := by simpa using h0
      have harg := harg h0
      have ho3 := opnd3 v.op
      refine loop_ind ctx (fun _ => true) (fun m E K' => ∃ (j : Nat) (o8 : Option Addr) (as8 : List SlE), j ≤ 3 ∧ m = 3 - j ∧ E = ⟨[(1, sv a fs), (2, .pointer (some ⟨0, 0, some 0⟩)), (5, sv o es), (6, .int .i64 k), (7, .pointer (some ⟨1, 0, some 0⟩)), (8, .slice o8 j j), (9, .int .i64 j)], [gcells p (some ⟨b, f, none⟩) r g, vcells v]⟩ ∧ as8.length = j ∧ snds as8 = (List.range j).map (argO v (evP g (snds fs) k)) ∧ Buf dSl K' K.next o8 as8 ∧ Ext K K' ∧ ∀ e ∈ as8, Rd dFlt K e.1 e.2)
        ⟨0, none, [], Nat.zero_le _, rfl, rfl, rfl, rfl, .nil, Ext.refl _, by simp⟩ (by (refine ⟨?_, ?_⟩ <;> repeat' first | exact trivial | exact congrArg (fun x => some (Value.int .i64 x)) (wrap_nat (by omega)) | exact sv_eq (by simp; done) | exact rfl | refine ⟨?_, ?_⟩ | fail)) ?_
      rintro m E K' ⟨j, o8, as8, hj, rfl, rfl, hal, hsa, hb8, he8, hr8⟩
      refine ⟨fun hlj => ?_, fun hgj => ?_⟩
      · have hlj : j < 3 := by simp at hlj; omega
        have hown0 := fun c => (hb8.mono (Ext.push K' c)).own
        rw [hal] at hown0
        refine ⟨_, l1operands_pc K' _, ?_, fun v K hR => by cases hR.1⟩
        rintro _ K' ⟨hx', rfl⟩
        cases hx'
        refine ⟨fun hjo => ?_, fun hjo => ?_⟩
        · have hjo : (j : Int) < opnd v.op := by simpa using hjo
          obtain ⟨q0, q1⟩ := harg j hjo
          have hfe : (fieldV v j).toNat < es.length := by omega
          refine ⟨_, l1field_pc K' v j, ?_, fun v K hR => by cases hR.1⟩
          rintro _ K' ⟨hx', rfl⟩
          cases hx'
          obtain ⟨b3, f3, rfl, hc3⟩ := (hV.buf.rd.mono he8).cell (List.getElem?_eq_getElem hfe)
          refine ⟨⟨by omega, by omega⟩, _, hc3, _, run_push _ _ _ _ (by simp), by dsimp only; omega, by dsimp only; omega, _, hown0 _, ?_⟩
          refine ⟨3 - (j + 1), ⟨[(1, sv a fs), (2, .pointer (some ⟨0, 0, some 0⟩)), (5, sv (some ⟨b3, f3, none⟩) es), (6, .int .i64 k), (7, .pointer (some ⟨1, 0, some 0⟩)), (8, .slice (some ⟨K'.next + 1, 0, none⟩) (j + 1) (j + 1)), (9, .int .i64 ((j + 1 : Nat) : Int))], [gcells p (some ⟨b, f, none⟩) r g, vcells v]⟩, by omega, by (refine ⟨?_, ?_⟩ <;> repeat' first | exact trivial | exact congrArg (fun x => some (Value.int .i64 x)) (wrap_nat (by omega)) | exact sv_eq (by simp; done) | exact rfl | refine ⟨?_, ?_⟩ | fail), j + 1, some ⟨K'.next + 1, 0, none⟩, as8 ++ [es[(fieldV v j).toNat]], by omega, rfl, rfl, by simp [hal], ?_, (hb8.mono (Ext.push _ _)).app rfl (Nat.le_trans he8.next (Nat.le_succ _)), ((hb8.mono (Ext.push _ _)).killO (he8.push' _) (Nat.le_refl _)).push' _, fun e he => ?_⟩
          · rw [List.range_succ, List.map_append, ← hsa]
            simp only [snds, List.map_append, List.map_cons, List.map_nil]
            congr 2
            unfold argO
            rw [if_pos hjo, snds_get hsn hfe]
          · rcases List.mem_append.1 he with he | he
            · exact hr8 e he
            · simp at he; subst he
              exact hV.ss.inn _ (List.getElem_mem hfe)
        · have hjo : ¬ (j : Int) < opnd v.op := by simpa using hjo
          refine ⟨_, run_push _ _ _ _ (by simp), by dsimp only; omega, by dsimp only; omega, _, hown0 _, ?_⟩
          refine ⟨3 - (j + 1), ⟨[(1, sv a fs), (2, .pointer (some ⟨0, 0, some 0⟩)), (5, sv o es), (6, .int .i64 k), (7, .pointer (some ⟨1, 0, some 0⟩)), (8, .slice (some ⟨K'.next + 1, 0, none⟩) (j + 1) (j + 1)), (9, .int .i64 ((j + 1 : Nat) : Int))], [gcells p (some ⟨b, f, none⟩) r g, vcells v]⟩, by omega, by (refine ⟨?_, ?_⟩ <;> repeat' first | exact trivial | exact congrArg (fun x => some (Value.int .i64 x)) (wrap_nat (by omega)) | exact sv_eq (by simp; done) | exact rfl | refine ⟨?_, ?_⟩ | fail), j + 1, some ⟨K'.next + 1, 0, none⟩, as8 ++ [(none, [])], by omega, rfl, rfl, by simp [hal], ?_, (hb8.mono (Ext.push _ _)).app rfl (Nat.le_trans he8.next (Nat.le_succ _)), ((hb8.mono (Ext.push _ _)).killO (he8.push' _) (Nat.le_refl _)).push' _, fun e he => ?_⟩
          · rw [List.range_succ, List.map_append, ← hsa]
            simp only [snds, List.map_append, List.map_cons, List.map_nil]
            congr 2
            unfold argO
            rw [if_neg hjo]
          · rcases List.mem_append.1 he with he | he
            · exact hr8 e he
            · simp at he; subst he
              exact Rd.nil
      have hj3 : j = 3 := by simp at hgj; omega
      subst hj3
      match as8, hal, hsa, hb8, hr8 with
      | [e0, e1, e2_], _, hsa, hb8, hr8 =>
        have q0 : e0.2 = argO v (evP g (snds fs) k) 0 := by have := congrArg (fun l : List (List Nat) => l[0]?) hsa; simpa using this
        have q1 : e1.2 = argO v (evP g (snds fs) k) 1 := by have := congrArg (fun l : List (List Nat) => l[1]?) hsa; simpa using this
        have q2 : e2_.2 = argO v (evP g (snds fs) k) 2 := by have := congrArg (fun l : List (List Nat) => l[2]?) hsa; simpa using this
        have hal : ∀ i, (argO v (evP g (snds fs) k) i).length ≤ 1048576 := fun i => by
          unfold argO
          split
          · cases hq : (evP g (snds fs) k)[(fieldV v i).toNat]? with
            | none => simp
            | some x => exact hle x (List.mem_of_getElem? hq)
          · simp
        obtain ⟨b8, f8, rfl, c0⟩ := hb8.rd.cell (show [e0, e1, e2_][0]? = some e0 from rfl)
        obtain ⟨b8', f8', hq, c1⟩ := hb8.rd.cell (show [e0, e1, e2_][1]? = some e1 from rfl)
        cases hq
        obtain ⟨b8', f8', hq, c2⟩ := hb8.rd.cell (show [e0, e1, e2_][2]? = some e2_ from rfl)
        cases hq
        have hker := specKernel_ec K' e0.1 e1.1 e2_.1 v e0.2 e1.2 e2_.2 ((hr8 e0 (by simp)).mono he8) ((hr8 e1 (by simp)).mono he8) ((hr8 e2_ (by simp)).mono he8) (by rw [q0]; exact hal 0) (by rw [q1]; exact hal 1) (by rw [q2]; exact hal 2)
        refine ⟨.leaf [([0, 1, 2, 3, 4, 5, 6, 7, 8, 9, 10], some 11), ([], some 12), ([], some 13), ([14], none)] [0], by kernel_rfl, ⟨by omega, by omega⟩, _, c0, ⟨by omega, by omega⟩, _, c1, ⟨by omega, by omega⟩, _, c2, _, hker, ?_, fun v K hR => by obtain ⟨_, h, _⟩ := hR; cases h⟩
        rintro _ K2 ⟨o2, hx', e2, hb2⟩
        cases hx'
        have e3 : Ext K K2 := he8.trans e2
        have hown := ((hV.buf.mono e3).mono (Ext.push K2 (.cells [.slice o2 (kern v e0.2 e1.2 e2_.2).length (kern v e0.2 e1.2 e2_.2).length] 1 true))).own
        refine ⟨_, run_push _ _ _ _ (by simp), by dsimp only; omega, by dsimp only; omega, _, hown, ?_⟩
        refine ⟨g.vals.length - (k + 1), ⟨[(1, sv a fs), (2, .pointer (some ⟨0, 0, some 0⟩)), (5, .slice (some ⟨K2.next + 1, 0, none⟩) (es.length + 1) (es.length + 1)), (6, .int .i64 ((k + 1 : Nat) : Int))], [gcells p (some ⟨b, f, none⟩) r g]⟩, by omega, by (refine ⟨?_, ?_⟩ <;> repeat' first | exact trivial | exact congrArg (fun x => some (Value.int .i64 x)) (wrap_nat (by omega)) | exact sv_eq (by simp; done) | exact rfl | refine ⟨?_, ?_⟩ | fail), k + 1, some ⟨K2.next + 1, 0, none⟩, es ++ [(o2, kern v e0.2 e1.2 e2_.2)], by omega, rfl, ?_, ?_, hV.app e3 (hb2.wide he8.next) _ rfl⟩
        · rw [← sv_snoc _ es [((o2, kern v e0.2 e1.2 e2_.2) : SlE)] rfl]; rfl
        · rw [hev]
          simp only [snds, List.map_append, List.map_cons, List.map_nil] at hsn ⊢
          rw [hsn]
          unfold evOne
          rw [if_neg h0, q0, q1, q2]
  · have hk2 : k = g.vals.length := by simp at hge; omega
    subst hk2
    exact ⟨o, es, rfl, hsn, hV⟩
end Go.Proofs.Ytjhldpghbnjjmaa
