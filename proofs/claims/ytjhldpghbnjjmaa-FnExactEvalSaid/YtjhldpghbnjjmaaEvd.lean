/- Eval, the program's side. Conditions: lists of at most 2^20 elements. -/
import Derived.Test.YtjhldpghbnjjmaaEvc
set_option linter.unusedVariables false
set_option linter.unusedSimpArgs false
namespace Go.Proofs.Ytjhldpghbnjjmaa
open Go.Am

/-- The values so far, in a slice that was made for all of them. -/
structure All (H K : Heap) (A n : Nat) (es : List SlE) : Prop where
  blk : K.blk A = some (.cells (flat dSl (es ++ List.replicate (n - es.length) (none, []))) 1 true)
  inn : ∀ e ∈ es, Rd dFlt (K.killO (some ⟨A, 0, none⟩)) e.1 e.2
  ext : Ext H (K.killO (some ⟨A, 0, none⟩))
theorem All.mono {H K K' : Heap} {A n : Nat} {es : List SlE} (h : All H K A n es) (e : Ext K K') : All H K' A n es := ⟨e.same _ _ h.blk, fun f hf => (h.inn f hf).mono (killO_mono e _), h.ext.trans (killO_mono e _)⟩
theorem All.extK {H K : Heap} {A n : Nat} {es : List SlE} (h : All H K A n es) : Ext H K := h.ext.trans (unkillO K _)
theorem All.len {H K : Heap} {A n : Nat} {es : List SlE} (h : All H K A n es) (hn : es.length ≤ n) : (es ++ List.replicate (n - es.length) ((none, []) : SlE)).length = n := by simp; omega
theorem All.cell {H K : Heap} {A n : Nat} {es : List SlE} (h : All H K A n es) {i : Nat} (hi : i < es.length) : K.cell? A (0 + i * 1) = some (.slice es[i].1 es[i].2.length es[i].2.length) := by
  have hr : Rd dSl K (some ⟨A, 0, none⟩) (es ++ List.replicate (n - es.length) (none, [])) := Rd.blk h.blk
  obtain ⟨b, o, hq, hc⟩ := hr.cell (show (es ++ List.replicate (n - es.length) ((none, []) : SlE))[i]? = some es[i] by rw [List.getElem?_append_left hi, List.getElem?_eq_getElem hi])
  cases hq
  exact hc
theorem kill_stor (K : Heap) (A o : Nat) (l : List Value) : Ext (K.killO (some ⟨A, 0, none⟩)) ((K.stor A o l).killO (some ⟨A, 0, none⟩)) := ⟨Nat.le_refl _, fun b c h => by
  have h : (if b = A then none else K.blk b) = some c := h
  show (if b = A then none else (if b = A then _ else K.blk b)) = some c
  split at h
  · cases h
  · rename_i hb; rw [if_neg hb, if_neg hb]; exact h⟩
/-- The next value is stored. -/
theorem All.set {H K : Heap} {A n : Nat} {es : List SlE} (h : All H K A n es) (hn : es.length < n) {o : Option Addr} {xs : List Nat} (hr : Rd dFlt (K.killO (some ⟨A, 0, none⟩)) o xs) :
    All H (K.stor A (0 + es.length * 1) [.slice o xs.length xs.length]) A n (es ++ [(o, xs)]) where
  blk := by
    rw [Heap.stor_put h.blk, put_blk _ _ _ _ (K.lt _ _ h.blk), if_pos rfl]
    have hl : (es ++ List.replicate (n - es.length) ((none, []) : SlE)).length = n := by simp; omega
    have := flat_over dSl (es ++ List.replicate (n - es.length) ((none, []) : SlE)) es.length (o, xs) (by omega)
    rw [Nat.zero_add]
    rw [snoc_set es (none, []) ((o, xs) : SlE) rfl hn] at this
    rw [List.length_append]
    exact congrArg (fun x => some (Blk.cells x 1 true)) this
  inn := fun f hf => by
    rcases List.mem_append.1 hf with hf | hf
    · exact (h.inn f hf).mono (kill_stor K A _ _)
    · simp at hf; subst hf
      exact hr.mono (kill_stor K A _ _)
  ext := h.ext.trans (kill_stor K A _ _)
theorem All.stOK {H K : Heap} {A n : Nat} {es : List SlE} (h : All H K A n es) (hn : es.length < n) : K.stOK A (0 + es.length * 1) 1 := ⟨_, _, h.blk, by rw [flat_len, h.len (by omega)]; show 0 + es.length * 1 + 1 ≤ n * 1; omega⟩
theorem All.new {H K K2 : Heap} {A n : Nat} {es : List SlE} (h : All H K A n es) (e : Ext K K2) {o : Option Addr} {xs : List Nat} (hb : Buf dFlt K2 K.next o xs) : Rd dFlt (K2.killO (some ⟨A, 0, none⟩)) o xs := by
  cases hb with
  | nil => exact Rd.nil
  | @blk b _ h1 h2 =>
    refine Rd.blk (rw_ := true) ?_
    have := K.lt _ _ h.blk
    show (if b = A then none else K2.blk b) = _
    rw [if_neg (by omega)]; exact h2
/-- An operand's slice, once it has been read. -/
def opE (v : Val) (es : List SlE) (j i : Nat) : SlE := if i < j then (es[(fieldV v i).toNat]?).getD (none, []) else (none, [])
abbrev opC (v : Val) (es : List SlE) (j i : Nat) : Value := .slice (opE v es j i).1 (opE v es j i).2.length (opE v es j i).2.length
theorem opE_argO {v : Val} {es : List SlE} {prev : List (List Nat)} (h : snds es = prev) (i : Nat) : (opE v es (opnd v.op).toNat i).2 = argO v prev i := by
  subst h
  have := opnd3 v.op
  unfold opE argO
  by_cases hi : i < (opnd v.op).toNat
  · rw [if_pos hi, if_pos (by omega)]
    cases hq : es[(fieldV v i).toNat]? with
    | none => simp [snds, hq]
    | some e => simp [snds, hq]
  · rw [if_neg hi, if_neg (by omega)]

theorem opE_at {v : Val} {es : List SlE} {j : Nat} (h : (fieldV v j).toNat < es.length) : opE v es (j + 1) j = es[(fieldV v j).toNat] := by
  unfold opE
  rw [if_pos (Nat.lt_succ_self j), List.getElem?_eq_getElem h]; rfl
theorem opE_old (v : Val) (es : List SlE) {j i : Nat} (h : i ≠ j) : opE v es (j + 1) i = opE v es j i := by
  unfold opE
  by_cases hi : i < j
  · rw [if_pos hi, if_pos (by omega)]
  · rw [if_neg hi, if_neg (by omega)]
theorem opC_at {v : Val} {es : List SlE} {j : Nat} (h : (fieldV v j).toNat < es.length) : opC v es (j + 1) j = .slice es[(fieldV v j).toNat].1 es[(fieldV v j).toNat].2.length es[(fieldV v j).toNat].2.length := by
  show Value.slice _ _ _ = _
  rw [opE_at h]
theorem opC_old (v : Val) (es : List SlE) {j i : Nat} (h : i ≠ j) : opC v es (j + 1) i = opC v es j i := by
  show Value.slice _ _ _ = Value.slice _ _ _
  rw [opE_old v es h]
set_option maxHeartbeats 2000000 in
theorem implEval_ec (H : Heap) (p q r a : Option Addr) (g : Graph) (fs : List SlE) (hg : RdG H p q r g) (hin : RdSS H a fs) (h1 : g.ins.length ≤ 1048576) (h2 : g.vals.length ≤ 1048576) (h3 : g.outs.length ≤ 1048576) (hl : fs.length ≤ 1048576) (hx : ∀ e ∈ fs, e.2.length ≤ 1048576) :
    EC Try.prog 32 [gV p q r g, sv a fs] H (ER H g (snds fs)) := by
  have hxs : ∀ xs ∈ snds fs, xs.length ≤ 1048576 := fun xs h => by
    obtain ⟨e, he, rfl⟩ := List.mem_map.1 h
    exact hx e he
  refine EC_fn ctx (fun _ => true) Try.func32 rfl rfl rfl ?_
  refine ⟨_, implValid_pc H p q r g hg h2 h1 h3, ?_, fun v K hR => by cases hR.1⟩
  rintro _ H ⟨hx', rfl⟩
  cases hx'
  refine ⟨fun h => ?_, fun h => ?_⟩
  · have hb : validB g = false := by simpa using h
    have : evR g (snds fs) = ([], 1) := by unfold evR; rw [hb]; rfl
    unfold ER
    rw [this]
    exact ⟨none, [], rfl, rfl, Ext.refl _, OwnSS.nil _ _⟩
  have hval : validB g = true := by simpa using h
  have hv := vld_of hval
  refine ⟨_, inputsFit_pc H p a g.ins fs hg.ins hin h1 hl, ?_, fun v K hR => by cases hR.1⟩
  rintro _ H ⟨hx', rfl⟩
  cases hx'
  refine ⟨fun h => ?_, fun h => ?_⟩
  · have hb : shapesB g.ins (snds fs) = false := by simpa using h
    have : evR g (snds fs) = ([], 4) := by unfold evR; rw [hval, hb]; rfl
    unfold ER
    rw [this]
    exact ⟨none, [], rfl, rfl, Ext.refl _, OwnSS.nil _ _⟩
  have hsh : shapesB g.ins (snds fs) = true := by simpa using h
  have hfl : fs.length = g.ins.length := by
    have := of_decide_eq_true hsh
    have := congrArg List.length this
    simpa using this
  have hR : evR g (snds fs) = (evalO g (snds fs), 0) := by unfold evR; rw [hval, hsh]; rfl
  have hvo := hv.outs
  have hvv := hv.vals
  refine ⟨⟨by omega, by dsimp only; omega⟩, ?_⟩
  refine loop_ind ctx (fun _ => true) (fun m E K => ∃ (k : Nat) (es : List SlE), k ≤ g.vals.length ∧ m = g.vals.length - k ∧ E = ⟨[(1, sv a fs), (2, .pointer (some ⟨0, 0, some 0⟩)), (6, .slice (some ⟨H.next, 0, none⟩) g.vals.length g.vals.length), (28, sv q g.vals), (29, .int .i64 g.vals.length), (30, .int .i64 k)], [gcells p q r g]⟩ ∧ es.length = k ∧ snds es = evP g (snds fs) k ∧ All H K H.next g.vals.length es)
    ⟨0, [], Nat.zero_le _, rfl, rfl, rfl, rfl, ?_, by simp, ?_⟩ (by (refine ⟨?_, ?_⟩ <;> repeat' first | exact trivial | exact congrArg (fun x => some (Value.int .i64 x)) (wrap_nat (by omega)) | exact sv_eq (by simp; done) | exact rfl | refine ⟨?_, ?_⟩ | fail)) ?_
  · rw [push_blk]
    show some (Blk.cells (repL g.vals.length [.slice none 0 0]) 1 true) = _
    rw [flat_rep dSl (none, []) [.slice none 0 0] rfl]
    rfl
  · refine ⟨Nat.le_succ _, fun b c hb => ?_⟩
    have := H.lt _ _ hb
    show (if b = H.next then none else (H.push _).blk b) = _
    rw [if_neg (by omega), push_blk_ne _ _ (by omega)]; exact hb
  rintro m E K ⟨k, es, hk, rfl, rfl, hel, hsn, hA⟩
  refine ⟨fun hlt => ?_, fun hge => ?_⟩
  · have hlt : k < g.vals.length := by simpa using hlt
    have hxv := List.getElem?_eq_getElem hlt
    have hmem := List.getElem_mem hlt
    have hev := evP_succ (xss := snds fs) hxv
    have hle := evP_le hv hxs k (by omega)
    have hlen := hv.len _ hmem
    have hinp := hv.inp _ hmem
    have harg := hv.arg k _ hxv
    obtain ⟨b, f, rfl, hcs⟩ := (hg.vals.mono hA.extK).val hxv
    generalize g.vals[k] = v at hxv hev hlen hinp harg hcs
    refine ⟨⟨by omega, by omega⟩, valV v, hcs, fun h0 => ?_, fun h0 => ?_⟩
    · have h0 : v.op = 0 := by simpa using h0
      obtain ⟨a0, a1⟩ := hinp h0
      have haf : v.a.toNat < fs.length := by omega
      obtain ⟨b2, f2, rfl, hc2⟩ := (hin.out.mono hA.extK).cell (List.getElem?_eq_getElem haf)
      have hr2 := (hin.inn _ (List.getElem_mem haf)).mono hA.ext
      have hs := hA.stOK (by omega)
      have hA2 := hA.set (by omega) hr2
      rw [hel] at hs hA2
      refine ⟨⟨by omega, by omega⟩, _, hc2, ⟨by omega, by omega⟩, hs, ?_⟩
      refine ⟨g.vals.length - (k + 1), ⟨[(1, sv (some ⟨b2, f2, none⟩) fs), (2, .pointer (some ⟨0, 0, some 0⟩)), (6, .slice (some ⟨H.next, 0, none⟩) g.vals.length g.vals.length), (28, sv (some ⟨b, f, none⟩) g.vals), (29, .int .i64 g.vals.length), (30, .int .i64 ((k + 1 : Nat) : Int))], [gcells p (some ⟨b, f, none⟩) r g]⟩, by omega, by (refine ⟨?_, ?_⟩ <;> repeat' first | exact trivial | exact congrArg (fun x => some (Value.int .i64 x)) (wrap_nat (by omega)) | exact sv_eq (by simp; done) | exact rfl | refine ⟨?_, ?_⟩ | fail), k + 1, es ++ [(fs[v.a.toNat].1, fs[v.a.toNat].2)], by omega, rfl, rfl, by simp [hel], ?_, hA2⟩
      rw [hev]
      simp only [snds, List.map_append, List.map_cons, List.map_nil] at hsn ⊢
      rw [hsn]
      unfold evOne
      rw [if_pos h0]
      simp [haf]
    · have h0 : ¬ v.op = 0 := by simpa using h0
      have harg := harg h0
      have ho3 := opnd3 v.op
      have hln := argsL_len v
      refine ⟨_, operandsOf_ec K v, ?_, fun v K hR => by obtain ⟨_, h, _⟩ := hR; cases h⟩
      rintro _ K1 ⟨b8, hx', e1, hr8⟩
      cases hx'
      have hA1 := hA.mono e1
      refine loop_ind ctx (fun _ => true) (fun m E K' => ∃ (j : Nat), j ≤ (opnd v.op).toNat ∧ m = (opnd v.op).toNat - j ∧ E = ⟨[(1, sv a fs), (2, .pointer (some ⟨0, 0, some 0⟩)), (6, .slice (some ⟨H.next, 0, none⟩) g.vals.length g.vals.length), (7, .int .i64 k), (8, .pointer (some ⟨1, 0, some 0⟩)), (9, .pointer (some ⟨2, 0, some 0⟩)), (28, sv (some ⟨b, f, none⟩) g.vals), (29, .int .i64 g.vals.length), (30, .int .i64 k), (48, sv (some ⟨b8, 0, none⟩) (argsL v)), (49, .int .i64 (argsL v).length), (50, .int .i64 j)], [gcells p (some ⟨b, f, none⟩) r g, vcells v, [opC v es j 0, opC v es j 1, opC v es j 2]]⟩ ∧ K' = K1)
        ⟨0, Nat.zero_le _, rfl, rfl, rfl⟩ (by (refine ⟨?_, ?_⟩ <;> repeat' first | exact trivial | exact congrArg (fun x => some (Value.int .i64 x)) (wrap_nat (by omega)) | exact sv_eq (by simp; done) | exact rfl | refine ⟨?_, ?_⟩ | fail)) ?_
      rintro m E K' ⟨j, hj, rfl, rfl, rfl⟩
      refine ⟨fun hlj => ?_, fun hgj => ?_⟩
      · have hlj : j < (opnd v.op).toNat := by simp at hlj; omega
        obtain ⟨q0, q1⟩ := harg j (by omega)
        have hfe : (fieldV v j).toNat < es.length := by omega
        obtain ⟨b8', f8', hq, hc8⟩ := hr8.cell (argsL_get hlj)
        cases hq
        have hcell := hA1.cell hfe
        have hj3 : j = 0 ∨ j = 1 ∨ j = 2 := by omega
        rcases hj3 with rfl | rfl | rfl
        · refine ⟨⟨by omega, by omega⟩, _, hc8, ⟨by omega, by omega⟩, _, hcell, ⟨by decide, by decide⟩, ?_⟩
          refine ⟨(opnd v.op).toNat - (0 + 1), ⟨[(1, sv a fs), (2, .pointer (some ⟨0, 0, some 0⟩)), (6, .slice (some ⟨H.next, 0, none⟩) g.vals.length g.vals.length), (7, .int .i64 k), (8, .pointer (some ⟨1, 0, some 0⟩)), (9, .pointer (some ⟨2, 0, some 0⟩)), (28, sv (some ⟨b, f, none⟩) g.vals), (29, .int .i64 g.vals.length), (30, .int .i64 k), (48, sv (some ⟨b8, 0, none⟩) (argsL v)), (49, .int .i64 (argsL v).length), (50, .int .i64 ((0 + 1 : Nat) : Int))], [gcells p (some ⟨b, f, none⟩) r g, vcells v, [.slice es[(fieldV v (0 : Nat)).toNat].1 es[(fieldV v (0 : Nat)).toNat].2.length es[(fieldV v (0 : Nat)).toNat].2.length, opC v es 0 1, opC v es 0 2]]⟩, by omega, by (refine ⟨?_, ?_⟩ <;> repeat' first | exact trivial | exact congrArg (fun x => some (Value.int .i64 x)) (wrap_nat (by omega)) | exact sv_eq (by simp; done) | exact rfl | refine ⟨?_, ?_⟩ | fail), 0 + 1, by omega, rfl, ?_, rfl⟩
          rw [opC_at (v := v) (j := 0) hfe, opC_old v es (j := 0) (i := 1) (by decide), opC_old v es (j := 0) (i := 2) (by decide)]
        · refine ⟨⟨by omega, by omega⟩, _, hc8, ⟨by omega, by omega⟩, _, hcell, ⟨by decide, by decide⟩, ?_⟩
          refine ⟨(opnd v.op).toNat - (1 + 1), ⟨[(1, sv a fs), (2, .pointer (some ⟨0, 0, some 0⟩)), (6, .slice (some ⟨H.next, 0, none⟩) g.vals.length g.vals.length), (7, .int .i64 k), (8, .pointer (some ⟨1, 0, some 0⟩)), (9, .pointer (some ⟨2, 0, some 0⟩)), (28, sv (some ⟨b, f, none⟩) g.vals), (29, .int .i64 g.vals.length), (30, .int .i64 k), (48, sv (some ⟨b8, 0, none⟩) (argsL v)), (49, .int .i64 (argsL v).length), (50, .int .i64 ((1 + 1 : Nat) : Int))], [gcells p (some ⟨b, f, none⟩) r g, vcells v, [opC v es 1 0, .slice es[(fieldV v (1 : Nat)).toNat].1 es[(fieldV v (1 : Nat)).toNat].2.length es[(fieldV v (1 : Nat)).toNat].2.length, opC v es 1 2]]⟩, by omega, by (refine ⟨?_, ?_⟩ <;> repeat' first | exact trivial | exact congrArg (fun x => some (Value.int .i64 x)) (wrap_nat (by omega)) | exact sv_eq (by simp; done) | exact rfl | refine ⟨?_, ?_⟩ | fail), 1 + 1, by omega, rfl, ?_, rfl⟩
          rw [opC_old v es (j := 1) (i := 0) (by decide), opC_at (v := v) (j := 1) hfe, opC_old v es (j := 1) (i := 2) (by decide)]
        · refine ⟨⟨by omega, by omega⟩, _, hc8, ⟨by omega, by omega⟩, _, hcell, ⟨by decide, by decide⟩, ?_⟩
          refine ⟨(opnd v.op).toNat - (2 + 1), ⟨[(1, sv a fs), (2, .pointer (some ⟨0, 0, some 0⟩)), (6, .slice (some ⟨H.next, 0, none⟩) g.vals.length g.vals.length), (7, .int .i64 k), (8, .pointer (some ⟨1, 0, some 0⟩)), (9, .pointer (some ⟨2, 0, some 0⟩)), (28, sv (some ⟨b, f, none⟩) g.vals), (29, .int .i64 g.vals.length), (30, .int .i64 k), (48, sv (some ⟨b8, 0, none⟩) (argsL v)), (49, .int .i64 (argsL v).length), (50, .int .i64 ((2 + 1 : Nat) : Int))], [gcells p (some ⟨b, f, none⟩) r g, vcells v, [opC v es 2 0, opC v es 2 1, .slice es[(fieldV v (2 : Nat)).toNat].1 es[(fieldV v (2 : Nat)).toNat].2.length es[(fieldV v (2 : Nat)).toNat].2.length]]⟩, by omega, by (refine ⟨?_, ?_⟩ <;> repeat' first | exact trivial | exact congrArg (fun x => some (Value.int .i64 x)) (wrap_nat (by omega)) | exact sv_eq (by simp; done) | exact rfl | refine ⟨?_, ?_⟩ | fail), 2 + 1, by omega, rfl, ?_, rfl⟩
          rw [opC_old v es (j := 2) (i := 0) (by decide), opC_old v es (j := 2) (i := 1) (by decide), opC_at (v := v) (j := 2) hfe]
      have hj2 : j = (opnd v.op).toNat := by simp at hgj; omega
      subst hj2
      have q := opE_argO (v := v) hsn
      have hal : ∀ i, (argO v (evP g (snds fs) k) i).length ≤ 1048576 := fun i => by
        unfold argO
        split
        · cases hq : (evP g (snds fs) k)[(fieldV v i).toNat]? with
          | none => simp
          | some x => exact hle x (List.mem_of_getElem? hq)
        · simp
      have hrd : ∀ i, Rd dFlt K' (opE v es (opnd v.op).toNat i).1 (opE v es (opnd v.op).toNat i).2 := fun i => by
        unfold opE
        split
        · cases hq : es[(fieldV v i).toNat]? with
          | none => exact Rd.nil
          | some e => exact (hA1.inn e (List.mem_of_getElem? hq)).mono (unkillO K' _)
        · exact Rd.nil
      have hker := implKernel_ec K' _ _ _ v _ _ _ (hrd 0) (hrd 1) (hrd 2) (by rw [q]; exact hal 0) (by rw [q]; exact hal 1) (by rw [q]; exact hal 2)
      refine ⟨⟨by omega, by omega⟩, ⟨by omega, by omega⟩, ⟨by omega, by omega⟩, _, hker, ?_, fun v K hR => by obtain ⟨_, h, _⟩ := hR; cases h⟩
      rintro _ K2 ⟨o2, hx', e2, hb2⟩
      cases hx'
      have hA2 := hA1.mono e2
      have hs := hA2.stOK (by omega)
      have hA3 := hA2.set (by omega) (hA1.new e2 hb2)
      rw [hel] at hs hA3
      refine ⟨⟨by omega, by omega⟩, hs, ?_⟩
      refine ⟨g.vals.length - (k + 1), ⟨[(1, sv a fs), (2, .pointer (some ⟨0, 0, some 0⟩)), (6, .slice (some ⟨H.next, 0, none⟩) g.vals.length g.vals.length), (28, sv (some ⟨b, f, none⟩) g.vals), (29, .int .i64 g.vals.length), (30, .int .i64 ((k + 1 : Nat) : Int))], [gcells p (some ⟨b, f, none⟩) r g]⟩, by omega, by (refine ⟨?_, ?_⟩ <;> repeat' first | exact trivial | exact congrArg (fun x => some (Value.int .i64 x)) (wrap_nat (by omega)) | exact sv_eq (by simp; done) | exact rfl | refine ⟨?_, ?_⟩ | fail), k + 1, _, by omega, rfl, rfl, by simp [hel], ?_, hA3⟩
      rw [hev]
      simp only [snds, List.map_append, List.map_cons, List.map_nil] at hsn ⊢
      rw [hsn]
      unfold evOne
      rw [if_neg h0, q, q, q]
  · have hk2 : k = g.vals.length := by simp at hge; omega
    subst hk2
    have hV : RdSS K (some ⟨H.next, 0, none⟩) es := ⟨by
      have := hA.blk
      rw [hel, Nat.sub_self, List.replicate_zero, List.append_nil] at this
      exact Rd.blk this, fun e he => (hA.inn e he).mono (unkillO K _)⟩
    have e1 := hA.extK
    have hO0 : OwnSS (K.push (.cells [] 1 true)) K.next (some ⟨K.next, 0, none⟩) [] := ⟨.blk (Nat.le_refl _) (push_blk _ _), by simp, by simp, .nil⟩
    clear hA
    refine loop_ind ctx (fun _ => true) (fun m E K' => ∃ (k : Nat) (o : Option Addr) (rs : List SlE), k ≤ g.outs.length ∧ m = g.outs.length - k ∧ E = ⟨[(2, .pointer (some ⟨0, 0, some 0⟩)), (6, .slice (some ⟨H.next, 0, none⟩) g.vals.length g.vals.length), (12, sv o rs), (76, sv r g.outs), (77, .int .i64 g.outs.length), (78, .int .i64 k)], [gcells p q r g]⟩ ∧ rs.length = k ∧ snds rs = (g.outs.take k).map (fun o => ((evP g (snds fs) g.vals.length)[o.toNat]?).getD []) ∧ OwnSS K' K.next o rs ∧ Ext K K')
      ⟨0, some ⟨K.next, 0, none⟩, [], Nat.zero_le _, rfl, rfl, rfl, rfl, hO0, Ext.push _ _⟩ (by (refine ⟨?_, ?_⟩ <;> repeat' first | exact trivial | exact congrArg (fun x => some (Value.int .i64 x)) (wrap_nat (by omega)) | exact sv_eq (by simp; done) | exact rfl | refine ⟨?_, ?_⟩ | fail)) ?_
    rintro m E K1 ⟨k, o, rs, hk, rfl, rfl, hrl, hrs, hO, he⟩
    refine ⟨fun hlt => ?_, fun hge => ?_⟩
    · have hlt : k < g.outs.length := by simpa using hlt
      obtain ⟨b, f, rfl, hc⟩ := (hg.outs.mono (e1.trans he)).cell (List.getElem?_eq_getElem hlt)
      obtain ⟨o0, o1⟩ := hv.out _ (List.getElem_mem hlt)
      have hol : (g.outs[k]).toNat < es.length := by omega
      obtain ⟨b2, f2, hq, hc2⟩ := (hV.out.mono he).cell (List.getElem?_eq_getElem hol)
      cases hq
      have hr2 := (hV.mono he).inn _ (List.getElem_mem hol)
      have hle := evalO_le hv hxs _ (by rw [← hsn]; exact List.mem_map_of_mem (List.getElem_mem hol))
      refine ⟨⟨by omega, by omega⟩, _, hc, ⟨by omega, by omega⟩, _, hc2, _, floatsCopy_ec K1 _ _ hr2 hle, ?_, fun v K hR => by obtain ⟨_, h, _⟩ := hR; cases h⟩
      rintro _ K2 ⟨o2, hx', e2, hb2⟩
      cases hx'
      have hown := ((hO.out.mono e2).mono (Ext.push K2 (.cells [.slice o2 es[(g.outs[k]).toNat].2.length es[(g.outs[k]).toNat].2.length] 1 true))).own
      refine ⟨_, run_push _ _ _ _ (by simp), by dsimp only; omega, by dsimp only; omega, _, hown, ?_⟩
      refine ⟨g.outs.length - (k + 1), ⟨[(2, .pointer (some ⟨0, 0, some 0⟩)), (6, .slice (some ⟨H.next, 0, none⟩) g.vals.length g.vals.length), (12, .slice (some ⟨K2.next + 1, 0, none⟩) (rs.length + 1) (rs.length + 1)), (76, sv (some ⟨b, f, none⟩) g.outs), (77, .int .i64 g.outs.length), (78, .int .i64 ((k + 1 : Nat) : Int))], [gcells p q (some ⟨b, f, none⟩) g]⟩, by omega, by (refine ⟨?_, ?_⟩ <;> repeat' first | exact trivial | exact congrArg (fun x => some (Value.int .i64 x)) (wrap_nat (by omega)) | exact sv_eq (by simp; done) | exact rfl | refine ⟨?_, ?_⟩ | fail), k + 1, some ⟨K2.next + 1, 0, none⟩, rs ++ [(o2, es[(g.outs[k]).toNat].2)], by omega, rfl, ?_, by simp [hrl], ?_, hO.app he.next e2 hb2 _ rfl, ?_⟩
      · rw [← sv_snoc _ rs [((o2, es[(g.outs[k]).toNat].2) : SlE)] rfl]; rfl
      · rw [List.take_succ_eq_append_getElem hlt, List.map_append, ← hrs]
        simp only [snds, List.map_append, List.map_cons, List.map_nil]
        rw [snds_get hsn hol]
      · exact ((hO.out.mono (e2.trans (Ext.push K2 _))).killO (he.trans (e2.trans (Ext.push _ _))) (Nat.le_refl _)).push' _
    · have hk2 : k = g.outs.length := by simp at hge; omega
      subst hk2
      rw [List.take_of_length_le (Nat.le_refl _)] at hrs
      unfold ER
      rw [hR]
      exact ⟨o, rs, rfl, hrs, e1.trans he, hO.wide e1.next⟩
end Go.Proofs.Ytjhldpghbnjjmaa
