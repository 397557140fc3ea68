/- RunCode, the program's side. Conditions: lists of at most 2^20 elements. -/
import Derived.Test.YtanlmmfnpncpbaaRnt
import Derived.Test.YtanlmmfnpncpbaaVerd
set_option linter.unusedVariables false
set_option linter.unusedSimpArgs false
namespace Go.Proofs.Ytanlmmfnpncpbaa
open Go.Am

theorem over_flat {α : Type} (d : Enc α) (xs ys : List α) (i : Nat) : overL (flat d xs) (i * d.sz) (flat d ys) = flat d (xs.take i ++ ys ++ xs.drop (i + ys.length)) := by
  unfold overL
  rw [flat_len, flat_take, show i * d.sz + ys.length * d.sz = (i + ys.length) * d.sz by rw [Nat.add_mul], flat_drop, flat_append, flat_append]
/-- The arena's block and what lay before it. -/
structure Arena (H K : Heap) (A : Nat) (c : Code') (xss : List (List Nat)) (k : Nat) : Prop where
  blk : K.blk A = some (.cells (flat dFlt (arenaL c xss k)) 1 true)
  ext : Ext H K
  lo : H.next ≤ A
theorem Arena.mono {H K K' : Heap} {A : Nat} {c : Code'} {xss : List (List Nat)} {k : Nat} (h : Arena H K A c xss k) (e : Ext K K') : Arena H K' A c xss k := ⟨e.same _ _ h.blk, h.ext.trans e, h.lo⟩
theorem Arena.rd {H K : Heap} {A : Nat} {c : Code'} {xss : List (List Nat)} {k : Nat} (h : Arena H K A c xss k) : Rd dFlt K (some ⟨A, 0, none⟩) (arenaL c xss k) := Rd.blk h.blk
theorem Arena.read {H K : Heap} {A : Nat} {c : Code'} {xss : List (List Nat)} {k : Nat} (h : Arena H K A c xss k) {off size : Int} (hb : 0 ≤ size ∧ 0 ≤ off ∧ off ≤ c.peak - size) : Rd dFlt K (some ⟨A, 0 + off.toNat * 1, none⟩) (readF c.steps (resP c xss k) k off size) := by
  have := h.rd.sub (l := off.toNat) (n := size.toNat) (by simp; omega)
  rw [arena_read hb] at this
  exact this
theorem Arena.copy {H K : Heap} {A : Nat} {c : Code'} {xss : List (List Nat)} {k : Nat} {s : Step} (h : Arena H K A c xss k) (hi : c.steps[k]? = some s) (hS : VerS c k s) (hs : shapesB c.ins xss = true) {xs : List Nat} (hx : xs = rOne c.steps xss (resP c xss k) k s) :
    Arena H (K.stor A (0 + s.dst.toNat * 1) (flat dFlt xs)) A c xss (k + 1) := by
  refine ⟨?_, h.ext.stor h.lo, h.lo⟩
  rw [Heap.stor_put h.blk, put_blk _ _ _ _ (K.lt _ _ h.blk), if_pos rfl]
  have hl : xs.length = s.len.toNat := by rw [hx]; exact rOne_len hS hs
  have := over_flat dFlt (arenaL c xss k) xs s.dst.toNat
  rw [hl, hx, arena_step hi hS hs, ← hx] at this
  rw [Nat.zero_add]
  exact congrArg (fun x => some (Blk.cells x 1 true)) this
/-- A part of the arena as an operand, once it has been cut. -/
def ptE (A : Nat) (c : Code') (rs : List (List Nat)) (k : Nat) (s : Step) (j i : Nat) : SlE := if i < j then (some ⟨A, 0 + (stepField s i).toNat * 1, none⟩, rArg c.steps rs k s i) else (none, [])
abbrev ptC (A : Nat) (c : Code') (rs : List (List Nat)) (k : Nat) (s : Step) (j i : Nat) : Value := .slice (ptE A c rs k s j i).1 (ptE A c rs k s j i).2.length (ptE A c rs k s j i).2.length
theorem ptC_at {A : Nat} {c : Code'} {rs : List (List Nat)} {k : Nat} {s : Step} {j : Nat} (h : (j : Int) < opnd s.op) (hw : (IntKind.i64.wrap (stepField s j + stepLen s j)).toNat - (stepField s j).toNat = (stepLen s j).toNat) :
    ptC A c rs k s (j + 1) j = .slice (some ⟨A, 0 + (stepField s j).toNat * 1, none⟩) ((IntKind.i64.wrap (stepField s j + stepLen s j)).toNat - (stepField s j).toNat) ((IntKind.i64.wrap (stepField s j + stepLen s j)).toNat - (stepField s j).toNat) := by
  show Value.slice _ _ _ = _
  unfold ptE
  rw [if_pos (Nat.lt_succ_self j), hw]
  have : (rArg c.steps rs k s j).length = (stepLen s j).toNat := by unfold rArg; rw [if_pos h, readF_len]
  simp only [this]
theorem ptC_old (A : Nat) (c : Code') (rs : List (List Nat)) (k : Nat) (s : Step) {j i : Nat} (h : i ≠ j) : ptC A c rs k s (j + 1) i = ptC A c rs k s j i := by
  show Value.slice _ _ _ = Value.slice _ _ _
  have : ptE A c rs k s (j + 1) i = ptE A c rs k s j i := by
    unfold ptE
    by_cases hi : i < j
    · rw [if_pos hi, if_pos (by omega)]
    · rw [if_neg hi, if_neg (by omega)]
  rw [this]
theorem ptE_all (A : Nat) (c : Code') (rs : List (List Nat)) (k : Nat) (s : Step) (i : Nat) : (ptE A c rs k s (opnd s.op).toNat i).2 = rArg c.steps rs k s i := by
  have := opnd_range s.op
  unfold ptE
  by_cases hi : i < (opnd s.op).toNat
  · rw [if_pos hi]
  · rw [if_neg hi]
    unfold rArg
    rw [if_neg (by omega)]

set_option maxHeartbeats 4000000 in
theorem run_ec (H : Heap) (p q r a : Option Addr) (c : Code') (fs : List SlE) (hc : RdC H p q r c) (hin : RdSS H a fs) (hv : Ver' c) (hs : shapesB c.ins (snds fs) = true) (hfl : fs.length = c.ins.length) (hx : ∀ e ∈ fs, e.2.length ≤ 1048576) :
    EC Try.prog 28 [cV p q r c, sv a fs] H fun R K => ∃ o es, R = .ret (sv o es) ∧ snds es = runO c (snds fs) ∧ OwnSS K H.next o es ∧ Ext H K := by
  have hvl := hv.steps
  have hvo := hv.outs
  have hvp := hv.peak
  refine EC_fn ctx (fun _ => true) Try.func28 rfl rfl rfl ?_
  refine ⟨⟨by omega, by dsimp only; omega⟩, ?_⟩
  have hA0 : Arena H (H.push (.cells (repL c.peak.toNat [.float .f64 0]) 1 true)) H.next c (snds fs) 0 := ⟨by rw [push_blk, flat_rep dFlt 0 [.float .f64 0] rfl, ← arenaL_zero c (snds fs)], Ext.push _ _, Nat.le_refl _⟩
  refine loop_ind ctx (fun _ => true) (fun m E K => ∃ (k : Nat), k ≤ c.steps.length ∧ m = c.steps.length - k ∧ E = ⟨[(1, sv a fs), (2, .pointer (some ⟨0, 0, some 0⟩)), (5, .slice (some ⟨H.next, 0, none⟩) c.peak.toNat c.peak.toNat), (19, sv q c.steps), (20, .int .i64 c.steps.length), (21, .int .i64 k)], [vE0 p q r c]⟩ ∧ Arena H K H.next c (snds fs) k)
    ⟨0, Nat.zero_le _, rfl, rfl, hA0⟩ (by (refine ⟨?_, ?_⟩ <;> repeat' first | exact trivial | exact congrArg (fun x => some (Value.int .i64 x)) (wrap_nat (by omega)) | exact sv_eq (by simp; done) | exact rfl | refine ⟨?_, ?_⟩ | fail)) ?_
  clear hA0
  rintro m E K ⟨k, hk, rfl, rfl, hA⟩
  refine ⟨fun hlt => ?_, fun hge => ?_⟩
  · have hlt : k < c.steps.length := by simpa using hlt
    have hxv := List.getElem?_eq_getElem hlt
    have hS := hv.step k _ hxv
    obtain ⟨b, f, rfl, hcs⟩ := (hc.steps.mono hA.ext).step hxv
    generalize c.steps[k] = s at hxv hS hcs
    have hdl := hS.len
    have hdd := hS.dst
    have ho3 := opnd_range s.op
    have hrl := readsL_len s
    refine ⟨⟨by omega, by omega⟩, stepV s, hcs, ?_⟩
    refine ⟨_, reads_ec K s, ?_, fun v K hR => by obtain ⟨_, h, _⟩ := hR; cases h⟩
    rintro _ K1 ⟨b8, hx', e1, hr8⟩
    cases hx'
    have hA1 := hA.mono e1
    refine loop_ind ctx (fun _ => true) (fun m E K' => ∃ (j : Nat), j ≤ (opnd s.op).toNat ∧ m = (opnd s.op).toNat - j ∧ E = ⟨[(1, sv a fs), (2, .pointer (some ⟨0, 0, some 0⟩)), (5, .slice (some ⟨H.next, 0, none⟩) c.peak.toNat c.peak.toNat), (7, .pointer (some ⟨1, 0, some 0⟩)), (8, .pointer (some ⟨2, 0, some 0⟩)), (19, sv (some ⟨b, f, none⟩) c.steps), (20, .int .i64 c.steps.length), (21, .int .i64 k), (27, sv (some ⟨b8, 0, none⟩) (readsL s)), (28, .int .i64 (readsL s).length), (29, .int .i64 j)], [vE0 p (some ⟨b, f, none⟩) r c, stepcells s, [ptC H.next c (resP c (snds fs) k) k s j 0, ptC H.next c (resP c (snds fs) k) k s j 1, ptC H.next c (resP c (snds fs) k) k s j 2]]⟩ ∧ K' = K1)
      ⟨0, Nat.zero_le _, rfl, rfl, rfl⟩ (by (refine ⟨?_, ?_⟩ <;> repeat' first | exact trivial | exact congrArg (fun x => some (Value.int .i64 x)) (wrap_nat (by omega)) | exact sv_eq (by simp; done) | exact rfl | refine ⟨?_, ?_⟩ | fail)) ?_
    rintro m E K' ⟨j, hj, rfl, rfl, rfl⟩
    refine ⟨fun hlj => ?_, fun hgj => ?_⟩
    · have hlj : j < (opnd s.op).toNat := by simp at hlj; omega
      have hjo : (j : Int) < opnd s.op := by omega
      obtain ⟨q0, q1, q2, q3, q4⟩ := hS.arg j hjo
      obtain ⟨b8', f8', hq, hc8⟩ := hr8.span (readsL_get hlj)
      cases hq
      have hw : IntKind.i64.wrap (stepField s j + stepLen s j) = stepField s j + stepLen s j := wrap_i64 (by omega) (by omega)
      have hww : (IntKind.i64.wrap (stepField s j + stepLen s j)).toNat - (stepField s j).toNat = (stepLen s j).toNat := by rw [hw]; omega
      have hez : K'.ezAt H.next 1 := ⟨_, _, hA1.blk⟩
      have hask : 0 ≤ stepField s j ∧ stepField s j ≤ IntKind.i64.wrap (stepField s j + stepLen s j) ∧ IntKind.i64.wrap (stepField s j + stepLen s j) ≤ ((c.peak.toNat : Nat) : Int) ∧ K'.ezAt H.next 1 := by rw [hw]; exact ⟨by omega, by omega, by omega, hez⟩
      have hj3 : j = 0 ∨ j = 1 ∨ j = 2 := by omega
      rcases hj3 with rfl | rfl | rfl
      · refine ⟨⟨by omega, by omega⟩, spanV ⟨stepField s (0 : Nat), stepLen s (0 : Nat)⟩, hc8, hask, ⟨by decide, by decide⟩, ?_⟩
        refine ⟨(opnd s.op).toNat - (0 + 1), ⟨[(1, sv a fs), (2, .pointer (some ⟨0, 0, some 0⟩)), (5, .slice (some ⟨H.next, 0, none⟩) c.peak.toNat c.peak.toNat), (7, .pointer (some ⟨1, 0, some 0⟩)), (8, .pointer (some ⟨2, 0, some 0⟩)), (19, sv (some ⟨b, f, none⟩) c.steps), (20, .int .i64 c.steps.length), (21, .int .i64 k), (27, sv (some ⟨b8, 0, none⟩) (readsL s)), (28, .int .i64 (readsL s).length), (29, .int .i64 ((0 + 1 : Nat) : Int))], [vE0 p (some ⟨b, f, none⟩) r c, stepcells s, [.slice (some ⟨H.next, 0 + (stepField s (0 : Nat)).toNat * 1, none⟩) ((IntKind.i64.wrap (stepField s (0 : Nat) + stepLen s (0 : Nat))).toNat - (stepField s (0 : Nat)).toNat) ((IntKind.i64.wrap (stepField s (0 : Nat) + stepLen s (0 : Nat))).toNat - (stepField s (0 : Nat)).toNat), ptC H.next c (resP c (snds fs) k) k s 0 1, ptC H.next c (resP c (snds fs) k) k s 0 2]]⟩, by omega, by (refine ⟨?_, ?_⟩ <;> repeat' first | exact trivial | exact congrArg (fun x => some (Value.int .i64 x)) (wrap_nat (by omega)) | exact sv_eq (by simp; done) | exact rfl | refine ⟨?_, ?_⟩ | fail), 0 + 1, by omega, rfl, ?_, rfl⟩
        rw [ptC_at (j := 0) hjo hww, ptC_old H.next c (resP c (snds fs) k) k s (j := 0) (i := 1) (by decide), ptC_old H.next c (resP c (snds fs) k) k s (j := 0) (i := 2) (by decide)]
      · refine ⟨⟨by omega, by omega⟩, spanV ⟨stepField s (1 : Nat), stepLen s (1 : Nat)⟩, hc8, hask, ⟨by decide, by decide⟩, ?_⟩
        refine ⟨(opnd s.op).toNat - (1 + 1), ⟨[(1, sv a fs), (2, .pointer (some ⟨0, 0, some 0⟩)), (5, .slice (some ⟨H.next, 0, none⟩) c.peak.toNat c.peak.toNat), (7, .pointer (some ⟨1, 0, some 0⟩)), (8, .pointer (some ⟨2, 0, some 0⟩)), (19, sv (some ⟨b, f, none⟩) c.steps), (20, .int .i64 c.steps.length), (21, .int .i64 k), (27, sv (some ⟨b8, 0, none⟩) (readsL s)), (28, .int .i64 (readsL s).length), (29, .int .i64 ((1 + 1 : Nat) : Int))], [vE0 p (some ⟨b, f, none⟩) r c, stepcells s, [ptC H.next c (resP c (snds fs) k) k s 1 0, .slice (some ⟨H.next, 0 + (stepField s (1 : Nat)).toNat * 1, none⟩) ((IntKind.i64.wrap (stepField s (1 : Nat) + stepLen s (1 : Nat))).toNat - (stepField s (1 : Nat)).toNat) ((IntKind.i64.wrap (stepField s (1 : Nat) + stepLen s (1 : Nat))).toNat - (stepField s (1 : Nat)).toNat), ptC H.next c (resP c (snds fs) k) k s 1 2]]⟩, by omega, by (refine ⟨?_, ?_⟩ <;> repeat' first | exact trivial | exact congrArg (fun x => some (Value.int .i64 x)) (wrap_nat (by omega)) | exact sv_eq (by simp; done) | exact rfl | refine ⟨?_, ?_⟩ | fail), 1 + 1, by omega, rfl, ?_, rfl⟩
        rw [ptC_old H.next c (resP c (snds fs) k) k s (j := 1) (i := 0) (by decide), ptC_at (j := 1) hjo hww, ptC_old H.next c (resP c (snds fs) k) k s (j := 1) (i := 2) (by decide)]
      · refine ⟨⟨by omega, by omega⟩, spanV ⟨stepField s (2 : Nat), stepLen s (2 : Nat)⟩, hc8, hask, ⟨by decide, by decide⟩, ?_⟩
        refine ⟨(opnd s.op).toNat - (2 + 1), ⟨[(1, sv a fs), (2, .pointer (some ⟨0, 0, some 0⟩)), (5, .slice (some ⟨H.next, 0, none⟩) c.peak.toNat c.peak.toNat), (7, .pointer (some ⟨1, 0, some 0⟩)), (8, .pointer (some ⟨2, 0, some 0⟩)), (19, sv (some ⟨b, f, none⟩) c.steps), (20, .int .i64 c.steps.length), (21, .int .i64 k), (27, sv (some ⟨b8, 0, none⟩) (readsL s)), (28, .int .i64 (readsL s).length), (29, .int .i64 ((2 + 1 : Nat) : Int))], [vE0 p (some ⟨b, f, none⟩) r c, stepcells s, [ptC H.next c (resP c (snds fs) k) k s 2 0, ptC H.next c (resP c (snds fs) k) k s 2 1, .slice (some ⟨H.next, 0 + (stepField s (2 : Nat)).toNat * 1, none⟩) ((IntKind.i64.wrap (stepField s (2 : Nat) + stepLen s (2 : Nat))).toNat - (stepField s (2 : Nat)).toNat) ((IntKind.i64.wrap (stepField s (2 : Nat) + stepLen s (2 : Nat))).toNat - (stepField s (2 : Nat)).toNat)]]⟩, by omega, by (refine ⟨?_, ?_⟩ <;> repeat' first | exact trivial | exact congrArg (fun x => some (Value.int .i64 x)) (wrap_nat (by omega)) | exact sv_eq (by simp; done) | exact rfl | refine ⟨?_, ?_⟩ | fail), 2 + 1, by omega, rfl, ?_, rfl⟩
        rw [ptC_old H.next c (resP c (snds fs) k) k s (j := 2) (i := 0) (by decide), ptC_old H.next c (resP c (snds fs) k) k s (j := 2) (i := 1) (by decide), ptC_at (j := 2) hjo hww]
    have hj2 : j = (opnd s.op).toNat := by simp at hgj; omega
    subst hj2
    have hal : ∀ i, (rArg c.steps (resP c (snds fs) k) k s i).length ≤ 1048576 := fun i => Nat.le_trans (rArg_le hS i) (by decide)
    have hpe := ptE_all H.next c (resP c (snds fs) k) k s
    have e2 : Ext K' (K'.push (.cells [] 1 true)) := Ext.push _ _
    have hmin : ∀ n, n = s.len.toNat → Nat.min n ((c.peak.toNat : Int).toNat - s.dst.toNat) = n := fun n hn => Nat.min_eq_left (by omega)
    have hstk : ∀ {K2 : Heap}, Arena H K2 H.next c (snds fs) k → K2.stOK H.next (0 + s.dst.toNat * 1) (s.len.toNat * 1) := fun hA => ⟨_, _, hA.blk, by rw [flat_len, arenaL_len, show (dFlt).sz = 1 from rfl]; omega⟩
    have hA2 := hA1.mono e2
    refine ⟨fun h0 => ?_, fun h0 => ?_⟩
    · have h0 : s.op = 0 := by simpa using h0
      obtain ⟨a0, a1, a2⟩ := hS.inp h0
      have haf : s.a.toNat < fs.length := by omega
      obtain ⟨b2, f2, rfl, hc2⟩ := (hin.out.mono hA2.ext).cell (List.getElem?_eq_getElem haf)
      have hr2 := (hin.inn _ (List.getElem_mem haf)).mono hA2.ext
      have hone : fs[s.a.toNat].2 = rOne c.steps (snds fs) (resP c (snds fs) k) k s := by
        unfold rOne
        rw [if_pos h0]
        simp [haf]
      have hl2 : fs[s.a.toNat].2.length = s.len.toNat := by rw [hone]; exact rOne_len hS hs
      obtain ⟨b3, o3, hq3, hrun⟩ := hr2.all_ (by omega)
      rw [hq3] at hc2
      refine ⟨⟨by omega, by omega⟩, _, hc2, ⟨by omega, by omega, by omega, ⟨_, _, hA2.blk⟩⟩, ?_⟩
      refine ⟨flat dFlt fs[s.a.toNat].2, ?_, ?_, ?_⟩
      · show Heap.run? _ b3 o3 (Nat.min fs[s.a.toNat].2.length ((c.peak.toNat : Int).toNat - s.dst.toNat) * 1) = _
        rw [hmin _ hl2]; exact hrun
      · show Heap.stOK _ H.next (0 + s.dst.toNat * 1) (Nat.min fs[s.a.toNat].2.length ((c.peak.toNat : Int).toNat - s.dst.toNat) * 1)
        rw [hmin _ hl2, hl2]; exact hstk hA2
      · exact ⟨c.steps.length - (k + 1), ⟨[(1, sv (some ⟨b2, f2, none⟩) fs), (2, .pointer (some ⟨0, 0, some 0⟩)), (5, .slice (some ⟨H.next, 0, none⟩) c.peak.toNat c.peak.toNat), (19, sv (some ⟨b, f, none⟩) c.steps), (20, .int .i64 c.steps.length), (21, .int .i64 ((k + 1 : Nat) : Int))], [vE0 p (some ⟨b, f, none⟩) r c]⟩, by omega, by (refine ⟨?_, ?_⟩ <;> repeat' first | exact trivial | exact congrArg (fun x => some (Value.int .i64 x)) (wrap_nat (by omega)) | exact sv_eq (by simp; done) | exact rfl | refine ⟨?_, ?_⟩ | fail), k + 1, by omega, rfl, rfl, hA2.copy hxv hS hs hone⟩
    · have h0 : ¬ s.op = 0 := by simpa using h0
      have hrd : ∀ i : Nat, Rd dFlt (K'.push (.cells [] 1 true)) (ptE H.next c (resP c (snds fs) k) k s (opnd s.op).toNat i).1 (ptE H.next c (resP c (snds fs) k) k s (opnd s.op).toNat i).2 := fun i => by
        unfold ptE
        split
        · have hio : (i : Int) < opnd s.op := by omega
          obtain ⟨q0, q1, q2, q3, q4⟩ := hS.arg i hio
          unfold rArg
          rw [if_pos hio]
          exact hA2.read (by omega)
        · exact Rd.nil
      have hker := implKernel_ec (K'.push (.cells [] 1 true)) _ _ _ (svV s) _ _ _ (hrd 0) (hrd 1) (hrd 2) (by rw [hpe]; exact hal 0) (by rw [hpe]; exact hal 1) (by rw [hpe]; exact hal 2)
      refine ⟨⟨by omega, by omega⟩, ⟨by omega, by omega⟩, ⟨by omega, by omega⟩, _, hker, ?_, fun v K hR => by obtain ⟨_, h, _⟩ := hR; cases h⟩
      rintro _ K2 ⟨o2, hx', e3, hb2⟩
      rw [hpe, hpe, hpe] at hx' hb2
      have hone : kern (svV s) (rArg c.steps (resP c (snds fs) k) k s 0) (rArg c.steps (resP c (snds fs) k) k s 1) (rArg c.steps (resP c (snds fs) k) k s 2) = rOne c.steps (snds fs) (resP c (snds fs) k) k s := by
        unfold rOne
        rw [if_neg h0]
      have hl2 : (kern (svV s) (rArg c.steps (resP c (snds fs) k) k s 0) (rArg c.steps (resP c (snds fs) k) k s 1) (rArg c.steps (resP c (snds fs) k) k s 2)).length = s.len.toNat := by rw [hone]; exact rOne_len hS hs
      generalize kern (svV s) (rArg c.steps (resP c (snds fs) k) k s 0) (rArg c.steps (resP c (snds fs) k) k s 1) (rArg c.steps (resP c (snds fs) k) k s 2) = ys at hx' hb2 hone hl2
      cases hx'
      have hA3 := hA2.mono e3
      obtain ⟨b3, o3, rfl, hrun⟩ := hb2.rd.all_ (by omega)
      refine ⟨⟨by omega, by omega, by omega, ⟨_, _, hA3.blk⟩⟩, ?_⟩
      refine ⟨flat dFlt ys, ?_, ?_, ?_⟩
      · show Heap.run? _ b3 o3 (Nat.min ys.length ((c.peak.toNat : Int).toNat - s.dst.toNat) * 1) = _
        rw [hmin _ hl2]; exact hrun
      · show Heap.stOK _ H.next (0 + s.dst.toNat * 1) (Nat.min ys.length ((c.peak.toNat : Int).toNat - s.dst.toNat) * 1)
        rw [hmin _ hl2, hl2]; exact hstk hA3
      · exact ⟨c.steps.length - (k + 1), ⟨[(1, sv a fs), (2, .pointer (some ⟨0, 0, some 0⟩)), (5, .slice (some ⟨H.next, 0, none⟩) c.peak.toNat c.peak.toNat), (19, sv (some ⟨b, f, none⟩) c.steps), (20, .int .i64 c.steps.length), (21, .int .i64 ((k + 1 : Nat) : Int))], [vE0 p (some ⟨b, f, none⟩) r c]⟩, by omega, by (refine ⟨?_, ?_⟩ <;> repeat' first | exact trivial | exact congrArg (fun x => some (Value.int .i64 x)) (wrap_nat (by omega)) | exact sv_eq (by simp; done) | exact rfl | refine ⟨?_, ?_⟩ | fail), k + 1, by omega, rfl, rfl, hA3.copy hxv hS hs hone⟩
  · have hk2 : k = c.steps.length := by simp at hge; omega
    subst hk2
    have e1 := hA.ext
    have hO0 : OwnSS (K.push (.cells [] 1 true)) K.next (some ⟨K.next, 0, none⟩) [] := ⟨.blk (Nat.le_refl _) (push_blk _ _), by simp, by simp, .nil⟩
    refine loop_ind ctx (fun _ => true) (fun m E K' => ∃ (k : Nat) (o' : Option Addr) (rs : List SlE), k ≤ c.outs.length ∧ m = c.outs.length - k ∧ E = ⟨[(2, .pointer (some ⟨0, 0, some 0⟩)), (5, .slice (some ⟨H.next, 0, none⟩) c.peak.toNat c.peak.toNat), (12, sv o' rs), (80, sv r c.outs), (81, .int .i64 c.outs.length), (82, .int .i64 k)], [vE0 p q r c]⟩ ∧ rs.length = k ∧ snds rs = (c.outs.take k).map (fun o => readF c.steps (resP c (snds fs) c.steps.length) c.steps.length o.off o.len) ∧ OwnSS K' K.next o' rs ∧ Ext K K')
      ⟨0, some ⟨K.next, 0, none⟩, [], Nat.zero_le _, rfl, rfl, rfl, rfl, hO0, Ext.push _ _⟩ (by (refine ⟨?_, ?_⟩ <;> repeat' first | exact trivial | exact congrArg (fun x => some (Value.int .i64 x)) (wrap_nat (by omega)) | exact sv_eq (by simp; done) | exact rfl | refine ⟨?_, ?_⟩ | fail)) ?_
    rintro m E K' ⟨k, o', rs, hk, rfl, rfl, hrl, hrs, hO, he⟩
    refine ⟨fun hlt => ?_, fun hge => ?_⟩
    · have hlt : k < c.outs.length := by simpa using hlt
      have hxv := List.getElem?_eq_getElem hlt
      have hout := hv.out _ (List.getElem_mem hlt)
      obtain ⟨b, f, rfl, hc0⟩ := ((hc.outs.mono e1).mono he).span hxv
      have hst : (c.outs.take (k + 1)).map (fun o => readF c.steps (resP c (snds fs) c.steps.length) c.steps.length o.off o.len) = (c.outs.take k).map (fun o => readF c.steps (resP c (snds fs) c.steps.length) c.steps.length o.off o.len) ++ [readF c.steps (resP c (snds fs) c.steps.length) c.steps.length c.outs[k].off c.outs[k].len] := by
        rw [List.take_succ_eq_append_getElem hlt, List.map_append]; rfl
      generalize c.outs[k] = sp at hxv hout hc0 hst
      obtain ⟨o1, o2_, o3, o4⟩ := hout
      have hw : IntKind.i64.wrap (sp.off + sp.len) = sp.off + sp.len := wrap_i64 (by omega) (by omega)
      have hww : (IntKind.i64.wrap (sp.off + sp.len)).toNat - sp.off.toNat = sp.len.toNat := by rw [hw]; omega
      have hA2 := hA.mono he
      have hread := hA2.read (off := sp.off) (size := sp.len) (by omega)
      have hcall := floatsCopy_ec K' _ _ hread (by rw [readF_len]; omega)
      generalize hys : readF c.steps (resP c (snds fs) c.steps.length) c.steps.length sp.off sp.len = ys at hcall hst
      have hyl : ys.length = (IntKind.i64.wrap (sp.off + sp.len)).toNat - sp.off.toNat := by rw [hww, ← hys, readF_len]
      rw [hyl] at hcall
      refine ⟨⟨by omega, by omega⟩, spanV sp, hc0, ⟨by omega, by rw [hw]; omega, by rw [hw]; omega, ⟨_, _, hA2.blk⟩⟩, _, hcall, ?_, fun v K hR => by obtain ⟨_, h, _⟩ := hR; cases h⟩
      rintro _ K2 ⟨o2, hx', e2, hb2⟩
      cases hx'
      have hown := ((hO.out.mono e2).mono (Ext.push K2 (.cells [.slice o2 ys.length ys.length] 1 true))).own
      refine ⟨_, run_push _ _ _ _ (by simp), by dsimp only; omega, by dsimp only; omega, _, hown, ?_⟩
      refine ⟨c.outs.length - (k + 1), ⟨[(2, .pointer (some ⟨0, 0, some 0⟩)), (5, .slice (some ⟨H.next, 0, none⟩) c.peak.toNat c.peak.toNat), (12, .slice (some ⟨K2.next + 1, 0, none⟩) (rs.length + 1) (rs.length + 1)), (80, sv (some ⟨b, f, none⟩) c.outs), (81, .int .i64 c.outs.length), (82, .int .i64 ((k + 1 : Nat) : Int))], [vE0 p q (some ⟨b, f, none⟩) c]⟩, by omega, by (refine ⟨?_, ?_⟩ <;> repeat' first | exact trivial | exact congrArg (fun x => some (Value.int .i64 x)) (wrap_nat (by omega)) | exact sv_eq (by simp; done) | exact rfl | refine ⟨?_, ?_⟩ | fail), k + 1, some ⟨K2.next + 1, 0, none⟩, rs ++ [(o2, ys)], by omega, rfl, ?_, by simp [hrl], ?_, hO.app he.next e2 hb2 _ rfl, ?_⟩
      · rw [← sv_snoc _ rs [((o2, ys) : SlE)] rfl]; rfl
      · rw [hst, ← hrs]
        simp only [snds, List.map_append, List.map_cons, List.map_nil]
      · exact ((hO.out.mono (e2.trans (Ext.push K2 _))).killO (he.trans (e2.trans (Ext.push _ _))) (Nat.le_refl _)).push' _
    · have hk2 : k = c.outs.length := by simp at hge; omega
      subst hk2
      rw [List.take_of_length_le (Nat.le_refl _)] at hrs
      exact ⟨o', rs, rfl, hrs, hO.wide e1.next, e1.trans he⟩
theorem implRun_ec (H : Heap) (p q r a : Option Addr) (c : Code') (fs : List SlE) (hc : RdC H p q r c) (hin : RdSS H a fs) (h1 : c.ins.length ≤ 1048576) (h2 : c.steps.length ≤ 1048576) (h3 : c.outs.length ≤ 1048576) (hl : fs.length ≤ 1048576) (hx : ∀ e ∈ fs, e.2.length ≤ 1048576) :
    EC Try.prog 9 [cV p q r c, sv a fs] H (RR H c (snds fs)) := by
  refine EC_fn ctx (fun _ => true) Try.func9 rfl rfl rfl ?_
  refine ⟨_, implVerify_ec H p q r c hc h1 h2 h3, ?_, fun v K hR => by cases hR.1⟩
  rintro _ K0 ⟨hx', e0⟩
  cases hx'
  refine ⟨fun h => RR.bad (by unfold runR; rw [show verB c = false by simpa using h]; rfl) e0, fun h => ?_⟩
  have hvb : verB c = true := by simpa using h
  have hv := ver_of hvb
  refine ⟨_, inputsFit_pc K0 p a c.ins fs (hc.mono e0).ins (hin.mono e0) h1 hl, ?_, fun v K hR => by cases hR.1⟩
  rintro _ K0 ⟨hx', rfl⟩
  cases hx'
  refine ⟨fun h => RR.bad (by unfold runR; rw [hvb, show shapesB c.ins (snds fs) = false by simpa using h]; rfl) e0, fun h => ?_⟩
  have hsh : shapesB c.ins (snds fs) = true := by simpa using h
  have hfl : fs.length = c.ins.length := by
    have := of_decide_eq_true hsh
    have := congrArg List.length this
    simpa using this
  have hR : runR c (snds fs) = (runO c (snds fs), (c.steps.length : Int), 0) := by unfold runR; rw [hvb, hsh]; rfl
  refine ⟨.leaf [([0, 1, 3, 4, 5], some 2), ([6, 7, 8], none)] [3, 4, 5], by kernel_rfl, _, run_ec K0 p q r a c fs (hc.mono e0) (hin.mono e0) hv hsh hfl hx, ?_, fun v K hR => by obtain ⟨_, _, h, _⟩ := hR; cases h⟩
  rintro _ K ⟨o, es, hx', hsn, hO, he⟩
  cases hx'
  unfold RR
  rw [hR]
  exact ⟨o, es, rfl, hsn, e0.trans he, hO.wide e0.next⟩
end Go.Proofs.Ytanlmmfnpncpbaa
