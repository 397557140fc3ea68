/- RunCode: what it computes. Conditions: none that is not said. RunCode: the reference's cells and reads. Conditions: a verified code. RunCode, the reference's side. Conditions: lists of at most 2^20 elements. -/
import Derived.Test.YtanlmmfnpncpbaaVerb
import Derived.Test.YtanlmmfnpncpbaaEvc
set_option linter.unusedVariables false
set_option linter.unusedSimpArgs false
namespace Go.Proofs.Ytanlmmfnpncpbaa
open Go.Am

def svV (s : Step) : Val := ⟨s.op, s.len, 0, 0, s.c, s.k⟩
/-- What a cell holds after the first n steps. -/
def cellF (steps : List Step) (rs : List (List Nat)) : Nat → Int → Nat
  | 0, _ => 0
  | n + 1, x => match steps[n]? with
    | some s => if s.dst ≤ x ∧ x < s.dst + s.len then (((rs[n]?).getD [])[(x - s.dst).toNat]?).getD 0 else cellF steps rs n x
    | none => cellF steps rs n x
def readF (steps : List Step) (rs : List (List Nat)) (n : Nat) (off size : Int) : List Nat := (List.range size.toNat).map fun i : Nat => cellF steps rs n (off + i)
@[simp] theorem readF_len (steps : List Step) (rs : List (List Nat)) (n : Nat) (off size : Int) : (readF steps rs n off size).length = size.toNat := by simp [readF]
def rArg (steps : List Step) (rs : List (List Nat)) (n : Nat) (s : Step) (k : Nat) : List Nat := if (k : Int) < opnd s.op then readF steps rs n (stepField s k) (stepLen s k) else []
def rOne (steps : List Step) (xss rs : List (List Nat)) (n : Nat) (s : Step) : List Nat := if s.op = 0 then (xss[s.a.toNat]?).getD [] else kern (svV s) (rArg steps rs n s 0) (rArg steps rs n s 1) (rArg steps rs n s 2)
def resP (c : Code') (xss : List (List Nat)) : Nat → List (List Nat)
  | 0 => []
  | i + 1 => resP c xss i ++ [match c.steps[i]? with
    | some s => rOne c.steps xss (resP c xss i) i s
    | none => []]
@[simp] theorem resP_len (c : Code') (xss : List (List Nat)) : ∀ i, (resP c xss i).length = i
  | 0 => rfl
  | i + 1 => by simp [resP, resP_len c xss i]
theorem resP_succ {c : Code'} {xss : List (List Nat)} {i : Nat} {s : Step} (h : c.steps[i]? = some s) : resP c xss (i + 1) = resP c xss i ++ [rOne c.steps xss (resP c xss i) i s] := by
  simp only [resP, h]
theorem cellF_app (steps : List Step) (rs ts : List (List Nat)) : ∀ n x, n ≤ rs.length → cellF steps (rs ++ ts) n x = cellF steps rs n x
  | 0, x, h => rfl
  | n + 1, x, h => by
    simp only [cellF]
    rw [List.getElem?_append_left (by omega), cellF_app steps rs ts n x (by omega)]
def runO (c : Code') (xss : List (List Nat)) : List (List Nat) := c.outs.map fun o => readF c.steps (resP c xss c.steps.length) c.steps.length o.off o.len
def runR (c : Code') (xss : List (List Nat)) : List (List Nat) × Int × Int := if verB c = true then if shapesB c.ins xss = true then (runO c xss, c.steps.length, 0) else ([], 0, 4) else ([], 0, 1)

/-- What is known of a verified code, at a step. -/
structure VerS (c : Code') (i : Nat) (s : Step) : Prop where
  form : formB c.ins s = true
  len : 1 ≤ s.len ∧ s.len ≤ 1000
  dst : 0 ≤ s.dst ∧ s.dst ≤ c.peak - s.len
  arg : ∀ k : Nat, (k : Int) < opnd s.op → spanB c.peak c.steps i (stepField s k) (stepLen s k) = true ∧ 1 ≤ stepLen s k ∧ stepLen s k ≤ 1000 ∧ 0 ≤ stepField s k ∧ stepField s k ≤ c.peak - stepLen s k
  inp : s.op = 0 → 0 ≤ s.a ∧ s.a < c.ins.length ∧ (c.ins[s.a.toNat]?).getD 0 = s.len
structure Ver' (c : Code') : Prop where
  ins : c.ins.length ≤ 20
  steps : c.steps.length ≤ 2000
  outs : c.outs.length ≤ 50
  peak : 0 ≤ c.peak ∧ c.peak ≤ 50000
  insOk : ∀ n ∈ c.ins, 1 ≤ n ∧ n ≤ 1000
  step : ∀ (i : Nat) s, c.steps[i]? = some s → VerS c i s
  out : ∀ o ∈ c.outs, 1 ≤ o.len ∧ o.len ≤ 1000 ∧ 0 ≤ o.off ∧ o.off ≤ c.peak - o.len
theorem span_n {peak : Int} {steps : List Step} {n : Nat} {off size : Int} (h : spanB peak steps n off size = true) : 1 ≤ size ∧ size ≤ 1000 ∧ 0 ≤ off ∧ off ≤ peak - size := by
  simp only [spanB, Bool.and_eq_true, decide_eq_true_eq] at h
  exact h.1
theorem ver_of {c : Code'} (h : verB c = true) : Ver' c := by
  simp only [verB, Bool.and_eq_true, decide_eq_true_eq] at h
  obtain ⟨⟨⟨⟨⟨⟨v1, v2⟩, v3⟩, v4⟩, v5⟩, v6⟩, v7⟩ := h
  rw [List.all_eq_true] at v2 v6 v7
  refine ⟨v1, v3, v4, v5, fun n hn => by simpa [okLen] using v2 n hn, fun i s hi => ?_, fun o ho => span_n (v7 o ho)⟩
  have hst := v6 i (List.mem_range.2 (List.getElem?_eq_some_iff.1 hi).1)
  rw [stepAt_get hi] at hst
  simp only [stepB, Bool.and_eq_true, decide_eq_true_eq] at hst
  obtain ⟨⟨s1, s2⟩, s3⟩ := hst
  rw [List.all_eq_true] at s3
  have hop := opnd_range s.op
  have s1' := s1
  simp only [formB, Bool.and_eq_true, decide_eq_true_eq] at s1'
  obtain ⟨⟨⟨t1, t2⟩, _⟩, t6⟩ := s1'
  refine ⟨s1, by simpa [okLen] using t2, s2, fun k hk => ?_, fun h0 => ?_⟩
  · have := s3 k (List.mem_range.2 (by omega))
    simp only [opB, Bool.and_eq_true] at this
    exact ⟨this.1, span_n this.1⟩
  · rw [if_pos h0, decide_eq_true_eq] at t6
    exact t6.2
theorem fits_sv (s : Step) (a b c : Int) : fitsB (svV s) a b c = fitsB (stepVal s) a b c := rfl
theorem rArg_len {steps : List Step} {rs : List (List Nat)} {n : Nat} {s : Step} (k : Nat) : ((rArg steps rs n s k).length : Int) = if (k : Int) < opnd s.op then ((stepLen s k).toNat : Int) else 0 := by
  unfold rArg
  split <;> simp
theorem rArg_le {c : Code'} {rs : List (List Nat)} {i : Nat} {s : Step} (h : VerS c i s) (k : Nat) : (rArg c.steps rs i s k).length ≤ 1000 := by
  unfold rArg
  split
  · rename_i hk; have := h.arg k hk; simp; omega
  · simp
theorem shapes_get {ins : List Int} {xss : List (List Nat)} (h : shapesB ins xss = true) {i : Nat} (hi : i < ins.length) : i < xss.length ∧ (((xss[i]?).getD []).length : Int) = (ins[i]?).getD 0 := by
  have h := of_decide_eq_true h
  subst h
  simp at hi
  refine ⟨hi, ?_⟩
  simp [hi]
theorem opnd_pos {op : Int} (h0 : ¬ op = 0) (h1 : ¬ op = 1) : 1 ≤ opnd op := by
  unfold opnd
  rw [if_neg (by omega)]
  split
  · decide
  · split <;> decide
theorem rOne_len {c : Code'} {xss rs : List (List Nat)} {i : Nat} {s : Step} (h : VerS c i s) (hs : shapesB c.ins xss = true) : (rOne c.steps xss rs i s).length = s.len.toNat := by
  unfold rOne
  by_cases h0 : s.op = 0
  · rw [if_pos h0]
    obtain ⟨a0, a1, a2⟩ := h.inp h0
    have := (shapes_get hs (i := s.a.toNat) (by omega)).2
    omega
  · rw [if_neg h0]
    have hf := h.form
    simp only [formB, Bool.and_eq_true, decide_eq_true_eq] at hf
    obtain ⟨⟨⟨t1, t2⟩, _⟩, t6⟩ := hf
    rw [if_neg h0] at t6
    have hk : kOK (svV s) (rArg c.steps rs i s 0) (rArg c.steps rs i s 1) (rArg c.steps rs i s 2) = true := by
      unfold kOK
      rw [Bool.and_eq_true]
      refine ⟨?_, ?_⟩
      · unfold headB
        rw [Bool.and_eq_true, decide_eq_true_eq]
        exact ⟨show 1 ≤ s.op ∧ s.op ≤ 13 by omega, t2⟩
      · rw [fits_sv]
        by_cases h1 : s.op = 1
        · have hop : (stepVal s).op = 1 := h1
          unfold fitsB
          rw [if_neg (by rw [hop]; decide), if_neg (by omega), if_neg (by omega), if_neg (by omega), if_neg (by omega)]
        · rw [if_neg h1] at t6
          have hop : (stepVal s).op = s.op := rfl
          have hvl : (stepVal s).len = s.len := rfl
          have o1 := opnd_pos h0 h1
          have l0 : ((rArg c.steps rs i s 0).length : Int) = s.n := by
            rw [rArg_len, if_pos (by omega)]
            have := (h.arg 0 (by omega)).2.1
            simp only [stepLen] at this ⊢
            simp at this ⊢
            omega
          have l1 : 2 ≤ opnd s.op → ((rArg c.steps rs i s 1).length : Int) = s.len := fun h2 => by
            rw [rArg_len, if_pos (by omega)]
            have := h.len
            simp [stepLen]; omega
          have l2 : 3 ≤ opnd s.op → ((rArg c.steps rs i s 2).length : Int) = s.len := fun h2 => by
            rw [rArg_len, if_pos (by omega)]
            have := h.len
            simp [stepLen]; omega
          rw [l0]
          unfold fitsB at t6 ⊢
          rw [hop, hvl] at t6 ⊢
          by_cases he : eachB s.op = true
          · rw [if_pos he, decide_eq_true_eq] at t6 ⊢
            exact ⟨t6.1, fun h2 => l1 h2, fun h3 => l2 h3⟩
          · rw [if_neg he] at t6 ⊢
            exact t6
    unfold kern
    rw [if_pos hk]
    simp [svV]
/-- The arena after n steps. -/
def arenaL (c : Code') (xss : List (List Nat)) (n : Nat) : List Nat := (List.range c.peak.toNat).map fun x : Nat => cellF c.steps (resP c xss n) n x
@[simp] theorem arenaL_len (c : Code') (xss : List (List Nat)) (n : Nat) : (arenaL c xss n).length = c.peak.toNat := by simp [arenaL]
theorem arenaL_zero (c : Code') (xss : List (List Nat)) : arenaL c xss 0 = List.replicate c.peak.toNat 0 := by
  apply List.ext_getElem
  · simp
  · intro i h1 h2; simp [arenaL, cellF]
theorem arena_read {c : Code'} {xss : List (List Nat)} {n : Nat} {off size : Int} (h : 0 ≤ size ∧ 0 ≤ off ∧ off ≤ c.peak - size) : ((arenaL c xss n).drop off.toNat).take size.toNat = readF c.steps (resP c xss n) n off size := by
  apply List.ext_getElem
  · simp; omega
  · intro i h1 h2
    simp at h2
    simp only [arenaL, readF, List.getElem_take, List.getElem_drop, List.getElem_map, List.getElem_range]
    congr 1
    omega
theorem arena_step {c : Code'} {xss : List (List Nat)} {n : Nat} {s : Step} (hi : c.steps[n]? = some s) (h : VerS c n s) (hs : shapesB c.ins xss = true) :
    (arenaL c xss n).take s.dst.toNat ++ rOne c.steps xss (resP c xss n) n s ++ (arenaL c xss n).drop (s.dst.toNat + s.len.toNat) = arenaL c xss (n + 1) := by
  have hl := rOne_len (rs := resP c xss n) h hs
  have := h.len
  have := h.dst
  have htl : ((arenaL c xss n).take s.dst.toNat).length = s.dst.toNat := by simp; omega
  have hel : ∀ x : Nat, x < c.peak.toNat → (arenaL c xss n)[x]? = some (cellF c.steps (resP c xss n) n x) := fun x hx => by simp [arenaL, hx]
  have her : ∀ x : Nat, x < c.peak.toNat → (arenaL c xss (n + 1))[x]? = some (cellF c.steps (resP c xss (n + 1)) (n + 1) x) := fun x hx => by simp [arenaL, hx]
  apply List.ext_getElem?
  intro x
  by_cases hx : x < c.peak.toNat
  · rw [her x hx]
    simp only [cellF, hi]
    have hr9 : (resP c xss n ++ [rOne c.steps xss (resP c xss n) n s])[n]? = some (rOne c.steps xss (resP c xss n) n s) := by rw [List.getElem?_append_right (by simp)]; simp
    rw [resP_succ hi, hr9]
    by_cases hlo : x < s.dst.toNat
    · rw [if_neg (by omega), List.append_assoc, List.getElem?_append_left (by rw [htl]; exact hlo), cellF_app _ _ _ _ _ (by simp), List.getElem?_take, if_pos hlo, hel x hx]
    · by_cases hhi : x < s.dst.toNat + s.len.toNat
      · rw [if_pos (by omega), List.append_assoc, List.getElem?_append_right (by rw [htl]; omega), List.getElem?_append_left (by rw [hl, htl]; omega), htl]
        simp only [Option.getD_some]
        rw [show ((x : Int) - s.dst).toNat = x - s.dst.toNat by omega, List.getElem?_eq_getElem (by rw [hl]; omega)]
        rfl
      · have hal : ((arenaL c xss n).take s.dst.toNat ++ rOne c.steps xss (resP c xss n) n s).length = s.dst.toNat + s.len.toNat := by rw [List.length_append, htl, hl]
        rw [if_neg (by omega), List.getElem?_append_right (by rw [hal]; omega), cellF_app _ _ _ _ _ (by simp), hal, List.getElem?_drop, show s.dst.toNat + s.len.toNat + (x - (s.dst.toNat + s.len.toNat)) = x by omega, hel x hx]
  · rw [List.getElem?_eq_none (by simp [hl]; omega), List.getElem?_eq_none (by simp; omega)]
end Go.Proofs.Ytanlmmfnpncpbaa

set_option linter.unusedVariables false
namespace Go.Proofs.Ytanlmmfnpncpbaa
open Go.Am

theorem l5cell_pc (H : Heap) (p q r a : Option Addr) (c : Code') (es : List SlE) (n : Nat) (x : Int) (hc : RdC H p q r c) (hR : RdSS H a es) (hn : n ≤ es.length) (hn' : n ≤ c.steps.length) (hn2 : n ≤ 2000) (hx : 0 ≤ x ∧ x ≤ 200000)
    (hb : ∀ (j : Nat) (s : Step) (e : SlE), j < n → c.steps[j]? = some s → es[j]? = some e → 0 ≤ s.dst ∧ s.dst ≤ 50000 ∧ 1 ≤ s.len ∧ s.len ≤ 1000 ∧ e.2.length = s.len.toNat) :
    PC Try.prog 67 [cV p q r c, sv a es, .int .i64 n, .int .i64 x] H (.float .f64 (cellF c.steps (snds es) n x)) := by
  refine EC_fn ctx (fun _ => true) Try.func67 rfl rfl rfl ?_
  have hw0 : IntKind.i64.wrap ((n : Int) - 1) = (n : Int) - 1 := wrap_i64 (by omega) (by omega)
  refine loop_ind ctx (fun _ => true) (fun m E K => ∃ k : Nat, k ≤ n ∧ m = k ∧ E = ⟨[(1, sv a es), (3, .int .i64 x), (4, .pointer (some ⟨0, 0, some 0⟩)), (9, .int .i64 ((k : Int) - 1))], [vE0 p q r c]⟩ ∧ K = H ∧ cellF c.steps (snds es) n x = cellF c.steps (snds es) k x)
    (E0 := ⟨[(1, sv a es), (3, .int .i64 x), (4, .pointer (some ⟨0, 0, some 0⟩)), (9, .int .i64 ((n : Int) - 1))], [vE0 p q r c]⟩) ⟨n, Nat.le_refl _, rfl, rfl, rfl, rfl⟩ ⟨⟨rfl, trivial, rfl, trivial, rfl, rfl, congrArg (fun x => some (Value.int .i64 x)) hw0, trivial, trivial⟩, by (refine ⟨?_, ?_⟩ <;> repeat' first | exact trivial | exact congrArg (fun x => some (Value.int .i64 x)) (wrap_nat (by omega)) | exact sv_eq (by simp; done) | exact rfl | refine ⟨?_, ?_⟩ | fail)⟩ ?_
  rintro m E K ⟨k, hk, hm, rfl, rfl, hcf⟩
  refine ⟨fun hlt => ?_, fun hge => ?_⟩
  · have hpos : 1 ≤ k := by simp at hlt; omega
    obtain ⟨j, rfl⟩ : ∃ j, k = j + 1 := ⟨k - 1, by omega⟩
    have hj1 : j < c.steps.length := by omega
    have hj2 : j < es.length := by omega
    have hjj : (((j + 1 : Nat) : Int) - 1) = (j : Int) := by omega
    have hxs := List.getElem?_eq_getElem hj1
    have hxe := List.getElem?_eq_getElem hj2
    obtain ⟨b1, b2, b3, b4, b5⟩ := hb j _ _ (by omega) hxs hxe
    have hcell : cellF c.steps (snds es) (j + 1) x = if c.steps[j].dst ≤ x ∧ x < c.steps[j].dst + c.steps[j].len then ((es[j].2)[(x - c.steps[j].dst).toNat]?).getD 0 else cellF c.steps (snds es) j x := by
      simp only [cellF, hxs]
      simp [snds, hj2]
    rw [hjj]
    obtain ⟨b, o, rfl, hcs⟩ := hc.steps.step hxs
    obtain ⟨b', o', rfl, hce⟩ := hR.out.cell hxe
    have hin := hR.inn _ (List.getElem_mem hj2)
    generalize c.steps[j] = s at hxs b1 b2 b3 b4 b5 hcell hcs
    generalize es[j] = e at hxe b5 hcell hce hin
    have hw : IntKind.i64.wrap (s.dst + s.len) = s.dst + s.len := wrap_i64 (by omega) (by omega)
    refine ⟨⟨by omega, by omega⟩, stepV s, hcs, fun hy => ?_, fun hno => ?_⟩
    · have hy : s.dst ≤ x ∧ x < s.dst + s.len := by rw [hw] at hy; simpa using hy
      have hw2 : IntKind.i64.wrap (x - s.dst) = x - s.dst := wrap_i64 (by omega) (by omega)
      have hlt2 : (x - s.dst).toNat < e.2.length := by omega
      obtain ⟨b3, o3, hq, hc3⟩ := hin.cell (List.getElem?_eq_getElem hlt2)
      rw [hq] at hce
      refine ⟨.leaf [([0, 1, 2, 3, 4, 5, 6, 7, 8, 9, 10], none)] [], by kernel_rfl, ⟨by omega, by omega⟩, .slice (some ⟨b3, o3, none⟩) e.2.length e.2.length, hce, ⟨by rw [hw2]; omega, by rw [hw2]; omega⟩, .float .f64 (e.2[(x - s.dst).toNat]), by rw [hw2]; exact hc3, ?_⟩
      refine pflt ?_
      rw [hcf, hcell, if_pos hy, List.getElem?_eq_getElem hlt2]; rfl
    · have hno : ¬ (s.dst ≤ x ∧ x < s.dst + s.len) := by rw [hw] at hno; simp at hno ⊢; omega
      rw [if_neg hno] at hcell
      refine ⟨j, ⟨[(1, sv (some ⟨b', o', none⟩) es), (3, .int .i64 x), (4, .pointer (some ⟨0, 0, some 0⟩)), (9, .int .i64 ((j : Int) - 1))], [vE0 p (some ⟨b, o, none⟩) r c]⟩, by omega, ⟨⟨rfl, trivial, rfl, trivial, rfl, rfl, congrArg (fun x => some (Value.int .i64 x)) (wrap_i64 (by omega) (by omega)), trivial, trivial⟩, by (refine ⟨?_, ?_⟩ <;> repeat' first | exact trivial | exact congrArg (fun x => some (Value.int .i64 x)) (wrap_nat (by omega)) | exact sv_eq (by simp; done) | exact rfl | refine ⟨?_, ?_⟩ | fail)⟩, j, by omega, rfl, rfl, rfl, by rw [hcf, hcell]⟩
  · have hk0 : k = 0 := by simp at hge; omega
    subst hk0
    exact pflt (by rw [hcf]; rfl)
theorem l5read_ec (H : Heap) (p q r a : Option Addr) (c : Code') (es : List SlE) (n : Nat) (off size : Int) (hc : RdC H p q r c) (hR : RdSS H a es) (hn : n ≤ es.length) (hn' : n ≤ c.steps.length) (hn2 : n ≤ 2000) (hs : 1 ≤ size ∧ size ≤ 1000 ∧ 0 ≤ off ∧ off ≤ 50000)
    (hb : ∀ (j : Nat) (s : Step) (e : SlE), j < n → c.steps[j]? = some s → es[j]? = some e → 0 ≤ s.dst ∧ s.dst ≤ 50000 ∧ 1 ≤ s.len ∧ s.len ≤ 1000 ∧ e.2.length = s.len.toNat) :
    EC Try.prog 45 [cV p q r c, sv a es, .int .i64 n, .int .i64 off, .int .i64 size] H (CpR H (readF c.steps (snds es) n off size)) := by
  refine EC_fn ctx (fun _ => true) Try.func45 rfl rfl rfl ?_
  refine loop_ind ctx (fun _ => true) (fun m E K => ∃ (k : Nat) (o : Option Addr), k ≤ size.toNat ∧ m = size.toNat - k ∧ E = ⟨[(1, sv a es), (2, .int .i64 n), (3, .int .i64 off), (4, .int .i64 size), (5, .pointer (some ⟨0, 0, some 0⟩)), (11, .slice o k k), (12, .int .i64 k)], [vE0 p q r c]⟩ ∧ Buf dFlt K H.next o ((List.range k).map fun i : Nat => cellF c.steps (snds es) n (off + i)) ∧ Ext H K)
    ⟨0, none, Nat.zero_le _, rfl, rfl, .nil, Ext.refl _⟩ (by (refine ⟨?_, ?_⟩ <;> repeat' first | exact trivial | exact congrArg (fun x => some (Value.int .i64 x)) (wrap_nat (by omega)) | exact sv_eq (by simp; done) | exact rfl | refine ⟨?_, ?_⟩ | fail)) ?_
  rintro m E K ⟨k, o, hk, rfl, rfl, hbuf, he⟩
  refine ⟨fun hlt => ?_, fun hge => ?_⟩
  · have hlt : k < size.toNat := by simp at hlt; omega
    have hw : IntKind.i64.wrap (off + k) = off + k := wrap_i64 (by omega) (by omega)
    have hcall := l5cell_pc K p q r a c es n (off + k) (hc.mono he) (hR.mono he) hn hn' hn2 (by omega) hb
    rw [← hw] at hcall
    refine ⟨_, hcall, ?_, fun v K hR => by cases hR.1⟩
    rintro _ K ⟨hx, rfl⟩
    cases hx
    rw [hw]
    have hown := (hbuf.mono (Ext.push K (.cells [.float .f64 (cellF c.steps (snds es) n (off + k))] 1 true))).own
    rw [List.length_map, List.length_range] at hown
    refine ⟨_, run_push _ _ _ _ (by simp), by dsimp only; omega, by dsimp only; omega, _, hown, ?_⟩
    refine ⟨size.toNat - (k + 1), ⟨[(1, sv a es), (2, .int .i64 n), (3, .int .i64 off), (4, .int .i64 size), (5, .pointer (some ⟨0, 0, some 0⟩)), (11, .slice (some ⟨K.next + 1, 0, none⟩) (k + 1) (k + 1)), (12, .int .i64 ((k + 1 : Nat) : Int))], [vE0 p q r c]⟩, by omega, by (refine ⟨?_, ?_⟩ <;> repeat' first | exact trivial | exact congrArg (fun x => some (Value.int .i64 x)) (wrap_nat (by omega)) | exact sv_eq (by simp; done) | exact rfl | refine ⟨?_, ?_⟩ | fail), k + 1, some ⟨K.next + 1, 0, none⟩, by omega, rfl, rfl, ?_, ((hbuf.mono (Ext.push _ _)).killO (he.push' _) (Nat.le_refl _)).push' _⟩
    rw [List.range_succ, List.map_append]
    exact (hbuf.mono (Ext.push _ _)).app rfl (Nat.le_trans he.next (Nat.le_succ _))
  · have hk2 : k = size.toNat := by simp at hge; omega
    subst hk2
    exact ⟨o, ret_sv (by simp [readF]), he, hbuf⟩
end Go.Proofs.Ytanlmmfnpncpbaa

set_option linter.unusedVariables false
namespace Go.Proofs.Ytanlmmfnpncpbaa
open Go.Am

theorem res_facts {c : Code'} {xss : List (List Nat)} {es : List SlE} {k : Nat} (hv : Ver' c) (hs : shapesB c.ins xss = true) (hk : k ≤ c.steps.length) (hsn : snds es = resP c xss k) :
    ∀ (j : Nat) (s : Step) (e : SlE), j < k → c.steps[j]? = some s → es[j]? = some e → 0 ≤ s.dst ∧ s.dst ≤ 50000 ∧ 1 ≤ s.len ∧ s.len ≤ 1000 ∧ e.2.length = s.len.toNat := fun j s e hj hjs hje => by
  have hS := hv.step j s hjs
  have := hS.len
  have := hS.dst
  have := hv.peak
  refine ⟨by omega, by omega, by omega, by omega, ?_⟩
  have h1 : (resP c xss k)[j]? = some e.2 := by rw [← hsn]; simp [snds, hje]
  have key : ∀ m, j < m → m ≤ c.steps.length → (resP c xss m)[j]? = some (rOne c.steps xss (resP c xss j) j s) := by
    intro m
    induction m with
    | zero => intro h; omega
    | succ m ih =>
      intro hm hml
      have hlt : m < c.steps.length := by omega
      rw [resP_succ (List.getElem?_eq_getElem hlt)]
      by_cases hjm : j = m
      · subst hjm
        have hsj : c.steps[j] = s := by rw [List.getElem?_eq_getElem hlt] at hjs; exact Option.some.inj hjs
        rw [List.getElem?_append_right (by simp), hsj]; simp
      · rw [List.getElem?_append_left (by simp; omega)]
        exact ih (by omega) (by omega)
  rw [key k hj hk] at h1
  rw [← Option.some.inj h1]
  exact rOne_len hS hs
set_option maxHeartbeats 2000000 in
theorem l5run_ec (H : Heap) (p q r a : Option Addr) (c : Code') (fs : List SlE) (hc : RdC H p q r c) (hin : RdSS H a fs) (hv : Ver' c) (hs : shapesB c.ins (snds fs) = true) (hfl : fs.length = c.ins.length) (hx : ∀ e ∈ fs, e.2.length ≤ 1048576) :
    EC Try.prog 21 [cV p q r c, sv a fs] H fun R K => ∃ o es, R = .ret (sv o es) ∧ snds es = runO c (snds fs) ∧ OwnSS K H.next o es ∧ Ext H K := by
  have hvl := hv.steps
  have hvo := hv.outs
  have hvp := hv.peak
  refine EC_fn ctx (fun _ => true) Try.func21 rfl rfl rfl ?_
  refine loop_ind ctx (fun _ => true) (fun m E K => ∃ (k : Nat) (o : Option Addr) (es : List SlE), k ≤ c.steps.length ∧ m = c.steps.length - k ∧ E = ⟨[(1, sv a fs), (2, .pointer (some ⟨0, 0, some 0⟩)), (5, sv o es), (6, .int .i64 k)], [vE0 p q r c]⟩ ∧ snds es = resP c (snds fs) k ∧ Vals H K o es)
    ⟨0, none, [], Nat.zero_le _, rfl, rfl, rfl, Vals.nil H⟩ (by (refine ⟨?_, ?_⟩ <;> repeat' first | exact trivial | exact congrArg (fun x => some (Value.int .i64 x)) (wrap_nat (by omega)) | exact sv_eq (by simp; done) | exact rfl | refine ⟨?_, ?_⟩ | fail)) ?_
  rintro m E K ⟨k, o, es, hk, rfl, rfl, hsn, hV⟩
  have hel : es.length = k := by have := congrArg List.length hsn; simpa using this
  have hrf := res_facts hv hs hk hsn
  refine ⟨fun hlt => ?_, fun hge => ?_⟩
  · have hlt : k < c.steps.length := by simpa using hlt
    have hxv := List.getElem?_eq_getElem hlt
    have hS := hv.step k _ hxv
    have hev := resP_succ (xss := snds fs) hxv
    obtain ⟨b, f, rfl, hcs⟩ := (hc.steps.mono hV.extK).step hxv
    generalize c.steps[k] = s at hxv hS hev hcs
    have hdl := hS.len
    refine ⟨⟨by omega, by omega⟩, stepV s, hcs, fun h0 => ?_, fun h0 => ?_⟩
    · have h0 : s.op = 0 := by simpa using h0
      obtain ⟨a0, a1, a2⟩ := hS.inp h0
      have haf : s.a.toNat < fs.length := by omega
      obtain ⟨b2, f2, rfl, hc2⟩ := (hin.out.mono hV.extK).cell (List.getElem?_eq_getElem haf)
      have hr2 := (hin.inn _ (List.getElem_mem haf)).mono hV.extK
      refine ⟨⟨by omega, by omega⟩, _, hc2, _, l1copy_ec K _ _ hr2 (hx _ (List.getElem_mem haf)), ?_, fun v K hR => by obtain ⟨_, h, _⟩ := hR; cases h⟩
      rintro _ K2 ⟨o2, hx', e2, hb2⟩
      cases hx'
      have hown := ((hV.buf.mono e2).mono (Ext.push K2 (.cells [.slice o2 fs[s.a.toNat].2.length fs[s.a.toNat].2.length] 1 true))).own
      refine ⟨_, run_push _ _ _ _ (by simp), by dsimp only; omega, by dsimp only; omega, _, hown, ?_⟩
      refine ⟨c.steps.length - (k + 1), ⟨[(1, sv (some ⟨b2, f2, none⟩) fs), (2, .pointer (some ⟨0, 0, some 0⟩)), (5, .slice (some ⟨K2.next + 1, 0, none⟩) (es.length + 1) (es.length + 1)), (6, .int .i64 ((k + 1 : Nat) : Int))], [vE0 p (some ⟨b, f, none⟩) r c]⟩, by omega, by (refine ⟨?_, ?_⟩ <;> repeat' first | exact trivial | exact congrArg (fun x => some (Value.int .i64 x)) (wrap_nat (by omega)) | exact sv_eq (by simp; done) | exact rfl | refine ⟨?_, ?_⟩ | fail), k + 1, some ⟨K2.next + 1, 0, none⟩, es ++ [(o2, fs[s.a.toNat].2)], by omega, rfl, ?_, ?_, hV.app e2 hb2 _ rfl⟩
      · rw [← sv_snoc _ es [((o2, fs[s.a.toNat].2) : SlE)] rfl]; rfl
      · rw [hev]
        simp only [snds, List.map_append, List.map_cons, List.map_nil] at hsn ⊢
        rw [hsn]
        unfold rOne
        rw [if_pos h0]
        simp [haf]
    · have h0 : ¬ s.op = 0 := by simpa using h0
      have ho3 := opnd_range s.op
      refine loop_ind ctx (fun _ => true) (fun m E K' => ∃ (j : Nat) (o8 : Option Addr) (as8 : List SlE), j ≤ 3 ∧ m = 3 - j ∧ E = ⟨[(1, sv a fs), (2, .pointer (some ⟨0, 0, some 0⟩)), (5, sv o es), (6, .int .i64 k), (7, .pointer (some ⟨1, 0, some 0⟩)), (8, .slice o8 j j), (9, .int .i64 j)], [vE0 p (some ⟨b, f, none⟩) r c, stepcells s]⟩ ∧ as8.length = j ∧ snds as8 = (List.range j).map (rArg c.steps (resP c (snds fs) k) k s) ∧ Vals K K' o8 as8)
        ⟨0, none, [], Nat.zero_le _, rfl, rfl, rfl, rfl, Vals.nil K⟩ (by (refine ⟨?_, ?_⟩ <;> repeat' first | exact trivial | exact congrArg (fun x => some (Value.int .i64 x)) (wrap_nat (by omega)) | exact sv_eq (by simp; done) | exact rfl | refine ⟨?_, ?_⟩ | fail)) ?_
      rintro m E K' ⟨j, o8, as8, hj, rfl, rfl, hal, hsa, hV8⟩
      refine ⟨fun hlj => ?_, fun hgj => ?_⟩
      · have hlj : j < 3 := by simp at hlj; omega
        have he8 := hV8.extK
        refine ⟨_, l1operands_pc K' _, ?_, fun v K hR => by cases hR.1⟩
        rintro _ K' ⟨hx', rfl⟩
        cases hx'
        refine ⟨fun hjo => ?_, fun hjo => ?_⟩
        · have hjo : (j : Int) < opnd s.op := by simpa using hjo
          obtain ⟨q0, q1, q2, q3, q4⟩ := hS.arg j hjo
          have hread := l5read_ec K' p (some ⟨b, f, none⟩) r o c es k (stepField s j) (stepLen s j) ((hc.mono hV.extK).mono he8) (hV.ss.mono he8) (by omega) (by omega) (by omega) (by omega) hrf
          refine ⟨.leaf [([0, 1, 2, 3, 4, 5, 6, 7, 8, 9], some 10), ([], some 11), ([], some 12), ([13], none)] [0], by kernel_rfl, _, l5stepField_pc K' s j, _, l5operandLen_pc K' s j, _, hread, ?_, fun v K hR => by obtain ⟨_, h, _⟩ := hR; cases h⟩
          rintro _ K2 ⟨o2, hx', e2, hb2⟩
          cases hx'
          have hown := ((hV8.buf.mono e2).mono (Ext.push K2 (.cells [.slice o2 (readF c.steps (snds es) k (stepField s j) (stepLen s j)).length (readF c.steps (snds es) k (stepField s j) (stepLen s j)).length] 1 true))).own
          rw [hal] at hown
          refine ⟨_, run_push _ _ _ _ (by simp), by dsimp only; omega, by dsimp only; omega, _, hown, ?_⟩
          refine ⟨3 - (j + 1), ⟨[(1, sv a fs), (2, .pointer (some ⟨0, 0, some 0⟩)), (5, sv o es), (6, .int .i64 k), (7, .pointer (some ⟨1, 0, some 0⟩)), (8, .slice (some ⟨K2.next + 1, 0, none⟩) (j + 1) (j + 1)), (9, .int .i64 ((j + 1 : Nat) : Int))], [vE0 p (some ⟨b, f, none⟩) r c, stepcells s]⟩, by omega, by (refine ⟨?_, ?_⟩ <;> repeat' first | exact trivial | exact congrArg (fun x => some (Value.int .i64 x)) (wrap_nat (by omega)) | exact sv_eq (by simp; done) | exact rfl | refine ⟨?_, ?_⟩ | fail), j + 1, some ⟨K2.next + 1, 0, none⟩, _, by omega, rfl, rfl, by simp [hal], ?_, hV8.app e2 hb2 _ rfl⟩
          rw [List.range_succ, List.map_append, ← hsa]
          simp only [snds, List.map_append, List.map_cons, List.map_nil]
          congr 2
          unfold rArg
          rw [if_pos hjo, ← hsn]
        · have hjo : ¬ (j : Int) < opnd s.op := by simpa using hjo
          have hown := (hV8.buf.mono (Ext.push K' (.cells [.slice none 0 0] 1 true))).own
          rw [hal] at hown
          refine ⟨_, run_push _ _ _ _ (by simp), by dsimp only; omega, by dsimp only; omega, _, hown, ?_⟩
          refine ⟨3 - (j + 1), ⟨[(1, sv a fs), (2, .pointer (some ⟨0, 0, some 0⟩)), (5, sv o es), (6, .int .i64 k), (7, .pointer (some ⟨1, 0, some 0⟩)), (8, .slice (some ⟨K'.next + 1, 0, none⟩) (j + 1) (j + 1)), (9, .int .i64 ((j + 1 : Nat) : Int))], [vE0 p (some ⟨b, f, none⟩) r c, stepcells s]⟩, by omega, by (refine ⟨?_, ?_⟩ <;> repeat' first | exact trivial | exact congrArg (fun x => some (Value.int .i64 x)) (wrap_nat (by omega)) | exact sv_eq (by simp; done) | exact rfl | refine ⟨?_, ?_⟩ | fail), j + 1, some ⟨K'.next + 1, 0, none⟩, _, by omega, rfl, rfl, by simp [hal], ?_, hV8.app (Ext.refl _) (.nil : Buf dFlt K' K'.next none []) _ rfl⟩
          rw [List.range_succ, List.map_append, ← hsa]
          simp only [snds, List.map_append, List.map_cons, List.map_nil]
          congr 2
          unfold rArg
          rw [if_neg hjo]
      have hj3 : j = 3 := by simp at hgj; omega
      subst hj3
      match as8, hal, hsa, hV8 with
      | [e0, e1, e2_], _, hsa, hV8 =>
        have q0 : e0.2 = rArg c.steps (resP c (snds fs) k) k s 0 := by have := congrArg (fun l : List (List Nat) => l[0]?) hsa; simpa using this
        have q1 : e1.2 = rArg c.steps (resP c (snds fs) k) k s 1 := by have := congrArg (fun l : List (List Nat) => l[1]?) hsa; simpa using this
        have q2 : e2_.2 = rArg c.steps (resP c (snds fs) k) k s 2 := by have := congrArg (fun l : List (List Nat) => l[2]?) hsa; simpa using this
        have hal : ∀ i, (rArg c.steps (resP c (snds fs) k) k s i).length ≤ 1048576 := fun i => Nat.le_trans (rArg_le hS i) (by decide)
        have hss := hV8.ss
        obtain ⟨b8, f8, rfl, c0⟩ := hss.out.cell (show [e0, e1, e2_][0]? = some e0 from rfl)
        obtain ⟨b8', f8', hq, c1⟩ := hss.out.cell (show [e0, e1, e2_][1]? = some e1 from rfl)
        cases hq
        obtain ⟨b8', f8', hq, c2⟩ := hss.out.cell (show [e0, e1, e2_][2]? = some e2_ from rfl)
        cases hq
        have hker := specKernel_ec K' e0.1 e1.1 e2_.1 (svV s) e0.2 e1.2 e2_.2 (hss.inn e0 (by simp)) (hss.inn e1 (by simp)) (hss.inn e2_ (by simp)) (by rw [q0]; exact hal 0) (by rw [q1]; exact hal 1) (by rw [q2]; exact hal 2)
        refine ⟨.leaf [([0, 1, 2, 3, 4, 5, 6, 7, 8, 9, 10], some 11), ([], some 12), ([], some 13), ([14], none)] [0], by kernel_rfl, ⟨by omega, by omega⟩, _, c0, ⟨by omega, by omega⟩, _, c1, ⟨by omega, by omega⟩, _, c2, _, hker, ?_, fun v K hR => by obtain ⟨_, h, _⟩ := hR; cases h⟩
        rintro _ K2 ⟨o2, hx', e2, hb2⟩
        cases hx'
        have e3 : Ext K K2 := hV8.extK.trans e2
        have hown := ((hV.buf.mono e3).mono (Ext.push K2 (.cells [.slice o2 (kern (svV s) e0.2 e1.2 e2_.2).length (kern (svV s) e0.2 e1.2 e2_.2).length] 1 true))).own
        refine ⟨_, run_push _ _ _ _ (by simp), by dsimp only; omega, by dsimp only; omega, _, hown, ?_⟩
        refine ⟨c.steps.length - (k + 1), ⟨[(1, sv a fs), (2, .pointer (some ⟨0, 0, some 0⟩)), (5, .slice (some ⟨K2.next + 1, 0, none⟩) (es.length + 1) (es.length + 1)), (6, .int .i64 ((k + 1 : Nat) : Int))], [vE0 p (some ⟨b, f, none⟩) r c]⟩, by omega, by (refine ⟨?_, ?_⟩ <;> repeat' first | exact trivial | exact congrArg (fun x => some (Value.int .i64 x)) (wrap_nat (by omega)) | exact sv_eq (by simp; done) | exact rfl | refine ⟨?_, ?_⟩ | fail), k + 1, some ⟨K2.next + 1, 0, none⟩, es ++ [(o2, kern (svV s) e0.2 e1.2 e2_.2)], by omega, rfl, ?_, ?_, hV.app e3 (hb2.wide hV8.extK.next) _ rfl⟩
        · rw [← sv_snoc _ es [((o2, kern (svV s) e0.2 e1.2 e2_.2) : SlE)] rfl]; rfl
        · rw [hev]
          simp only [snds, List.map_append, List.map_cons, List.map_nil] at hsn ⊢
          rw [hsn]
          unfold rOne
          rw [if_neg h0, q0, q1, q2]
  have hk2 : k = c.steps.length := by simp at hge; omega
  subst hk2
  have e1 := hV.extK
  refine loop_ind ctx (fun _ => true) (fun m E K' => ∃ (k : Nat) (o' : Option Addr) (rs : List SlE), k ≤ c.outs.length ∧ m = c.outs.length - k ∧ E = ⟨[(2, .pointer (some ⟨0, 0, some 0⟩)), (5, sv o es), (11, sv o' rs), (12, .int .i64 k)], [vE0 p q r c]⟩ ∧ rs.length = k ∧ snds rs = (c.outs.take k).map (fun o => readF c.steps (resP c (snds fs) c.steps.length) c.steps.length o.off o.len) ∧ OwnSS K' K.next o' rs ∧ Ext K K')
    ⟨0, none, [], Nat.zero_le _, rfl, rfl, rfl, rfl, OwnSS.nil _ _, Ext.refl _⟩ (by (refine ⟨?_, ?_⟩ <;> repeat' first | exact trivial | exact congrArg (fun x => some (Value.int .i64 x)) (wrap_nat (by omega)) | exact sv_eq (by simp; done) | exact rfl | refine ⟨?_, ?_⟩ | fail)) ?_
  rintro m E K' ⟨k, o', rs, hk, rfl, rfl, hrl, hrs, hO, he⟩
  refine ⟨fun hlt => ?_, fun hge => ?_⟩
  · have hlt : k < c.outs.length := by simpa using hlt
    have hxv := List.getElem?_eq_getElem hlt
    obtain ⟨o1, o2_, o3, o4⟩ := hv.out _ (List.getElem_mem hlt)
    obtain ⟨b, f, rfl, c0, c1⟩ := ((hc.outs.mono e1).mono he).spanF hxv
    have hread := l5read_ec K' p q (some ⟨b, f, none⟩) o c es c.steps.length c.outs[k].off c.outs[k].len ((hc.mono e1).mono he) (hV.ss.mono he) (by omega) (by omega) (by omega) (by omega) hrf
    refine ⟨.leaf [([0, 1, 2, 3, 4, 5, 6, 7, 8, 9, 10, 11, 12, 13, 14, 15, 16, 17], some 18), ([], some 19), ([], some 20), ([21], none)] [0], by kernel_rfl, ⟨by omega, by omega⟩, _, c0, ⟨by omega, by omega⟩, _, c1, _, hread, ?_, fun v K hR => by obtain ⟨_, h, _⟩ := hR; cases h⟩
    rintro _ K2 ⟨o2, hx', e2, hb2⟩
    cases hx'
    have hown := ((hO.out.mono e2).mono (Ext.push K2 (.cells [.slice o2 (readF c.steps (snds es) c.steps.length c.outs[k].off c.outs[k].len).length (readF c.steps (snds es) c.steps.length c.outs[k].off c.outs[k].len).length] 1 true))).own
    refine ⟨_, run_push _ _ _ _ (by simp), by dsimp only; omega, by dsimp only; omega, _, hown, ?_⟩
    refine ⟨c.outs.length - (k + 1), ⟨[(2, .pointer (some ⟨0, 0, some 0⟩)), (5, sv o es), (11, .slice (some ⟨K2.next + 1, 0, none⟩) (rs.length + 1) (rs.length + 1)), (12, .int .i64 ((k + 1 : Nat) : Int))], [vE0 p q (some ⟨b, f, none⟩) c]⟩, by omega, by (refine ⟨?_, ?_⟩ <;> repeat' first | exact trivial | exact congrArg (fun x => some (Value.int .i64 x)) (wrap_nat (by omega)) | exact sv_eq (by simp; done) | exact rfl | refine ⟨?_, ?_⟩ | fail), k + 1, some ⟨K2.next + 1, 0, none⟩, rs ++ [(o2, readF c.steps (snds es) c.steps.length c.outs[k].off c.outs[k].len)], by omega, rfl, ?_, by simp [hrl], ?_, hO.app he.next e2 hb2 _ rfl, ?_⟩
    · rw [← sv_snoc _ rs [((o2, readF c.steps (snds es) c.steps.length c.outs[k].off c.outs[k].len) : SlE)] rfl]; rfl
    · rw [List.take_succ_eq_append_getElem hlt, List.map_append, ← hrs, hsn]
      simp only [snds, List.map_append, List.map_cons, List.map_nil]
    · exact ((hO.out.mono (e2.trans (Ext.push K2 _))).killO (he.trans (e2.trans (Ext.push _ _))) (Nat.le_refl _)).push' _
  · have hk2 : k = c.outs.length := by simp at hge; omega
    subst hk2
    rw [List.take_of_length_le (Nat.le_refl _)] at hrs
    exact ⟨o', rs, rfl, hrs, hO.wide e1.next, e1.trans he⟩
def RR (H : Heap) (c : Code') (xss : List (List Nat)) (R : AEnd) (K : Heap) : Prop := ∃ o es, R = .ret (.tuple #[sv o es, .int .i64 (runR c xss).2.1, .int .i64 (runR c xss).2.2]) ∧ snds es = (runR c xss).1 ∧ Ext H K ∧ OwnSS K H.next o es
theorem RR.bad {H K : Heap} {c : Code'} {xss : List (List Nat)} {n m : Int} (h : runR c xss = ([], n, m)) (e : Ext H K) : RR H c xss (.ret (.tuple #[.slice none 0 0, .int .i64 n, .int .i64 m])) K := by
  unfold RR
  rw [h]
  exact ⟨none, [], rfl, rfl, e, OwnSS.nil _ _⟩
theorem specRun_ec (H : Heap) (p q r a : Option Addr) (c : Code') (fs : List SlE) (hc : RdC H p q r c) (hin : RdSS H a fs) (h1 : c.ins.length ≤ 1048576) (h2 : c.steps.length ≤ 1048576) (h3 : c.outs.length ≤ 1048576) (hl : fs.length ≤ 1048576) (hx : ∀ e ∈ fs, e.2.length ≤ 1048576) :
    EC Try.prog 6 [cV p q r c, sv a fs] H (RR H c (snds fs)) := by
  refine EC_fn ctx (fun _ => true) Try.func6 rfl rfl rfl ?_
  refine ⟨_, specVerify_pc H p q r c hc h1 h2 h3, ?_, fun v K hR => by cases hR.1⟩
  rintro _ H ⟨hx', rfl⟩
  cases hx'
  refine ⟨fun h => RR.bad (by unfold runR; rw [show verB c = false by simpa using h]; rfl) (Ext.refl _), fun h => ?_⟩
  have hvb : verB c = true := by simpa using h
  have hv := ver_of hvb
  refine ⟨_, l1shapes_pc H p a c.ins fs hc.ins hin h1 hl, ?_, fun v K hR => by cases hR.1⟩
  rintro _ H ⟨hx', rfl⟩
  cases hx'
  refine ⟨fun h => RR.bad (by unfold runR; rw [hvb, show shapesB c.ins (snds fs) = false by simpa using h]; rfl) (Ext.refl _), fun h => ?_⟩
  have hsh : shapesB c.ins (snds fs) = true := by simpa using h
  have hfl : fs.length = c.ins.length := by
    have := of_decide_eq_true hsh
    have := congrArg List.length this
    simpa using this
  have hR : runR c (snds fs) = (runO c (snds fs), (c.steps.length : Int), 0) := by unfold runR; rw [hvb, hsh]; rfl
  refine ⟨.leaf [([0, 1, 3, 4, 5], some 2), ([6, 7, 8], none)] [3, 4, 5], by kernel_rfl, _, l5run_ec H p q r a c fs hc hin hv hsh hfl hx, ?_, fun v K hR => by obtain ⟨_, _, h, _⟩ := hR; cases h⟩
  rintro _ K ⟨o, es, hx', hsn, hO, he⟩
  cases hx'
  unfold RR
  rw [hR]
  exact ⟨o, es, rfl, hsn, he, hO⟩
end Go.Proofs.Ytanlmmfnpncpbaa
