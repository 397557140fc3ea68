/- The program's passes that share: negations, units, common values. Conditions: those of each. commonPass: the program's. Conditions: those of each. -/
import Derived.Test.YtjmobjiaoklfdaaPsg
set_option linter.unusedVariables false
set_option linter.unusedSimpArgs false
namespace Go.Proofs.Ytjmobjiaoklfdaa
open Go.Am
open FlCore (canon isNan)

/-- What a pass of the program's answers. -/
def PR (H : Heap) (lo hi : Nat) (g' : Graph) (e : AEnd) (K : Heap) : Prop := ∃ p q r, e = .ret (gV p q r g') ∧ OwnG K lo K.next p q r g' ∧ Out lo H.next H K
theorem PR.no {H K : Heap} {lo hi : Nat} {g : Graph} {v : Value} (h : PR H lo hi g (.pan v) K) : False := by obtain ⟨_, _, _, h, _⟩ := h; cases h
theorem OwnG.upX {K : Heap} {lo hi hi' : Nat} {p q r : Option Addr} {g : Graph} (h : OwnG K lo hi p q r g) (e : hi ≤ hi') : OwnG K lo hi' p q r g :=
  ⟨h.i, h.s, h.o, ⟨fun b f hh => Nat.lt_of_lt_of_le (h.hi_.1 b f hh) e, fun b f hh => Nat.lt_of_lt_of_le (h.hi_.2.1 b f hh) e, fun b f hh => Nat.lt_of_lt_of_le (h.hi_.2.2 b f hh) e⟩, h.ne⟩
/-- What the test of negPass says. -/
def negX (vals : List Val) (w : Val) : Int := if w.op = 6 ∧ (vAtI vals w.a).op = 6 then (vAtI vals w.a).a else -1
theorem neg1_pc (H : Heap) (q : Option Addr) (vals : List Val) (w : Val) (k : Int) (h : Rd dVal H q vals) (hw : w.op = 6 → 0 ≤ w.a ∧ w.a < vals.length) :
    PC Try.prog 72 [sv q vals, valV w, .int .i64 k] H (.int .i64 (negX vals w)) := by
  by_cases h6 : w.op = 6
  · have ha := hw h6
    obtain ⟨b, o, rfl⟩ := rdV_some h (by omega)
    obtain ⟨c0, _, c2, _, _⟩ := valF_at h ha.1 ha.2
    refine EC_fn ctx (fun _ => true) Try.func72 rfl rfl rfl ?_
    refine ⟨fun _ => ⟨ha.1, ha.2⟩, .int .i64 (vAtI vals w.a).op, fun _ => c0, fun h66 => ?_, fun h66 => ?_⟩
    · have h2 : (vAtI vals w.a).op = 6 := by rw [h6] at h66; simpa using h66
      refine ⟨⟨ha.1, ha.2⟩, .int .i64 (vAtI vals w.a).a, c2, ?_, rfl⟩
      unfold negX; rw [if_pos ⟨h6, h2⟩]; rfl
    · have h2 : ¬ (vAtI vals w.a).op = 6 := by rw [h6] at h66; simpa using h66
      refine ⟨?_, rfl⟩
      unfold negX; rw [if_neg (fun e => h2 e.2)]; rfl
  · have hx : negX vals w = -1 := by unfold negX; rw [if_neg (fun e => h6 e.1)]
    rw [hx]
    have hc : (w.op == 6) = false := by simpa using h6
    refine EC_fn ctx (fun _ => true) Try.func72 rfl rfl rfl ?_
    cases q with
    | none => exact ⟨fun h => by simp [h6] at h, .int .i64 0, fun h => by simp [h6] at h, fun h => by simp [h6] at h, fun _ => ⟨rfl, rfl⟩⟩
    | some ad =>
      obtain ⟨b, o, sp⟩ := ad
      rcases h.sh with e | ⟨b', o', e⟩
      · cases e
      cases e
      exact ⟨fun h => by simp [h6] at h, .int .i64 0, fun h => by simp [h6] at h, fun h => by simp [h6] at h, fun _ => ⟨rfl, rfl⟩⟩
theorem negPass_ec (H : Heap) (lo hi : Nat) (p q r : Option Addr) (g : Graph) (hv : validB g = true) (og : OwnG H lo hi p q r g) (hlo : lo ≤ hi) (hn : hi ≤ H.next) :
    EC Try.prog 54 [gV p q r g] H (PR H lo hi (shared sameNeg g)) := by
  refine EC_fn ctx (fun _ => true) Try.func54 rfl rfl rfl ?_
  have hsok : ∀ k, k ≤ g.vals.length → ShOK sameNeg g.vals k := sh_ok sameNeg_ok (valid_ops hv)
  refine ⟨_, sharing_ec H lo hi hi hi p q r g hv og hlo (Nat.le_refl _) (Nat.le_refl _) hn sameNeg sameNeg_ok 72 #[] (fun _ _ => True) (fun _ _ _ _ _ => trivial) trivial (fun k K hk _ hr hw => ?_), ?_, fun v K hR => by cases hR.1⟩
  · have ok := hsok k (by omega)
    have ok1 := hsok (k + 1) (by omega)
    have hwa : (withV g.vals[k] (sh sameNeg g.vals k).2).op = 6 → 0 ≤ (withV g.vals[k] (sh sameNeg g.vals k).2).a ∧ (withV g.vals[k] (sh sameNeg g.vals k).2).a < k := fun e => hw.a (by rw [e]; decide)
    have hpc := neg1_pc K q (cur g.vals sameNeg (k + 1)) (withV g.vals[k] (sh sameNeg g.vals k).2) k hr (fun e => by have := hwa e; rw [cur_len ok1 (by omega)]; omega)
    refine EC.mono hpc fun e K' ⟨h1, h2⟩ => ?_
    subst h2
    refine ⟨_, h1, ?_, trivial, Out.of_ext (Ext.refl _)⟩
    generalize withV g.vals[k] (sh sameNeg g.vals k).2 = w at *
    have hneg : negX (cur g.vals sameNeg (k + 1)) w = if w.op = 6 ∧ (vAtI (sh sameNeg g.vals k).1 w.a).op = 6 then (vAtI (sh sameNeg g.vals k).1 w.a).a else -1 := by
      unfold negX
      by_cases h6 : w.op = 6
      · have ha := hwa h6
        rw [cur_at ok ha.1 ha.2 hk]
      · simp [h6]
    rw [hneg]
    rw [show ∀ vs v, sameNeg vs v = if v.op = 6 ∧ (vAtI vs v.a).op = 6 then (vAtI vs v.a).a else (vs.length : Int) from fun _ _ => rfl, ok.l1]
    by_cases hc : w.op = 6 ∧ (vAtI (sh sameNeg g.vals k).1 w.a).op = 6
    · have ha := hwa hc.1
      have := (ok.ops w.a.toNat _ (vAtI_get ha.1 (by rw [ok.l1]; exact ha.2))).a (by rw [hc.2]; decide)
      simp only [if_pos hc]
      rw [if_pos this.1]
    · simp only [if_neg hc]
      rfl
  · rintro v K ⟨hx, og', o⟩
    cases hx
    exact ⟨p, q, r, rfl, og'.upX (Nat.le_trans hn o.next), o⟩
theorem constant_pc (H : Heap) (v : Val) (k : Nat) : PC Try.prog 75 [valV v, .float .f64 k] H (.bool (decide (v.op = 1) && (v.k == k))) := by
  refine EC_fn ctx (fun _ => true) Try.func75 rfl rfl rfl ?_
  refine ⟨.bool (v.k == k), fun _ => implSame_pc _ _ _, pbool ?_⟩
  cases hh : decide (v.op = 1) <;> simp at hh <;> simp [hh]
/-- What the test of unitPass says. -/
def unitX (vals : List Val) (v : Val) : Int :=
  if v.op = 4 ∧ constB vals v.b ONE = true then v.a else
  if v.op = 4 ∧ constB vals v.a ONE = true then v.b else
  if v.op = 5 ∧ constB vals v.b ONE = true then v.a else
  if v.op = 3 ∧ constB vals v.b 0 = true then v.a else
  if v.op = 2 ∧ constB vals v.b MZ = true then v.a else
  if v.op = 2 ∧ constB vals v.a MZ = true then v.b else -1
theorem unitX_eq (vals : List Val) (v : Val) : unitX vals v = unitI vals v := by
  unfold unitX unitI
  by_cases h4 : v.op = 4
  · simp [h4]
  · by_cases h5 : v.op = 5
    · simp [h4, h5]
    · simp [h4, h5]
theorem unit1_pc (H : Heap) (q : Option Addr) (vals : List Val) (w : Val) (k : Int) (B : Nat) (h : Rd dVal H q vals) (hB : H.cell? B 0 = some (.float .f64 MZ)) (hw : OpsIn w vals.length) (hq : ∃ b o, q = some ⟨b, o, none⟩) :
    PC Try.prog 74 [sv q vals, valV w, .int .i64 k, .pointer (some ⟨B, 0, none⟩)] H (.int .i64 (unitI vals w)) := by
  rw [← unitX_eq]
  obtain ⟨b, o, rfl⟩ := hq
  have hin : (w.op = 2 ∨ w.op = 3 ∨ w.op = 4 ∨ w.op = 5) → (0 ≤ w.a ∧ w.a < vals.length) ∧ (0 ≤ w.b ∧ w.b < vals.length) := fun hop => by
    have := opnd2 hop
    exact ⟨hw.a (by omega), hw.b (by omega)⟩
  have ca : (w.op = 2 ∨ w.op = 3 ∨ w.op = 4 ∨ w.op = 5) → H.aggAt b (o + w.a.toNat * 6) 6 (valV (vAtI vals w.a)) := fun hop => (valF_at h (hin hop).1.1 (hin hop).1.2).2.2.2.2
  have cb : (w.op = 2 ∨ w.op = 3 ∨ w.op = 4 ∨ w.op = 5) → H.aggAt b (o + w.b.toNat * 6) 6 (valV (vAtI vals w.b)) := fun hop => (valF_at h (hin hop).2.1 (hin hop).2.2).2.2.2.2
  refine EC_fn ctx (fun _ => true) Try.func74 rfl rfl rfl ?_
  refine ⟨fun c => (hin (by simp at c; omega)).2, valV (vAtI vals w.b), fun c => cb (by simp at c; omega), .bool (constB vals w.b ONE), fun _ => constant_pc _ _ _, fun h1 => ?_, fun h1 => ?_⟩
  · refine ⟨congrArg (fun z => AEnd.ret (.int .i64 z)) ?_, rfl⟩; (unfold unitX; repeat' split) <;> simp_all
  refine ⟨fun c => (hin (by simp at c; omega)).1, valV (vAtI vals w.a), fun c => ca (by simp at c; omega), .bool (constB vals w.a ONE), fun _ => constant_pc _ _ _, fun h2 => ?_, fun h2 => ?_⟩
  · refine ⟨congrArg (fun z => AEnd.ret (.int .i64 z)) ?_, rfl⟩; (unfold unitX; repeat' split) <;> simp_all
  refine ⟨fun c => (hin (by simp at c; omega)).2, valV (vAtI vals w.b), fun c => cb (by simp at c; omega), .bool (constB vals w.b ONE), fun _ => constant_pc _ _ _, fun h3 => ?_, fun h3 => ?_⟩
  · refine ⟨congrArg (fun z => AEnd.ret (.int .i64 z)) ?_, rfl⟩; (unfold unitX; repeat' split) <;> simp_all
  refine ⟨fun c => (hin (by simp at c; omega)).2, valV (vAtI vals w.b), fun c => cb (by simp at c; omega), .bool (constB vals w.b 0), fun _ => constant_pc _ _ _, fun h4 => ?_, fun h4 => ?_⟩
  · refine ⟨congrArg (fun z => AEnd.ret (.int .i64 z)) ?_, rfl⟩; (unfold unitX; repeat' split) <;> simp_all
  refine ⟨.leaf [([0, 1, 2, 3, 4, 5, 6, 7, 8, 9, 10, 11, 12], none)] [], by kernel_rfl, fun c => (hin (by simp at c; omega)).2, valV (vAtI vals w.b), fun c => cb (by simp at c; omega), .float .f64 MZ, fun _ => hB, .bool (constB vals w.b MZ), fun _ => constant_pc _ _ _, fun h5 => ?_, fun h5 => ?_⟩
  · refine ⟨congrArg (fun z => AEnd.ret (.int .i64 z)) ?_, rfl⟩; (unfold unitX; repeat' split) <;> simp_all
  refine ⟨.leaf [([0, 1, 2, 3, 4, 5, 6, 7, 8, 9, 10, 11, 12], none)] [], by kernel_rfl, fun c => (hin (by simp at c; omega)).1, valV (vAtI vals w.a), fun c => ca (by simp at c; omega), .float .f64 MZ, fun _ => hB, .bool (constB vals w.a MZ), fun _ => constant_pc _ _ _, fun h6 => ?_, fun h6 => ?_⟩
  · refine ⟨congrArg (fun z => AEnd.ret (.int .i64 z)) ?_, rfl⟩; (unfold unitX; repeat' split) <;> simp_all
  · refine ⟨congrArg (fun z => AEnd.ret (.int .i64 z)) ?_, rfl⟩; (unfold unitX; repeat' split) <;> simp_all
theorem implFromMZ_pc (H : Heap) : PC Try.prog 73 [.int .u64 9223372036854775808] H (.float .f64 MZ) :=
  PC_of_calls Try.func73 rfl rfl (fun ρ cargs w h => by
    cases h with
    | cons h1 h =>
      cases h
      cases h1 with
      | int => exact (iFloatFrom_any 9223372036854775808 w (by omega)).mono fun e w' ⟨h1, h2⟩ => ⟨_, h1, .float ⟨by decide, by decide⟩, by rw [← h2]; rfl⟩) H
def uniPv (k : Nat) : Bool := !Nat.beq k 3
theorem unitPass_ec (H : Heap) (lo hi : Nat) (p q r : Option Addr) (g : Graph) (hv : validB g = true) (og : OwnG H lo hi p q r g) (hlo : lo ≤ hi) (hn : hi ≤ H.next) :
    EC Try.prog 55 [gV p q r g] H (PR H lo hi (shared sameUnit g)) := by
  refine EC_fn ctx uniPv Try.func55 rfl rfl rfl ?_
  have hsok : ∀ k, k ≤ g.vals.length → ShOK sameUnit g.vals k := sh_ok sameUnit_ok (valid_ops hv)
  refine ⟨_, implFromMZ_pc H, ?_, fun v K hR => by cases hR.1⟩
  rintro _ H1 ⟨hx, rfl⟩
  cases hx
  refine ⟨stOK_push _ _ _ _ _ (Nat.le_refl 1), ?_⟩
  have hst : (H1.push (.cells [.float .f64 0] 1 true)).stor H1.next 0 [.float .f64 MZ] = H1.push (.cells [.float .f64 MZ] 1 true) := by rw [stor_push]; rfl
  have og1 : OwnG ((H1.push (.cells [.float .f64 0] 1 true)).stor H1.next 0 [.float .f64 MZ]) lo hi p q r g := by rw [hst]; exact og.push1 _
  have hc : ((H1.push (.cells [.float .f64 0] 1 true)).stor H1.next 0 [.float .f64 MZ]).blk H1.next = some (.cells [.float .f64 MZ] 1 true) := by rw [hst]; exact push_blk _ _
  have e1 : Ext H1 ((H1.push (.cells [.float .f64 0] 1 true)).stor H1.next 0 [.float .f64 MZ]) := by rw [hst]; exact Ext.push _ _
  have hnx : ((H1.push (.cells [.float .f64 0] 1 true)).stor H1.next 0 [.float .f64 MZ]).next = H1.next + 1 := by rw [hst]; rfl
  refine ⟨_, sharing_ec _ lo hi H1.next (H1.next + 1) p q r g hv og1 hlo hn (Nat.le_succ _) (Nat.le_of_eq hnx.symm) sameUnit sameUnit_ok 74 #[.pointer (some ⟨H1.next, 0, none⟩)] (fun _ K => K.blk H1.next = some (.cells [.float .f64 MZ] 1 true)) (fun _ K K' h h' => h' _ _ (Nat.le_refl _) (Nat.lt_succ_self _) h) hc (fun k K hk hSt hr hw => ?_), ?_, fun v K hR => by cases hR.1⟩
  · have ok := hsok k (by omega)
    have ok1 := hsok (k + 1) (by omega)
    have hpc := unit1_pc K q (cur g.vals sameUnit (k + 1)) (withV g.vals[k] (sh sameUnit g.vals k).2) k H1.next hr (cell_at hSt 0) (hw.mono (by rw [cur_len ok1 (by omega)]; omega)) (rdV_some hr (by rw [cur_len ok1 (by omega)]; omega))
    refine EC.mono hpc fun e K' ⟨h1, h2⟩ => ?_
    subst h2
    refine ⟨_, h1, ?_, hSt, Out.of_ext (Ext.refl _)⟩
    rw [unit_cur ok hk hw]
    rw [show ∀ vs v, sameUnit vs v = if 0 ≤ unitI vs v then unitI vs v else (vs.length : Int) from fun _ _ => rfl, ok.l1]
  · rintro v K ⟨hx, og', o⟩
    cases hx
    exact ⟨p, q, r, rfl, og'.upX (by have := o.next; omega), ⟨Nat.le_trans e1.next o.next, fun b c hb hc => o.same b c (by have := H1.lt _ _ hc; rw [hnx]; omega) (e1.same _ _ hc)⟩⟩
end Go.Proofs.Ytjmobjiaoklfdaa

set_option linter.unusedVariables false
namespace Go.Proofs.Ytjmobjiaoklfdaa
open Go.Am
open FlCore (canon isNan)

def keyV (v : Val) : Value := .agg #[.int .i64 v.op, .int .i64 v.len, .int .i64 v.a, .int .i64 v.b, .int .i64 v.c, .int .u64 (if v.op = 1 then (v.k : Int) else 0)]
def kkC : KK := .rcd [.int .i64, .int .i64, .int .i64, .int .i64, .int .i64, .int .u64]
theorem kI (k k' : IntKind) (a b : Int) : kEq1 (.int k a) (.int k' b) = decide (a = b) := rfl
theorem keyV_eq (v w : Val) : kEq (keyV v) (keyV w) = sameV w v := by
  show kEqL [.int .i64 v.op, .int .i64 v.len, .int .i64 v.a, .int .i64 v.b, .int .i64 v.c, .int .u64 (if v.op = 1 then (v.k : Int) else 0)] [.int .i64 w.op, .int .i64 w.len, .int .i64 w.a, .int .i64 w.b, .int .i64 w.c, .int .u64 (if w.op = 1 then (w.k : Int) else 0)] = _
  unfold sameV
  by_cases e1 : v.op = w.op
  · by_cases e2 : v.len = w.len
    · by_cases e3 : v.a = w.a
      · by_cases e4 : v.b = w.b
        · by_cases e5 : v.c = w.c
          · by_cases h1 : w.op = 1
            · by_cases e6 : v.k = w.k
              · simp [kEqL, kI, e1, e2, e3, e4, e5, h1, e6]
              · have e7 : ¬ w.k = v.k := fun e => e6 e.symm
                have e8 : ¬ (v.k : Int) = (w.k : Int) := by omega
                simp [kEqL, kI, e1, e2, e3, e4, e5, h1, e7, e8]
            · simp [kEqL, kI, e1, e2, e3, e4, e5, h1]
          · have := fun e => e5 (Eq.symm e)
            simp [kEqL, kI, e1, e2, e3, e4, e5, this]
            (intro h; exact (this h).elim)
        · have := fun e => e4 (Eq.symm e)
          simp [kEqL, kI, e1, e2, e3, e4, this]
          (intro h; exact (this h).elim)
      · have := fun e => e3 (Eq.symm e)
        simp [kEqL, kI, e1, e2, e3, this]
        (intro h; exact (this h).elim)
    · have := fun e => e2 (Eq.symm e)
      simp [kEqL, kI, e1, e2, this]
      (intro h; exact (this h).elim)
  · have := fun e => e1 (Eq.symm e)
    simp [kEqL, kI, e1, this]
    (intro h; exact (this h).elim)
theorem mset_none : ∀ {es : List (Value × Value)} {x u : Value}, mget es x = none → mset es x u = es ++ [(x, u)]
  | [], _, _, _ => rfl
  | (k, v) :: r, x, u, h => by
    unfold mget at h
    unfold mset
    cases hq : kEq x k with
    | true => rw [hq] at h; cases h
    | false =>
      rw [hq] at h
      simp only at h ⊢
      rw [mset_none h]; rfl
theorem mget_snoc : ∀ (es : List (Value × Value)) (x u y : Value), mget (es ++ [(x, u)]) y = match mget es y with | some z => some z | none => (match kEq y x with | true => some u | false => none)
  | [], x, u, y => by
    show mget [(x, u)] y = _
    unfold mget
    cases kEq y x <;> rfl
  | (k, v) :: r, x, u, y => by
    show mget ((k, v) :: (r ++ [(x, u)])) y = _
    unfold mget
    cases kEq y k with
    | true => rfl
    | false => exact mget_snoc r x u y
theorem sameV_trans {x w v : Val} (h : sameV x w = true) (h' : sameV w v = true) : sameV x v = true := by
  unfold sameV at *
  simp only [Bool.and_eq_true, decide_eq_true_eq, Bool.or_eq_true, beq_iff_eq] at *
  obtain ⟨⟨a1, a2, a3, a4, a5⟩, a6⟩ := h
  obtain ⟨⟨b1, b2, b3, b4, b5⟩, b6⟩ := h'
  refine ⟨⟨by omega, by omega, by omega, by omega, by omega⟩, ?_⟩
  rcases a6 with a6 | a6
  · exact .inl a6
  · rcases b6 with b6 | b6
    · exact .inl (by omega)
    · exact .inr (by omega)
/-- What the map holds: each value's first index. -/
def MapInv (es : List (Value × Value)) (vs : List Val) : Prop := ∀ v, mget es (keyV v) = (vs.findIdx? (fun w => sameV w v)).map fun j : Nat => Value.int .i64 (j : Int)
theorem MapInv.found {es : List (Value × Value)} {vs : List Val} (h : MapInv es vs) {w : Val} {j : Nat} (hj : vs.findIdx? (fun x => sameV x w) = some j) : MapInv es (vs ++ [w]) := fun v => by
  rw [h v, List.findIdx?_append]
  cases hq : vs.findIdx? (fun x => sameV x v) with
  | some i => simp
  | none =>
    have hw : sameV w v = false := by
      cases hs : sameV w v with
      | false => rfl
      | true =>
        obtain ⟨k1, k2, _⟩ := List.findIdx?_eq_some_iff_getElem.1 hj
        have := List.findIdx?_eq_none_iff.1 hq _ (List.getElem_mem k1)
        rw [sameV_trans k2 hs] at this; cases this
    simp [hw]
theorem MapInv.new {es : List (Value × Value)} {vs : List Val} (h : MapInv es vs) {w : Val} (hj : vs.findIdx? (fun x => sameV x w) = none) : MapInv (mset es (keyV w) (.int .i64 (vs.length : Int))) (vs ++ [w]) := fun v => by
  have h0 : mget es (keyV w) = none := by rw [h w, hj]; rfl
  rw [mset_none h0, mget_snoc, h v, List.findIdx?_append, keyV_eq]
  cases hq : vs.findIdx? (fun x => sameV x v) with
  | some i => simp
  | none =>
    cases hs : sameV w v <;> simp [hs]
theorem common1_ec (K : Heap) (a : Value) (w : Val) (k : Int) (B M : Nat) (es : List (Value × Value)) (hB : K.cell? B 0 = some (.map (some M))) (hM : K.blk M = some (.map kkC es)) (hes : ∀ j, mget es (keyV w) = some j → ∃ n : Int, j = .int .i64 n) :
    EC Try.prog 67 [a, valV w, .int .i64 k, .pointer (some ⟨B, 0, none⟩)] K fun e K' => ∃ x : Int, e = .ret (.int .i64 x) ∧ ((mget es (keyV w) = some (.int .i64 x) ∧ K' = K) ∨ (mget es (keyV w) = none ∧ x = -1 ∧ K' = K.put M (.map kkC (mset es (keyV w) (.int .i64 k))))) := by
  refine EC_fn ctx (fun _ => true) Try.func67 rfl rfl rfl ?_
  refine ⟨fun h1 => ?_, fun h1 => ?_⟩
  · have h1 : w.op = 1 := by simpa using h1
    refine ⟨_, implBits1_pc w.k K, ?_, fun v K hR => by cases hR.1⟩
    rintro _ K ⟨hx, rfl⟩
    cases hx
    have hkey : keyV w = (Value.agg #[.int .i64 w.op, .int .i64 w.len, .int .i64 w.a, .int .i64 w.b, .int .i64 w.c, .int .u64 (w.k : Int)]) := by simp [keyV, h1]
    cases hget : mget es (keyV w) with
    | some j =>
      obtain ⟨n, rfl⟩ := hes j hget
      rw [hkey] at hget
      refine ⟨.map (some M), hB, .tuple #[.int .i64 n, .bool true], ⟨es, hM, by rw [hget]; rfl⟩, fun _ => ?_, fun h => by simp at h⟩
      exact ⟨n, rfl, .inl ⟨rfl, rfl⟩⟩
    | none =>
      rw [hkey] at hget
      refine ⟨.map (some M), hB, .tuple #[.int .i64 0, .bool false], ⟨es, hM, by rw [hget]; rfl⟩, fun h => by simp at h, fun _ => ?_⟩
      refine ⟨.map (some M), hB, es, hM, ?_⟩
      exact ⟨-1, rfl, .inr ⟨rfl, rfl, by rw [hkey]; rfl⟩⟩
  · have h1 : ¬ w.op = 1 := by simpa using h1
    have hkey : keyV w = (Value.agg #[.int .i64 w.op, .int .i64 w.len, .int .i64 w.a, .int .i64 w.b, .int .i64 w.c, .int .u64 0]) := by simp [keyV, h1]
    cases hget : mget es (keyV w) with
    | some j =>
      obtain ⟨n, rfl⟩ := hes j hget
      rw [hkey] at hget
      refine ⟨.map (some M), hB, .tuple #[.int .i64 n, .bool true], ⟨es, hM, by rw [hget]; rfl⟩, fun _ => ?_, fun h => by simp at h⟩
      exact ⟨n, rfl, .inl ⟨rfl, rfl⟩⟩
    | none =>
      rw [hkey] at hget
      refine ⟨.map (some M), hB, .tuple #[.int .i64 0, .bool false], ⟨es, hM, by rw [hget]; rfl⟩, fun h => by simp at h, fun _ => ?_⟩
      refine ⟨.map (some M), hB, es, hM, ?_⟩
      exact ⟨-1, rfl, .inr ⟨rfl, rfl, by rw [hkey]; rfl⟩⟩
def comPv (k : Nat) : Bool := !Nat.beq k 3
theorem commonPass_ec (H : Heap) (lo hi : Nat) (p q r : Option Addr) (g : Graph) (hv : validB g = true) (og : OwnG H lo hi p q r g) (hlo : lo ≤ hi) (hn : hi ≤ H.next) :
    EC Try.prog 52 [gV p q r g] H (PR H lo hi (shared sameCommon g)) := by
  refine EC_fn ctx comPv Try.func52 rfl rfl rfl ?_
  have hsok : ∀ k, k ≤ g.vals.length → ShOK sameCommon g.vals k := sh_ok sameCommon_ok (valid_ops hv)
  refine ⟨stOK_push _ _ _ _ _ (Nat.le_refl 1), ?_⟩
  have hst : ((H.push (.map kkC [])).push (.cells [.map none] 1 true)).stor (H.next + 1) 0 [.map (some H.next)] = (H.push (.map kkC [])).push (.cells [.map (some H.next)] 1 true) := stor_push (H.push (.map kkC [])) [.map none] 1 true 0 _
  have og1 : OwnG (((H.push (.map kkC [])).push (.cells [.map none] 1 true)).stor (H.next + 1) 0 [.map (some H.next)]) lo hi p q r g := by rw [hst]; exact (og.push1 _).push1 _
  have hc : (((H.push (.map kkC [])).push (.cells [.map none] 1 true)).stor (H.next + 1) 0 [.map (some H.next)]).blk (H.next + 1) = some (.cells [.map (some H.next)] 1 true) := by rw [hst]; exact push_blk (H.push _) _
  have hm : (((H.push (.map kkC [])).push (.cells [.map none] 1 true)).stor (H.next + 1) 0 [.map (some H.next)]).blk H.next = some (.map kkC []) := by rw [hst]; exact (Ext.push _ _).same _ _ (push_blk _ _)
  have e1 : Ext H (((H.push (.map kkC [])).push (.cells [.map none] 1 true)).stor (H.next + 1) 0 [.map (some H.next)]) := by rw [hst]; exact (Ext.push _ _).push' _
  have hnx : (((H.push (.map kkC [])).push (.cells [.map none] 1 true)).stor (H.next + 1) 0 [.map (some H.next)]).next = H.next + 2 := by rw [hst]; rfl
  refine ⟨_, sharing_ec _ lo hi H.next (H.next + 2) p q r g hv og1 hlo hn (Nat.le_add_right _ _) (Nat.le_of_eq hnx.symm) sameCommon sameCommon_ok 67 #[.pointer (some ⟨H.next + 1, 0, none⟩)]
    (fun k K => K.blk (H.next + 1) = some (.cells [.map (some H.next)] 1 true) ∧ ∃ es, K.blk H.next = some (.map kkC es) ∧ MapInv es (sh sameCommon g.vals k).1)
    (fun k K K' ⟨h1, es, h2, h3⟩ h' => ⟨h' _ _ (by omega) (by omega) h1, es, h' _ _ (by omega) (by omega) h2, h3⟩) ⟨hc, [], hm, fun v => rfl⟩ (fun k K hk ⟨hB, es, hM, hI⟩ hr hw => ?_), ?_, fun v K hR => by cases hR.1⟩
  · have ok := hsok k (by omega)
    have hvk : (sh sameCommon g.vals (k + 1)).1 = (sh sameCommon g.vals k).1 ++ [withV g.vals[k] (sh sameCommon g.vals k).2] := by simp only [sh]; rw [List.getElem?_eq_getElem hk]; rfl
    rw [hvk]
    have hl := ok.l1
    generalize (sh sameCommon g.vals k).1 = vs at *
    generalize withV g.vals[k] (sh sameCommon g.vals k).2 = w at *
    refine EC.mono (common1_ec K (sv q (cur g.vals sameCommon (k + 1))) w k (H.next + 1) H.next es (cell_at hB 0) hM (fun j hj => by
      rw [hI w] at hj
      cases hq : vs.findIdx? (fun x => sameV x w) with
      | none => rw [hq] at hj; cases hj
      | some i => rw [hq] at hj; cases hj; exact ⟨_, rfl⟩)) fun e K' ⟨x, h1, h2⟩ => ⟨x, h1, ?_⟩
    have hsc : sameCommon vs w = match vs.findIdx? (fun x => sameV x w) with | some j => (j : Int) | none => (vs.length : Int) := rfl
    rcases h2 with ⟨hg, rfl⟩ | ⟨hg, rfl, rfl⟩
    · rw [hI w] at hg
      cases hq : vs.findIdx? (fun x => sameV x w) with
      | none => rw [hq] at hg; cases hg
      | some j =>
        rw [hq] at hg hsc
        cases hg
        exact ⟨by rw [if_pos (by omega)]; exact hsc.symm, ⟨hB, es, hM, hI.found hq⟩, Out.of_ext (Ext.refl _)⟩
    · rw [hI w] at hg
      cases hq : vs.findIdx? (fun x => sameV x w) with
      | some j => rw [hq] at hg; cases hg
      | none =>
        rw [hq] at hsc
        refine ⟨by rw [if_neg (by omega)]; rw [hsc, hl], ⟨?_, _, by rw [put_blk _ _ _ _ (K.lt _ _ hM), if_pos rfl], ?_⟩, ⟨Nat.le_refl _, fun b c hb hcc => ?_⟩⟩
        · rw [put_blk _ _ _ _ (K.lt _ _ hM), if_neg (by omega)]; exact hB
        · rw [← hl]; exact hI.new hq
        · rw [put_blk _ _ _ _ (K.lt _ _ hM), if_neg (by omega)]; exact hcc
  · rintro v K ⟨hx, og', o⟩
    cases hx
    exact ⟨p, q, r, rfl, og'.upX (by have := o.next; omega), ⟨Nat.le_trans e1.next o.next, fun b c hb hc => o.same b c (by have := H.lt _ _ hc; rw [hnx]; omega) (e1.same _ _ hc)⟩⟩
end Go.Proofs.Ytjmobjiaoklfdaa
