/- l2move: the reference's move of a value. Written by genjvc.py. Conditions: the index is one of the graph's. -/
import Derived.Test.YtimenmejmofkaaaJvb
set_option linter.unusedVariables false
set_option linter.unusedSimpArgs false
namespace Go.Proofs.Ytimenmejmofkaaa
open Go.Am

def mvLin (op n : Int) (vs : List Val) (ta tb : Int) : List Val × Int :=
  if 0 ≤ ta ∧ 0 ≤ tb then (vs ++ [opV op n ta tb 0], (vs.length : Int)) else if 0 ≤ ta then (vs, ta) else if 0 ≤ tb ∧ op = 3 then (vs ++ [opV 6 n tb 0 0], (vs.length : Int)) else (vs, tb)
def st1 (op n b : Int) (vs : List Val) (ta : Int) : List Val × Int := if 0 ≤ ta then (vs ++ [opV op n ta b 0], (vs.length : Int)) else (vs, -1)
def st2m (n a : Int) (vs : List Val) (tb : Int) : List Val × Int := if 0 ≤ tb then (vs ++ [opV 4 n a tb 0], (vs.length : Int)) else (vs, -1)
def st2d (n i b : Int) (vs : List Val) (tb : Int) : List Val × Int := if 0 ≤ tb then (vs ++ [opV 4 n i tb 0] ++ [opV 5 n (vs.length : Int) b 0], (vs.length : Int) + 1) else (vs, -1)
def st3m (n : Int) (vs : List Val) (p q : Int) : List Val × Int := if 0 ≤ p ∧ 0 ≤ q then (vs ++ [opV 2 n p q 0], (vs.length : Int)) else if 0 ≤ p then (vs, p) else (vs, q)
def st3d (n : Int) (vs : List Val) (p q : Int) : List Val × Int := if 0 ≤ p ∧ 0 ≤ q then (vs ++ [opV 3 n p q 0], (vs.length : Int)) else if 0 ≤ p then (vs, p) else if 0 ≤ q then (vs ++ [opV 6 n q 0 0], (vs.length : Int)) else (vs, q)
def mvMul (v : Val) (vs : List Val) (ta tb : Int) : List Val × Int := st3m v.len (st2m v.len v.a (st1 v.op v.len v.b vs ta).1 tb).1 (st1 v.op v.len v.b vs ta).2 (st2m v.len v.a (st1 v.op v.len v.b vs ta).1 tb).2
def mvDiv (v : Val) (i : Int) (vs : List Val) (ta tb : Int) : List Val × Int := st3d v.len (st2d v.len i v.b (st1 v.op v.len v.b vs ta).1 tb).1 (st1 v.op v.len v.b vs ta).2 (st2d v.len i v.b (st1 v.op v.len v.b vs ta).1 tb).2
def mvMax (v : Val) (vs : List Val) (ta tb : Int) : List Val × Int := if ta < 0 ∧ tb < 0 then (vs, -1) else
  ((orP (orP (vs ++ [opV 3 v.len v.a v.b 0]) ta v.len).1 tb v.len).1 ++ [opV 8 v.len (vs.length : Int) (orP (vs ++ [opV 3 v.len v.a v.b 0]) ta v.len).2 (orP (orP (vs ++ [opV 3 v.len v.a v.b 0]) ta v.len).1 tb v.len).2], ((orP (orP (vs ++ [opV 3 v.len v.a v.b 0]) ta v.len).1 tb v.len).1.length : Int))
def mvSel (v : Val) (vs : List Val) (tb tc : Int) : List Val × Int := if tb < 0 ∧ tc < 0 then (vs, -1) else
  ((orP (orP vs tb v.len).1 tc v.len).1 ++ [opV 8 v.len v.a (orP vs tb v.len).2 (orP (orP vs tb v.len).1 tc v.len).2], ((orP (orP vs tb v.len).1 tc v.len).1.length : Int))
def mvOne (v : Val) (i : Int) (vs : List Val) (ta : Int) : List Val × Int := if ta < 0 then (vs, -1) else (vs ++ [if v.op = 13 then opV 4 v.len ta i 0 else opV v.op v.len ta 0 v.c], (vs.length : Int))
/-- The move of value i, put behind. -/
def moveP (vs : List Val) (v : Val) (i ta tb tc : Int) : List Val × Int :=
  if v.op = 2 ∨ v.op = 3 then mvLin v.op v.len vs ta tb else if v.op = 4 then mvMul v vs ta tb else if v.op = 5 then mvDiv v i vs ta tb else if v.op = 7 then mvMax v vs ta tb else if v.op = 8 then mvSel v vs tb tc else mvOne v i vs ta
theorem orP_len (vs : List Val) (a n : Int) : vs.length ≤ (orP vs a n).1.length ∧ (orP vs a n).1.length ≤ vs.length + 1 := by unfold orP; split <;> simp
theorem l2last_put (K : Heap) (p q r : Option Addr) (g : Graph) (v : Val) (hl : (putG g v).vals.length ≤ 1000000) : PC Try.prog 39 [gV p q r (putG g v)] K (.int .i64 (g.vals.length : Int)) := by
  have := l2last_pc K p q r (putG g v) hl
  rw [show ((putG g v).vals.length : Int) - 1 = g.vals.length by simp [putG]] at this
  exact this
set_option maxHeartbeats 1000000 in
theorem l2move_lin (K : Heap) (lo : Nat) (p q r : Option Addr) (g : Graph) (v : Val) (i ta tb tc : Int) (og : OwnG K lo K.next p q r g) (hlo : lo ≤ K.next) (hl : g.vals.length ≤ 100000) (h0 : 0 ≤ i) (hi : i < g.vals.length) (hv : vAtI g.vals i = v) (hop : v.op = 2 ∨ v.op = 3) :
    EC Try.prog 36 [gV p q r g, .int .i64 i, .int .i64 ta, .int .i64 tb, .int .i64 tc] K (OR K lo p q r g (moveP g.vals v i ta tb tc)) := by
  refine EC_fn ctx (fun _ => true) Try.func36 rfl rfl rfl ?_
  obtain ⟨bq, hq⟩ := bufq_some og.s (by omega)
  subst hq
  obtain ⟨c0, c1, c2, _, hva⟩ := valF_at og.s.rd h0 hi
  rw [hv] at hva
  refine ⟨⟨h0, hi⟩, valV v, hva, ?_⟩
  refine ⟨fun _ => ?_, fun h => by rcases hop with e | e <;> simp [e] at h⟩
  have ho : ∀ x : Int, (v.op = 2 ∨ v.op = 3) := fun _ => hop
  clear ho
  refine ⟨fun hab => ?_, fun hab => ?_⟩
  · have ha : 0 ≤ ta := by by_cases h : 0 ≤ ta <;> simp [h] at hab; exact h
    have hb : 0 ≤ tb := by simp [ha] at hab; exact hab
    refine ⟨.leaf [([0, 1, 2, 3, 4, 5, 6], some 7), ([], some 8), ([], none)] [], by kernel_rfl, _, l2op_pc _ _ _ _ _ _, ?_⟩
    refine ⟨_, l2put_ec K lo p (some ⟨bq, 0, none⟩) r g (opV v.op v.len ta tb 0) og hlo (by omega), ?_, fun v K hR => hR.no.elim⟩
    rintro _ K1 ⟨q1, hx, o1, m1⟩
    cases hx
    have ln1 := putG_len g (opV v.op v.len ta tb 0)
    have lo1 : lo ≤ K1.next := Nat.le_trans hlo m1.next
    refine ⟨.leaf [([0, 1, 2], some 3), ([4], none)] [], by kernel_rfl, _, l2last_put K1 _ _ _ _ _ (by omega), ?_⟩
    have hm : moveP g.vals v i ta tb tc = ((putG g (opV v.op v.len ta tb 0)).vals, (g.vals.length : Int)) := by unfold moveP mvLin; rw [if_pos hop, if_pos ⟨ha, hb⟩]; rfl
    rw [hm]
    exact ⟨q1, rfl, o1, m1⟩
  · have hab : ¬ (0 ≤ ta ∧ 0 ≤ tb) := by rintro ⟨a, b⟩; simp [a] at hab; omega
    refine ⟨fun ha => ?_, fun ha => ?_⟩
    · have ha : 0 ≤ ta := by simpa using ha
      have hm : moveP g.vals v i ta tb tc = (g.vals, ta) := by unfold moveP mvLin; rw [if_pos hop, if_neg hab, if_pos ha]
      rw [hm]
      exact ⟨(some ⟨bq, 0, none⟩), rfl, og, Mv.refl _ _⟩
    · have ha : ¬ 0 ≤ ta := by simp at ha; omega
      refine ⟨fun hb => ?_, fun hb => ?_⟩
      · have hb : 0 ≤ tb ∧ v.op = 3 := by
          by_cases h : 0 ≤ tb
          · simp [h] at hb; exact ⟨h, hb⟩
          · simp [h] at hb
        refine ⟨.leaf [([0, 1, 2, 3], some 4), ([], some 5), ([], none)] [], by kernel_rfl, _, l2op_pc _ _ _ _ _ _, ?_⟩
        refine ⟨_, l2put_ec K lo p (some ⟨bq, 0, none⟩) r g (opV 6 v.len tb 0 0) og hlo (by omega), ?_, fun v K hR => hR.no.elim⟩
        rintro _ K1 ⟨q1, hx, o1, m1⟩
        cases hx
        have ln1 := putG_len g (opV 6 v.len tb 0 0)
        have lo1 : lo ≤ K1.next := Nat.le_trans hlo m1.next
        refine ⟨.leaf [([0, 1, 2], some 3), ([4], none)] [], by kernel_rfl, _, l2last_put K1 _ _ _ _ _ (by omega), ?_⟩
        have hm : moveP g.vals v i ta tb tc = ((putG g (opV 6 v.len tb 0 0)).vals, (g.vals.length : Int)) := by unfold moveP mvLin; rw [if_pos hop, if_neg hab, if_neg ha, if_pos hb]; rfl
        rw [hm]
        exact ⟨q1, rfl, o1, m1⟩
      · have hb : ¬ (0 ≤ tb ∧ v.op = 3) := by rintro ⟨a, b⟩; simp [a, b] at hb
        have hm : moveP g.vals v i ta tb tc = (g.vals, tb) := by unfold moveP mvLin; rw [if_pos hop, if_neg hab, if_neg ha, if_neg hb]
        rw [hm]
        exact ⟨(some ⟨bq, 0, none⟩), rfl, og, Mv.refl _ _⟩
set_option maxHeartbeats 1000000 in
theorem l2move_mul (K : Heap) (lo : Nat) (p q r : Option Addr) (g : Graph) (v : Val) (i ta tb tc : Int) (og : OwnG K lo K.next p q r g) (hlo : lo ≤ K.next) (hl : g.vals.length ≤ 100000) (h0 : 0 ≤ i) (hi : i < g.vals.length) (hv : vAtI g.vals i = v) (hop : v.op = 4) :
    EC Try.prog 36 [gV p q r g, .int .i64 i, .int .i64 ta, .int .i64 tb, .int .i64 tc] K (OR K lo p q r g (moveP g.vals v i ta tb tc)) := by
  refine EC_fn ctx (fun _ => true) Try.func36 rfl rfl rfl ?_
  obtain ⟨bq, hq⟩ := bufq_some og.s (by omega)
  subst hq
  obtain ⟨c0, c1, c2, _, hva⟩ := valF_at og.s.rd h0 hi
  rw [hv] at hva
  refine ⟨⟨h0, hi⟩, valV v, hva, ?_⟩
  refine ⟨fun h => by simp [hop] at h, fun _ => ⟨fun _ => ?_, fun h => by simp [hop] at h⟩⟩
  refine ⟨fun ha => ?_, fun ha => ?_⟩
  · have ha : 0 ≤ ta := by simpa using ha
    refine ⟨.leaf [([0, 1, 2, 3, 4, 5, 6, 7], some 8), ([], some 9), ([], none)] [], by kernel_rfl, _, l2op_pc _ _ _ _ _ _, ?_⟩
    refine ⟨_, l2put_ec K lo p (some ⟨bq, 0, none⟩) r g (opV v.op v.len ta v.b 0) og hlo (by omega), ?_, fun v K hR => hR.no.elim⟩
    rintro _ K1 ⟨q1, hx, o1, m1⟩
    cases hx
    have ln1 := putG_len g (opV v.op v.len ta v.b 0)
    have lo1 : lo ≤ K1.next := Nat.le_trans hlo m1.next
    refine ⟨_, l2last_put K1 _ _ _ _ _ (by omega), ?_, fun v K hR => by cases hR.1⟩
    rintro _ K1 ⟨hx, rfl⟩
    cases hx
    have e1 : st1 v.op v.len v.b g.vals ta = ((putG g (opV v.op v.len ta v.b 0)).vals, (g.vals.length : Int)) := by unfold st1; rw [if_pos ha]; rfl
    refine ⟨fun hb => ?_, fun hb => ?_⟩
    · have hb : 0 ≤ tb := by by_cases h : 0 ≤ tb <;> simp [h] at hb; exact h
      refine ⟨.leaf [([0, 1, 2, 3, 4, 5], some 6), ([], some 7), ([], none)] [], by kernel_rfl, _, l2op_pc _ _ _ _ _ _, ?_⟩
      refine ⟨_, l2put_ec K1 lo p q1 r (putG g (opV v.op v.len ta v.b 0)) (opV 4 v.len v.a tb 0) o1 lo1 (by omega), ?_, fun v K hR => hR.no.elim⟩
      rintro _ K2 ⟨q2, hx, o2, m2⟩
      cases hx
      have ln2 := putG_len (putG g (opV v.op v.len ta v.b 0)) (opV 4 v.len v.a tb 0)
      have lo2 : lo ≤ K2.next := Nat.le_trans lo1 m2.next
      refine ⟨_, l2last_put K2 _ _ _ _ _ (by omega), ?_, fun v K hR => by cases hR.1⟩
      rintro _ K2 ⟨hx, rfl⟩
      cases hx
      have e2 : st2m v.len v.a (putG g (opV v.op v.len ta v.b 0)).vals tb = ((putG (putG g (opV v.op v.len ta v.b 0)) (opV 4 v.len v.a tb 0)).vals, ((putG g (opV v.op v.len ta v.b 0)).vals.length : Int)) := by unfold st2m; rw [if_pos hb]; rfl
      refine ⟨fun h => by simp [hop] at h, fun _ => ?_⟩
      refine ⟨fun h => ?_, fun h => by simp at h <;> omega⟩
      refine ⟨fun h => by simp [hop] at h, fun _ => ?_⟩
      refine ⟨.leaf [([0, 1, 2, 3, 4, 5], some 6), ([], some 7), ([], none)] [], by kernel_rfl, _, l2op_pc _ _ _ _ _ _, ?_⟩
      refine ⟨_, l2put_ec K2 lo p q2 r (putG (putG g (opV v.op v.len ta v.b 0)) (opV 4 v.len v.a tb 0)) (opV 2 v.len (g.vals.length : Int) ((putG g (opV v.op v.len ta v.b 0)).vals.length : Int) 0) o2 lo2 (by omega), ?_, fun v K hR => hR.no.elim⟩
      rintro _ K3 ⟨q3, hx, o3, m3⟩
      cases hx
      have ln3 := putG_len (putG (putG g (opV v.op v.len ta v.b 0)) (opV 4 v.len v.a tb 0)) (opV 2 v.len (g.vals.length : Int) ((putG g (opV v.op v.len ta v.b 0)).vals.length : Int) 0)
      have lo3 : lo ≤ K3.next := Nat.le_trans lo2 m3.next
      refine ⟨.leaf [([0, 1, 2], some 3), ([4], none)] [], by kernel_rfl, _, l2last_put K3 _ _ _ _ _ (by omega), ?_⟩
      have hm : moveP g.vals v i ta tb tc = ((putG (putG (putG g (opV v.op v.len ta v.b 0)) (opV 4 v.len v.a tb 0)) (opV 2 v.len (g.vals.length : Int) ((putG g (opV v.op v.len ta v.b 0)).vals.length : Int) 0)).vals, ((putG (putG g (opV v.op v.len ta v.b 0)) (opV 4 v.len v.a tb 0)).vals.length : Int)) := by unfold moveP mvMul; rw [if_neg (by omega), if_pos hop]; rw [e1]; dsimp only; rw [e2]; dsimp only; unfold st3m; rw [if_pos ⟨by omega, by omega⟩] <;> rfl
      rw [hm]
      exact ⟨q3, rfl, o3, ((m1.trans m2).trans m3)⟩
    · have hb : ¬ 0 ≤ tb := fun h => by simp [h, hop] at hb
      have e2 : st2m v.len v.a (putG g (opV v.op v.len ta v.b 0)).vals tb = ((putG g (opV v.op v.len ta v.b 0)).vals, -1) := by unfold st2m; rw [if_neg hb]
      refine ⟨fun h => by simp [hop] at h, fun _ => ?_⟩
      refine ⟨fun h => by simp at h <;> omega, fun h => ?_⟩
      refine ⟨fun h => by simp [hop] at h, fun _ => ?_⟩
      refine ⟨fun _ => ?_, fun h => by simp at h <;> omega⟩
      have hm : moveP g.vals v i ta tb tc = ((putG g (opV v.op v.len ta v.b 0)).vals, (g.vals.length : Int)) := by unfold moveP mvMul; rw [if_neg (by omega), if_pos hop]; rw [e1]; dsimp only; rw [e2]; dsimp only; unfold st3m; rw [if_neg (by omega), if_pos (by omega)] <;> rfl
      rw [hm]
      exact ⟨q1, rfl, o1, m1⟩
  · have ha : ¬ 0 ≤ ta := by simp at ha; omega
    have e1 : st1 v.op v.len v.b g.vals ta = (g.vals, -1) := by unfold st1; rw [if_neg ha]
    refine ⟨fun hb => ?_, fun hb => ?_⟩
    · have hb : 0 ≤ tb := by by_cases h : 0 ≤ tb <;> simp [h] at hb; exact h
      refine ⟨.leaf [([0, 1, 2, 3, 4, 5], some 6), ([], some 7), ([], none)] [], by kernel_rfl, _, l2op_pc _ _ _ _ _ _, ?_⟩
      refine ⟨_, l2put_ec K lo p (some ⟨bq, 0, none⟩) r g (opV 4 v.len v.a tb 0) og hlo (by omega), ?_, fun v K hR => hR.no.elim⟩
      rintro _ K1 ⟨q1, hx, o1, m1⟩
      cases hx
      have ln1 := putG_len g (opV 4 v.len v.a tb 0)
      have lo1 : lo ≤ K1.next := Nat.le_trans hlo m1.next
      refine ⟨_, l2last_put K1 _ _ _ _ _ (by omega), ?_, fun v K hR => by cases hR.1⟩
      rintro _ K1 ⟨hx, rfl⟩
      cases hx
      have e2 : st2m v.len v.a g.vals tb = ((putG g (opV 4 v.len v.a tb 0)).vals, (g.vals.length : Int)) := by unfold st2m; rw [if_pos hb]; rfl
      refine ⟨fun h => by simp [hop] at h, fun _ => ?_⟩
      refine ⟨fun h => by simp at h <;> omega, fun h => ?_⟩
      refine ⟨fun h => by simp [hop] at h, fun _ => ?_⟩
      refine ⟨fun h => by simp at h <;> omega, fun _ => ?_⟩
      have hm : moveP g.vals v i ta tb tc = ((putG g (opV 4 v.len v.a tb 0)).vals, (g.vals.length : Int)) := by unfold moveP mvMul; rw [if_neg (by omega), if_pos hop]; rw [e1]; dsimp only; rw [e2]; dsimp only; unfold st3m; rw [if_neg (by omega), if_neg (by omega)] <;> rfl
      rw [hm]
      exact ⟨q1, rfl, o1, m1⟩
    · have hb : ¬ 0 ≤ tb := fun h => by simp [h, hop] at hb
      have e2 : st2m v.len v.a g.vals tb = (g.vals, -1) := by unfold st2m; rw [if_neg hb]
      refine ⟨fun h => by simp [hop] at h, fun _ => ?_⟩
      refine ⟨fun h => by simp at h <;> omega, fun h => ?_⟩
      refine ⟨fun h => by simp [hop] at h, fun _ => ?_⟩
      refine ⟨fun h => by simp at h <;> omega, fun _ => ?_⟩
      have hm : moveP g.vals v i ta tb tc = (g.vals, -1) := by unfold moveP mvMul; rw [if_neg (by omega), if_pos hop]; rw [e1]; dsimp only; rw [e2]; dsimp only; unfold st3m; rw [if_neg (by omega), if_neg (by omega)] <;> rfl
      rw [hm]
      exact ⟨(some ⟨bq, 0, none⟩), rfl, og, Mv.refl _ _⟩
set_option maxHeartbeats 1000000 in
theorem l2move_div (K : Heap) (lo : Nat) (p q r : Option Addr) (g : Graph) (v : Val) (i ta tb tc : Int) (og : OwnG K lo K.next p q r g) (hlo : lo ≤ K.next) (hl : g.vals.length ≤ 100000) (h0 : 0 ≤ i) (hi : i < g.vals.length) (hv : vAtI g.vals i = v) (hop : v.op = 5) :
    EC Try.prog 36 [gV p q r g, .int .i64 i, .int .i64 ta, .int .i64 tb, .int .i64 tc] K (OR K lo p q r g (moveP g.vals v i ta tb tc)) := by
  refine EC_fn ctx (fun _ => true) Try.func36 rfl rfl rfl ?_
  obtain ⟨bq, hq⟩ := bufq_some og.s (by omega)
  subst hq
  obtain ⟨c0, c1, c2, _, hva⟩ := valF_at og.s.rd h0 hi
  rw [hv] at hva
  refine ⟨⟨h0, hi⟩, valV v, hva, ?_⟩
  refine ⟨fun h => by simp [hop] at h, fun _ => ⟨fun _ => ?_, fun h => by simp [hop] at h⟩⟩
  refine ⟨fun ha => ?_, fun ha => ?_⟩
  · have ha : 0 ≤ ta := by simpa using ha
    refine ⟨.leaf [([0, 1, 2, 3, 4, 5, 6, 7], some 8), ([], some 9), ([], none)] [], by kernel_rfl, _, l2op_pc _ _ _ _ _ _, ?_⟩
    refine ⟨_, l2put_ec K lo p (some ⟨bq, 0, none⟩) r g (opV v.op v.len ta v.b 0) og hlo (by omega), ?_, fun v K hR => hR.no.elim⟩
    rintro _ K1 ⟨q1, hx, o1, m1⟩
    cases hx
    have ln1 := putG_len g (opV v.op v.len ta v.b 0)
    have lo1 : lo ≤ K1.next := Nat.le_trans hlo m1.next
    refine ⟨_, l2last_put K1 _ _ _ _ _ (by omega), ?_, fun v K hR => by cases hR.1⟩
    rintro _ K1 ⟨hx, rfl⟩
    cases hx
    have e1 : st1 v.op v.len v.b g.vals ta = ((putG g (opV v.op v.len ta v.b 0)).vals, (g.vals.length : Int)) := by unfold st1; rw [if_pos ha]; rfl
    refine ⟨fun hb => ?_, fun hb => ?_⟩
    · simp [hop] at hb
    · clear hb
      refine ⟨fun hb => ?_, fun hb => ?_⟩
      · have hb : 0 ≤ tb := by by_cases h : 0 ≤ tb <;> simp [h] at hb; exact h
        refine ⟨.leaf [([0, 1, 2, 3, 4], some 5), ([], some 6), ([], none)] [], by kernel_rfl, _, l2op_pc _ _ _ _ _ _, ?_⟩
        refine ⟨_, l2put_ec K1 lo p q1 r (putG g (opV v.op v.len ta v.b 0)) (opV 4 v.len i tb 0) o1 lo1 (by omega), ?_, fun v K hR => hR.no.elim⟩
        rintro _ K2 ⟨q2, hx, o2, m2⟩
        cases hx
        have ln2 := putG_len (putG g (opV v.op v.len ta v.b 0)) (opV 4 v.len i tb 0)
        have lo2 : lo ≤ K2.next := Nat.le_trans lo1 m2.next
        refine ⟨.leaf [([0, 1, 2, 3, 4, 5, 6], some 7), ([], some 8), ([], none)] [], by kernel_rfl, _, l2last_put K2 _ _ _ _ _ (by omega), _, l2op_pc _ _ _ _ _ _, ?_⟩
        refine ⟨_, l2put_ec K2 lo p q2 r (putG (putG g (opV v.op v.len ta v.b 0)) (opV 4 v.len i tb 0)) (opV 5 v.len ((putG g (opV v.op v.len ta v.b 0)).vals.length : Int) v.b 0) o2 lo2 (by omega), ?_, fun v K hR => hR.no.elim⟩
        rintro _ K3 ⟨q3, hx, o3, m3⟩
        cases hx
        have ln3 := putG_len (putG (putG g (opV v.op v.len ta v.b 0)) (opV 4 v.len i tb 0)) (opV 5 v.len ((putG g (opV v.op v.len ta v.b 0)).vals.length : Int) v.b 0)
        have lo3 : lo ≤ K3.next := Nat.le_trans lo2 m3.next
        refine ⟨_, l2last_put K3 _ _ _ _ _ (by omega), ?_, fun v K hR => by cases hR.1⟩
        rintro _ K3 ⟨hx, rfl⟩
        cases hx
        have e2 : st2d v.len i v.b (putG g (opV v.op v.len ta v.b 0)).vals tb = ((putG (putG (putG g (opV v.op v.len ta v.b 0)) (opV 4 v.len i tb 0)) (opV 5 v.len ((putG g (opV v.op v.len ta v.b 0)).vals.length : Int) v.b 0)).vals, ((putG g (opV v.op v.len ta v.b 0)).vals.length : Int) + 1) := by unfold st2d; rw [if_pos hb]; rfl
        have e3 : ((putG (putG g (opV v.op v.len ta v.b 0)) (opV 4 v.len i tb 0)).vals.length : Int) = ((putG g (opV v.op v.len ta v.b 0)).vals.length : Int) + 1 := by omega
        rw [← e3] at e2
        refine ⟨fun h => ?_, fun h => by simp at h <;> omega⟩
        refine ⟨fun _ => ?_, fun h => by simp [hop] at h⟩
        refine ⟨.leaf [([0, 1, 2, 3, 4, 5], some 6), ([], some 7), ([], none)] [], by kernel_rfl, _, l2op_pc _ _ _ _ _ _, ?_⟩
        refine ⟨_, l2put_ec K3 lo p q3 r (putG (putG (putG g (opV v.op v.len ta v.b 0)) (opV 4 v.len i tb 0)) (opV 5 v.len ((putG g (opV v.op v.len ta v.b 0)).vals.length : Int) v.b 0)) (opV 3 v.len (g.vals.length : Int) ((putG (putG g (opV v.op v.len ta v.b 0)) (opV 4 v.len i tb 0)).vals.length : Int) 0) o3 lo3 (by omega), ?_, fun v K hR => hR.no.elim⟩
        rintro _ K4 ⟨q4, hx, o4, m4⟩
        cases hx
        have ln4 := putG_len (putG (putG (putG g (opV v.op v.len ta v.b 0)) (opV 4 v.len i tb 0)) (opV 5 v.len ((putG g (opV v.op v.len ta v.b 0)).vals.length : Int) v.b 0)) (opV 3 v.len (g.vals.length : Int) ((putG (putG g (opV v.op v.len ta v.b 0)) (opV 4 v.len i tb 0)).vals.length : Int) 0)
        have lo4 : lo ≤ K4.next := Nat.le_trans lo3 m4.next
        refine ⟨.leaf [([0, 1, 2], some 3), ([4], none)] [], by kernel_rfl, _, l2last_put K4 _ _ _ _ _ (by omega), ?_⟩
        have hm : moveP g.vals v i ta tb tc = ((putG (putG (putG (putG g (opV v.op v.len ta v.b 0)) (opV 4 v.len i tb 0)) (opV 5 v.len ((putG g (opV v.op v.len ta v.b 0)).vals.length : Int) v.b 0)) (opV 3 v.len (g.vals.length : Int) ((putG (putG g (opV v.op v.len ta v.b 0)) (opV 4 v.len i tb 0)).vals.length : Int) 0)).vals, ((putG (putG (putG g (opV v.op v.len ta v.b 0)) (opV 4 v.len i tb 0)) (opV 5 v.len ((putG g (opV v.op v.len ta v.b 0)).vals.length : Int) v.b 0)).vals.length : Int)) := by unfold moveP mvDiv; rw [if_neg (by omega), if_neg (by omega), if_pos hop]; rw [e1]; dsimp only; rw [e2]; dsimp only; unfold st3d; rw [if_pos ⟨by omega, by omega⟩] <;> rfl
        rw [hm]
        exact ⟨q4, rfl, o4, (((m1.trans m2).trans m3).trans m4)⟩
      · have hb : ¬ 0 ≤ tb := fun h => by simp [h, hop] at hb
        have e2 : st2d v.len i v.b (putG g (opV v.op v.len ta v.b 0)).vals tb = ((putG g (opV v.op v.len ta v.b 0)).vals, -1) := by unfold st2d; rw [if_neg hb]
        refine ⟨fun h => by simp at h <;> omega, fun h => ?_⟩
        refine ⟨fun h => by simp [hop] at h <;> omega, fun _ => ?_⟩
        refine ⟨fun _ => ?_, fun h => by simp at h <;> omega⟩
        have hm : moveP g.vals v i ta tb tc = ((putG g (opV v.op v.len ta v.b 0)).vals, (g.vals.length : Int)) := by unfold moveP mvDiv; rw [if_neg (by omega), if_neg (by omega), if_pos hop]; rw [e1]; dsimp only; rw [e2]; dsimp only; unfold st3d; rw [if_neg (by omega), if_pos (by omega)] <;> rfl
        rw [hm]
        exact ⟨q1, rfl, o1, m1⟩
  · have ha : ¬ 0 ≤ ta := by simp at ha; omega
    have e1 : st1 v.op v.len v.b g.vals ta = (g.vals, -1) := by unfold st1; rw [if_neg ha]
    refine ⟨fun hb => ?_, fun hb => ?_⟩
    · simp [hop] at hb
    · clear hb
      refine ⟨fun hb => ?_, fun hb => ?_⟩
      · have hb : 0 ≤ tb := by by_cases h : 0 ≤ tb <;> simp [h] at hb; exact h
        refine ⟨.leaf [([0, 1, 2, 3, 4], some 5), ([], some 6), ([], none)] [], by kernel_rfl, _, l2op_pc _ _ _ _ _ _, ?_⟩
        refine ⟨_, l2put_ec K lo p (some ⟨bq, 0, none⟩) r g (opV 4 v.len i tb 0) og hlo (by omega), ?_, fun v K hR => hR.no.elim⟩
        rintro _ K1 ⟨q1, hx, o1, m1⟩
        cases hx
        have ln1 := putG_len g (opV 4 v.len i tb 0)
        have lo1 : lo ≤ K1.next := Nat.le_trans hlo m1.next
        refine ⟨.leaf [([0, 1, 2, 3, 4, 5, 6], some 7), ([], some 8), ([], none)] [], by kernel_rfl, _, l2last_put K1 _ _ _ _ _ (by omega), _, l2op_pc _ _ _ _ _ _, ?_⟩
        refine ⟨_, l2put_ec K1 lo p q1 r (putG g (opV 4 v.len i tb 0)) (opV 5 v.len (g.vals.length : Int) v.b 0) o1 lo1 (by omega), ?_, fun v K hR => hR.no.elim⟩
        rintro _ K2 ⟨q2, hx, o2, m2⟩
        cases hx
        have ln2 := putG_len (putG g (opV 4 v.len i tb 0)) (opV 5 v.len (g.vals.length : Int) v.b 0)
        have lo2 : lo ≤ K2.next := Nat.le_trans lo1 m2.next
        refine ⟨_, l2last_put K2 _ _ _ _ _ (by omega), ?_, fun v K hR => by cases hR.1⟩
        rintro _ K2 ⟨hx, rfl⟩
        cases hx
        have e2 : st2d v.len i v.b g.vals tb = ((putG (putG g (opV 4 v.len i tb 0)) (opV 5 v.len (g.vals.length : Int) v.b 0)).vals, (g.vals.length : Int) + 1) := by unfold st2d; rw [if_pos hb]; rfl
        have e3 : ((putG g (opV 4 v.len i tb 0)).vals.length : Int) = (g.vals.length : Int) + 1 := by omega
        rw [← e3] at e2
        refine ⟨fun h => by simp at h <;> omega, fun h => ?_⟩
        refine ⟨fun _ => ?_, fun h => by simp [hop] at h <;> omega⟩
        refine ⟨.leaf [([0, 1, 2, 3], some 4), ([], some 5), ([], none)] [], by kernel_rfl, _, l2op_pc _ _ _ _ _ _, ?_⟩
        refine ⟨_, l2put_ec K2 lo p q2 r (putG (putG g (opV 4 v.len i tb 0)) (opV 5 v.len (g.vals.length : Int) v.b 0)) (opV 6 v.len ((putG g (opV 4 v.len i tb 0)).vals.length : Int) 0 0) o2 lo2 (by omega), ?_, fun v K hR => hR.no.elim⟩
        rintro _ K3 ⟨q3, hx, o3, m3⟩
        cases hx
        have ln3 := putG_len (putG (putG g (opV 4 v.len i tb 0)) (opV 5 v.len (g.vals.length : Int) v.b 0)) (opV 6 v.len ((putG g (opV 4 v.len i tb 0)).vals.length : Int) 0 0)
        have lo3 : lo ≤ K3.next := Nat.le_trans lo2 m3.next
        refine ⟨.leaf [([0, 1, 2], some 3), ([4], none)] [], by kernel_rfl, _, l2last_put K3 _ _ _ _ _ (by omega), ?_⟩
        have hm : moveP g.vals v i ta tb tc = ((putG (putG (putG g (opV 4 v.len i tb 0)) (opV 5 v.len (g.vals.length : Int) v.b 0)) (opV 6 v.len ((putG g (opV 4 v.len i tb 0)).vals.length : Int) 0 0)).vals, ((putG (putG g (opV 4 v.len i tb 0)) (opV 5 v.len (g.vals.length : Int) v.b 0)).vals.length : Int)) := by unfold moveP mvDiv; rw [if_neg (by omega), if_neg (by omega), if_pos hop]; rw [e1]; dsimp only; rw [e2]; dsimp only; unfold st3d; rw [if_neg (by omega), if_neg (by omega), if_pos (by omega)] <;> rfl
        rw [hm]
        exact ⟨q3, rfl, o3, ((m1.trans m2).trans m3)⟩
      · have hb : ¬ 0 ≤ tb := fun h => by simp [h, hop] at hb
        have e2 : st2d v.len i v.b g.vals tb = (g.vals, -1) := by unfold st2d; rw [if_neg hb]
        refine ⟨fun h => by simp at h <;> omega, fun h => ?_⟩
        refine ⟨fun h => by simp [hop] at h <;> omega, fun _ => ?_⟩
        refine ⟨fun h => by simp at h <;> omega, fun _ => ?_⟩
        have hm : moveP g.vals v i ta tb tc = (g.vals, -1) := by unfold moveP mvDiv; rw [if_neg (by omega), if_neg (by omega), if_pos hop]; rw [e1]; dsimp only; rw [e2]; dsimp only; unfold st3d; rw [if_neg (by omega), if_neg (by omega), if_neg (by omega)] <;> rfl
        rw [hm]
        exact ⟨(some ⟨bq, 0, none⟩), rfl, og, Mv.refl _ _⟩
set_option maxHeartbeats 1000000 in
theorem l2move_max (K : Heap) (lo : Nat) (p q r : Option Addr) (g : Graph) (v : Val) (i ta tb tc : Int) (og : OwnG K lo K.next p q r g) (hlo : lo ≤ K.next) (hl : g.vals.length ≤ 100000) (h0 : 0 ≤ i) (hi : i < g.vals.length) (hv : vAtI g.vals i = v) (hop : v.op = 7) :
    EC Try.prog 36 [gV p q r g, .int .i64 i, .int .i64 ta, .int .i64 tb, .int .i64 tc] K (OR K lo p q r g (moveP g.vals v i ta tb tc)) := by
  refine EC_fn ctx (fun _ => true) Try.func36 rfl rfl rfl ?_
  obtain ⟨bq, hq⟩ := bufq_some og.s (by omega)
  subst hq
  obtain ⟨c0, c1, c2, _, hva⟩ := valF_at og.s.rd h0 hi
  rw [hv] at hva
  refine ⟨⟨h0, hi⟩, valV v, hva, ?_⟩
  refine ⟨fun h => by simp [hop] at h, fun _ => ⟨fun h => by simp [hop] at h, fun _ => ⟨fun _ => ?_, fun h => by simp [hop] at h⟩⟩⟩
  refine ⟨fun h => by simp [hop] at h, fun _ => ?_⟩
  refine ⟨fun hn => ?_, fun hn => ?_⟩
  · have hn : ta < 0 ∧ tb < 0 := by
      by_cases h : ta < 0
      · simp [h] at hn; exact ⟨h, hn⟩
      · simp [h] at hn
    have hm : moveP g.vals v i ta tb tc = (g.vals, -1) := by unfold moveP mvMax; rw [if_neg (by omega), if_neg (by omega), if_neg (by omega), if_pos hop]; rw [if_pos hn]
    rw [hm]
    exact ⟨(some ⟨bq, 0, none⟩), rfl, og, Mv.refl _ _⟩
  · have hn : ¬ (ta < 0 ∧ tb < 0) := by rintro ⟨a, b⟩; simp [a, b] at hn
    refine ⟨fun _ => ?_, fun h => by simp [hop] at h⟩
    refine ⟨.leaf [([0, 1, 2, 3, 4, 5, 6], some 7), ([], some 8), ([], none)] [], by kernel_rfl, _, l2op_pc _ _ _ _ _ _, ?_⟩
    refine ⟨_, l2put_ec K lo p (some ⟨bq, 0, none⟩) r g (opV 3 v.len v.a v.b 0) og hlo (by omega), ?_, fun v K hR => hR.no.elim⟩
    rintro _ K1 ⟨q1, hx, o1, m1⟩
    cases hx
    have ln1 := putG_len g (opV 3 v.len v.a v.b 0)
    have lo1 : lo ≤ K1.next := Nat.le_trans hlo m1.next
    refine ⟨_, l2last_put K1 _ _ _ _ _ (by omega), ?_, fun v K hR => by cases hR.1⟩
    rintro _ K1 ⟨hx, rfl⟩
    cases hx
    refine ⟨_, l2or_ec K1 lo p q1 r (putG g (opV 3 v.len v.a v.b 0)) ta v.len o1 lo1 (by omega), ?_, fun v K hR => hR.no.elim⟩
    rintro _ K2 ⟨q2, hx, o2, m2⟩
    cases hx
    have lo2 : lo ≤ K2.next := Nat.le_trans lo1 m2.next
    have ln2 : (⟨g.ins, (orP (putG g (opV 3 v.len v.a v.b 0)).vals ta v.len).1, g.outs⟩ : Graph).vals.length ≤ (putG g (opV 3 v.len v.a v.b 0)).vals.length + 1 := (orP_len (putG g (opV 3 v.len v.a v.b 0)).vals ta v.len).2
    refine ⟨_, l2or_ec K2 lo p q2 r (⟨g.ins, (orP (putG g (opV 3 v.len v.a v.b 0)).vals ta v.len).1, g.outs⟩ : Graph) tb v.len o2 lo2 (by omega), ?_, fun v K hR => hR.no.elim⟩
    rintro _ K3 ⟨q3, hx, o3, m3⟩
    cases hx
    have lo3 : lo ≤ K3.next := Nat.le_trans lo2 m3.next
    have ln3 : (⟨g.ins, (orP (⟨g.ins, (orP (putG g (opV 3 v.len v.a v.b 0)).vals ta v.len).1, g.outs⟩ : Graph).vals tb v.len).1, g.outs⟩ : Graph).vals.length ≤ (⟨g.ins, (orP (putG g (opV 3 v.len v.a v.b 0)).vals ta v.len).1, g.outs⟩ : Graph).vals.length + 1 := (orP_len (⟨g.ins, (orP (putG g (opV 3 v.len v.a v.b 0)).vals ta v.len).1, g.outs⟩ : Graph).vals tb v.len).2
    refine ⟨.leaf [([0, 1, 2, 3, 4, 5], some 6), ([], some 7), ([], none)] [], by kernel_rfl, _, l2op_pc _ _ _ _ _ _, ?_⟩
    refine ⟨_, l2put_ec K3 lo p q3 r (⟨g.ins, (orP (⟨g.ins, (orP (putG g (opV 3 v.len v.a v.b 0)).vals ta v.len).1, g.outs⟩ : Graph).vals tb v.len).1, g.outs⟩ : Graph) (opV 8 v.len (g.vals.length : Int) (orP (putG g (opV 3 v.len v.a v.b 0)).vals ta v.len).2 (orP (⟨g.ins, (orP (putG g (opV 3 v.len v.a v.b 0)).vals ta v.len).1, g.outs⟩ : Graph).vals tb v.len).2) o3 lo3 (by omega), ?_, fun v K hR => hR.no.elim⟩
    rintro _ K4 ⟨q4, hx, o4, m4⟩
    cases hx
    have ln4 := putG_len (⟨g.ins, (orP (⟨g.ins, (orP (putG g (opV 3 v.len v.a v.b 0)).vals ta v.len).1, g.outs⟩ : Graph).vals tb v.len).1, g.outs⟩ : Graph) (opV 8 v.len (g.vals.length : Int) (orP (putG g (opV 3 v.len v.a v.b 0)).vals ta v.len).2 (orP (⟨g.ins, (orP (putG g (opV 3 v.len v.a v.b 0)).vals ta v.len).1, g.outs⟩ : Graph).vals tb v.len).2)
    have lo4 : lo ≤ K4.next := Nat.le_trans lo3 m4.next
    refine ⟨.leaf [([0, 1, 2], some 3), ([4], none)] [], by kernel_rfl, _, l2last_put K4 _ _ _ _ _ (by omega), ?_⟩
    have hm : moveP g.vals v i ta tb tc = ((putG (⟨g.ins, (orP (⟨g.ins, (orP (putG g (opV 3 v.len v.a v.b 0)).vals ta v.len).1, g.outs⟩ : Graph).vals tb v.len).1, g.outs⟩ : Graph) (opV 8 v.len (g.vals.length : Int) (orP (putG g (opV 3 v.len v.a v.b 0)).vals ta v.len).2 (orP (⟨g.ins, (orP (putG g (opV 3 v.len v.a v.b 0)).vals ta v.len).1, g.outs⟩ : Graph).vals tb v.len).2)).vals, ((orP (⟨g.ins, (orP (putG g (opV 3 v.len v.a v.b 0)).vals ta v.len).1, g.outs⟩ : Graph).vals tb v.len).1.length : Int)) := by unfold moveP mvMax; rw [if_neg (by omega), if_neg (by omega), if_neg (by omega), if_pos hop]; rw [if_neg hn]; rfl
    rw [hm]
    exact ⟨q4, rfl, o4, (((m1.trans m2).trans m3).trans m4)⟩
set_option maxHeartbeats 1000000 in
theorem l2move_sel (K : Heap) (lo : Nat) (p q r : Option Addr) (g : Graph) (v : Val) (i ta tb tc : Int) (og : OwnG K lo K.next p q r g) (hlo : lo ≤ K.next) (hl : g.vals.length ≤ 100000) (h0 : 0 ≤ i) (hi : i < g.vals.length) (hv : vAtI g.vals i = v) (hop : v.op = 8) :
    EC Try.prog 36 [gV p q r g, .int .i64 i, .int .i64 ta, .int .i64 tb, .int .i64 tc] K (OR K lo p q r g (moveP g.vals v i ta tb tc)) := by
  refine EC_fn ctx (fun _ => true) Try.func36 rfl rfl rfl ?_
  obtain ⟨bq, hq⟩ := bufq_some og.s (by omega)
  subst hq
  obtain ⟨c0, c1, c2, _, hva⟩ := valF_at og.s.rd h0 hi
  rw [hv] at hva
  refine ⟨⟨h0, hi⟩, valV v, hva, ?_⟩
  refine ⟨fun h => by simp [hop] at h, fun _ => ⟨fun h => by simp [hop] at h, fun _ => ⟨fun _ => ?_, fun h => by simp [hop] at h⟩⟩⟩
  refine ⟨fun _ => ?_, fun h => by simp [hop] at h⟩
  refine ⟨fun hn => ?_, fun hn => ?_⟩
  · have hn : tb < 0 ∧ tc < 0 := by
      by_cases h : tb < 0
      · simp [h] at hn; exact ⟨h, hn⟩
      · simp [h] at hn
    have hm : moveP g.vals v i ta tb tc = (g.vals, -1) := by unfold moveP mvSel; rw [if_neg (by omega), if_neg (by omega), if_neg (by omega), if_neg (by omega), if_pos hop]; rw [if_pos hn]
    rw [hm]
    exact ⟨(some ⟨bq, 0, none⟩), rfl, og, Mv.refl _ _⟩
  · have hn : ¬ (tb < 0 ∧ tc < 0) := by rintro ⟨a, b⟩; simp [a, b] at hn
    refine ⟨fun h => by simp [hop] at h, fun _ => ?_⟩
    refine ⟨_, l2or_ec K lo p (some ⟨bq, 0, none⟩) r g tb v.len og hlo (by omega), ?_, fun v K hR => hR.no.elim⟩
    rintro _ K1 ⟨q1, hx, o1, m1⟩
    cases hx
    have lo1 : lo ≤ K1.next := Nat.le_trans hlo m1.next
    have ln1 : (⟨g.ins, (orP g.vals tb v.len).1, g.outs⟩ : Graph).vals.length ≤ g.vals.length + 1 := (orP_len g.vals tb v.len).2
    refine ⟨_, l2or_ec K1 lo p q1 r (⟨g.ins, (orP g.vals tb v.len).1, g.outs⟩ : Graph) tc v.len o1 lo1 (by omega), ?_, fun v K hR => hR.no.elim⟩
    rintro _ K2 ⟨q2, hx, o2, m2⟩
    cases hx
    have lo2 : lo ≤ K2.next := Nat.le_trans lo1 m2.next
    have ln2 : (⟨g.ins, (orP (⟨g.ins, (orP g.vals tb v.len).1, g.outs⟩ : Graph).vals tc v.len).1, g.outs⟩ : Graph).vals.length ≤ (⟨g.ins, (orP g.vals tb v.len).1, g.outs⟩ : Graph).vals.length + 1 := (orP_len (⟨g.ins, (orP g.vals tb v.len).1, g.outs⟩ : Graph).vals tc v.len).2
    refine ⟨.leaf [([0, 1, 2, 3, 4, 5], some 6), ([], some 7), ([], none)] [], by kernel_rfl, _, l2op_pc _ _ _ _ _ _, ?_⟩
    refine ⟨_, l2put_ec K2 lo p q2 r (⟨g.ins, (orP (⟨g.ins, (orP g.vals tb v.len).1, g.outs⟩ : Graph).vals tc v.len).1, g.outs⟩ : Graph) (opV 8 v.len v.a (orP g.vals tb v.len).2 (orP (⟨g.ins, (orP g.vals tb v.len).1, g.outs⟩ : Graph).vals tc v.len).2) o2 lo2 (by omega), ?_, fun v K hR => hR.no.elim⟩
    rintro _ K3 ⟨q3, hx, o3, m3⟩
    cases hx
    have ln3 := putG_len (⟨g.ins, (orP (⟨g.ins, (orP g.vals tb v.len).1, g.outs⟩ : Graph).vals tc v.len).1, g.outs⟩ : Graph) (opV 8 v.len v.a (orP g.vals tb v.len).2 (orP (⟨g.ins, (orP g.vals tb v.len).1, g.outs⟩ : Graph).vals tc v.len).2)
    have lo3 : lo ≤ K3.next := Nat.le_trans lo2 m3.next
    refine ⟨.leaf [([0, 1, 2], some 3), ([4], none)] [], by kernel_rfl, _, l2last_put K3 _ _ _ _ _ (by omega), ?_⟩
    have hm : moveP g.vals v i ta tb tc = ((putG (⟨g.ins, (orP (⟨g.ins, (orP g.vals tb v.len).1, g.outs⟩ : Graph).vals tc v.len).1, g.outs⟩ : Graph) (opV 8 v.len v.a (orP g.vals tb v.len).2 (orP (⟨g.ins, (orP g.vals tb v.len).1, g.outs⟩ : Graph).vals tc v.len).2)).vals, ((orP (⟨g.ins, (orP g.vals tb v.len).1, g.outs⟩ : Graph).vals tc v.len).1.length : Int)) := by unfold moveP mvSel; rw [if_neg (by omega), if_neg (by omega), if_neg (by omega), if_neg (by omega), if_pos hop]; rw [if_neg hn]; rfl
    rw [hm]
    exact ⟨q3, rfl, o3, ((m1.trans m2).trans m3)⟩
set_option maxHeartbeats 1000000 in
theorem l2move_one (K : Heap) (lo : Nat) (p q r : Option Addr) (g : Graph) (v : Val) (i ta tb tc : Int) (og : OwnG K lo K.next p q r g) (hlo : lo ≤ K.next) (hl : g.vals.length ≤ 100000) (h0 : 0 ≤ i) (hi : i < g.vals.length) (hv : vAtI g.vals i = v) (hop : v.op = 6 ∨ 9 ≤ v.op) :
    EC Try.prog 36 [gV p q r g, .int .i64 i, .int .i64 ta, .int .i64 tb, .int .i64 tc] K (OR K lo p q r g (moveP g.vals v i ta tb tc)) := by
  refine EC_fn ctx (fun _ => true) Try.func36 rfl rfl rfl ?_
  obtain ⟨bq, hq⟩ := bufq_some og.s (by omega)
  subst hq
  obtain ⟨c0, c1, c2, _, hva⟩ := valF_at og.s.rd h0 hi
  rw [hv] at hva
  refine ⟨⟨h0, hi⟩, valV v, hva, ?_⟩
  refine ⟨fun h => by simp at h <;> omega, fun _ => ⟨fun h => by simp at h <;> omega, fun _ => ⟨fun h => by simp at h <;> omega, fun _ => ?_⟩⟩⟩
  refine ⟨fun ha => ?_, fun ha => ?_⟩
  · have ha : ta < 0 := by simpa using ha
    have hm : moveP g.vals v i ta tb tc = (g.vals, -1) := by unfold moveP mvOne; rw [if_neg (by omega), if_neg (by omega), if_neg (by omega), if_neg (by omega), if_neg (by omega)]; rw [if_pos ha]
    rw [hm]
    exact ⟨(some ⟨bq, 0, none⟩), rfl, og, Mv.refl _ _⟩
  · have ha : ¬ ta < 0 := by simp at ha; omega
    refine ⟨fun h13 => ?_, fun h13 => ?_⟩
    · have h13 : v.op = 13 := by simpa using h13
      refine ⟨.leaf [([0, 1, 2, 3, 4], some 5), ([], some 6), ([], none)] [], by kernel_rfl, _, l2op_pc _ _ _ _ _ _, ?_⟩
      refine ⟨_, l2put_ec K lo p (some ⟨bq, 0, none⟩) r g (opV 4 v.len ta i 0) og hlo (by omega), ?_, fun v K hR => hR.no.elim⟩
      rintro _ K1 ⟨q1, hx, o1, m1⟩
      cases hx
      have ln1 := putG_len g (opV 4 v.len ta i 0)
      have lo1 : lo ≤ K1.next := Nat.le_trans hlo m1.next
      refine ⟨.leaf [([0, 1, 2], some 3), ([4], none)] [], by kernel_rfl, _, l2last_put K1 _ _ _ _ _ (by omega), ?_⟩
      have hm : moveP g.vals v i ta tb tc = ((putG g (opV 4 v.len ta i 0)).vals, (g.vals.length : Int)) := by unfold moveP mvOne; rw [if_neg (by omega), if_neg (by omega), if_neg (by omega), if_neg (by omega), if_neg (by omega)]; rw [if_neg ha, if_pos h13]; rfl
      rw [hm]
      exact ⟨q1, rfl, o1, m1⟩
    · have h13 : ¬ v.op = 13 := by simpa using h13
      refine ⟨.leaf [([0, 1, 2, 3, 4, 5, 6, 7], some 8), ([], some 9), ([], none)] [], by kernel_rfl, _, l2op_pc _ _ _ _ _ _, ?_⟩
      refine ⟨_, l2put_ec K lo p (some ⟨bq, 0, none⟩) r g (opV v.op v.len ta 0 v.c) og hlo (by omega), ?_, fun v K hR => hR.no.elim⟩
      rintro _ K1 ⟨q1, hx, o1, m1⟩
      cases hx
      have ln1 := putG_len g (opV v.op v.len ta 0 v.c)
      have lo1 : lo ≤ K1.next := Nat.le_trans hlo m1.next
      refine ⟨.leaf [([0, 1, 2], some 3), ([4], none)] [], by kernel_rfl, _, l2last_put K1 _ _ _ _ _ (by omega), ?_⟩
      have hm : moveP g.vals v i ta tb tc = ((putG g (opV v.op v.len ta 0 v.c)).vals, (g.vals.length : Int)) := by unfold moveP mvOne; rw [if_neg (by omega), if_neg (by omega), if_neg (by omega), if_neg (by omega), if_neg (by omega)]; rw [if_neg ha, if_neg h13]; rfl
      rw [hm]
      exact ⟨q1, rfl, o1, m1⟩
theorem l2move_ec (K : Heap) (lo : Nat) (p q r : Option Addr) (g : Graph) (v : Val) (i ta tb tc : Int) (og : OwnG K lo K.next p q r g) (hlo : lo ≤ K.next) (hl : g.vals.length ≤ 100000) (h0 : 0 ≤ i) (hi : i < g.vals.length) (hv : vAtI g.vals i = v) (hop : 2 ≤ v.op) :
    EC Try.prog 36 [gV p q r g, .int .i64 i, .int .i64 ta, .int .i64 tb, .int .i64 tc] K (OR K lo p q r g (moveP g.vals v i ta tb tc)) := by
  by_cases h1 : v.op = 2 ∨ v.op = 3
  · exact l2move_lin K lo p q r g v i ta tb tc og hlo hl h0 hi hv h1
  by_cases h2 : v.op = 4
  · exact l2move_mul K lo p q r g v i ta tb tc og hlo hl h0 hi hv h2
  by_cases h3 : v.op = 5
  · exact l2move_div K lo p q r g v i ta tb tc og hlo hl h0 hi hv h3
  by_cases h4 : v.op = 7
  · exact l2move_max K lo p q r g v i ta tb tc og hlo hl h0 hi hv h4
  by_cases h5 : v.op = 8
  · exact l2move_sel K lo p q r g v i ta tb tc og hlo hl h0 hi hv h5
  · exact l2move_one K lo p q r g v i ta tb tc og hlo hl h0 hi hv (by omega)
end Go.Proofs.Ytimenmejmofkaaa
