/- The program's moves. Written by genjvj.py. Conditions: the index is one of the builder's values. -/
import Derived.Test.YtimenmejmofkaaaJvi
set_option linter.unusedVariables false
set_option linter.unusedSimpArgs false
namespace Go.Proofs.Ytimenmejmofkaaa
open Go.Am

theorem MS.alloc' {K0 X : Heap} {q0 : Option Addr} {lo b : Nat} {p q r : Option Addr} {ins outs : List Int} {vs : List Val} {T : List (Nat × Value)} (ms : MS K0 q0 X lo b p q r ins outs vs T) (v : Value) (x : Nat) (hx : X.next = x) : MS K0 q0 (X.push (.cells [v] 1 true)) lo b p q r ins outs vs ((x, v) :: T) := by
  subst hx; exact ms.alloc v
theorem MS.oldlt {K0 X : Heap} {q0 : Option Addr} {lo b : Nat} {p q r : Option Addr} {ins outs : List Int} {vs : List Val} {T : List (Nat × Value)} (ms : MS K0 q0 X lo b p q r ins outs vs T) : K0.next ≤ X.next := ms.fr.next
theorem PreL.pre {n : Int} {k : Nat} {a c : List Val} (h : PreL n k a c) (hn : 0 ≤ n ∧ n ≤ 1000) : Pre a c := by
  obtain ⟨e, rfl, _, h⟩ := h
  exact ⟨e, rfl, fun v hv => by rw [h v hv]; exact hn⟩
theorem Pre.st1 (op n b : Int) (vs : List Val) (ta : Int) (hn : 0 ≤ n ∧ n ≤ 1000) : Pre vs (st1 op n b vs ta).1 := st1_pre.1.pre hn
theorem Pre.st2m (n a : Int) (vs : List Val) (ta : Int) (hn : 0 ≤ n ∧ n ≤ 1000) : Pre vs (st2m n a vs ta).1 := st2m_pre.1.pre hn
theorem Pre.st2d (n i b : Int) (vs : List Val) (ta : Int) (hn : 0 ≤ n ∧ n ≤ 1000) : Pre vs (st2d n i b vs ta).1 := st2d_pre.1.pre hn
theorem Pre.st3m (n : Int) (vs : List Val) (x y : Int) (hn : 0 ≤ n ∧ n ≤ 1000) : Pre vs (st3m n vs x y).1 := by
  unfold Go.Proofs.Ytimenmejmofkaaa.st3m
  repeat' split
  · exact .snoc _ _ hn
  · exact .refl _
  · exact .refl _
theorem Pre.st3d (n : Int) (vs : List Val) (x y : Int) (hn : 0 ≤ n ∧ n ≤ 1000) : Pre vs (st3d n vs x y).1 := by
  unfold Go.Proofs.Ytimenmejmofkaaa.st3d
  repeat' split
  · exact .snoc _ _ hn
  · exact .refl _
  · exact .snoc _ _ hn
  · exact .refl _
theorem Pre.orP (vs : List Val) (a n : Int) (hn : 0 ≤ n ∧ n ≤ 1000) : Pre vs (orP vs a n).1 := by
  unfold Go.Proofs.Ytimenmejmofkaaa.orP
  split
  · exact .refl _
  · exact .snoc _ _ hn

set_option maxHeartbeats 2000000 in
theorem move_lin2 (K : Heap) (lo b : Nat) (p q r : Option Addr) (ins outs : List Int) (vs : List Val) (v : Val) (i ta tb tc : Int) (h : BAt K lo b p q r ins vs outs) (hlo : lo ≤ K.next) (h0 : 0 ≤ i) (hi : i < vs.length) (hv : vAtI vs i = v) (hvl : 0 ≤ v.len ∧ v.len ≤ 1000) (hb1 : -1 ≤ tb) (hop : v.op = 2) :
    EC Try.prog 47 [ptr b, int' i, int' ta, int' tb, int' tc] K (BR K lo b p q r ins outs (moveP vs v i ta tb tc)) := by
  have ms0 := MS.start h hlo
  have ms3 := ((ms0.alloc' (ptr b) K.next rfl).alloc' (int' ta) (K.next + 1) rfl).alloc' (int' tb) (K.next + 2) rfl
  have ms4 := (ms3.alloc' (int' 0) (K.next + 3) rfl).set (x := K.next + 3) (v := int' 0) (v' := int' v.len) (.head _) (T' := [(K.next + 3, int' v.len), (K.next + 2, int' tb), (K.next + 1, int' ta), (K.next, ptr b)]) (fun y w hy => by
    simp at hy; rcases hy with ⟨rfl, rfl⟩ | ⟨rfl, rfl⟩ | ⟨rfl, rfl⟩ | ⟨rfl, rfl⟩ <;> simp)
  obtain ⟨bq, rfl⟩ : ∃ bq, q = some ⟨bq, 0, none⟩ := bufq_some h.own.s (by show 0 < vs.length; omega)
  obtain ⟨c0, c1, c2, _, hva⟩ := valF_at ms3.at_.own.s.rd h0 hi
  rw [hv] at hva
  refine EC_fn ctx (fun t => t != 5 && t != 7 && t != 8 && t != 12 && t != 14 && t != 15 && t != 16 && t != 17) Try.func47 rfl rfl rfl ?_
  refine ⟨_, ms3.cell (x := K.next) (v := ptr b) (by simp), _, ms3.at_.cell1, ⟨h0, hi⟩, valV v, hva, ?_⟩
  refine ⟨stOK_push _ _ _ _ _ (Nat.le_refl 1), ?_⟩
  rw [show moveP vs v i ta tb tc = mvLin 2 v.len vs ta tb by unfold moveP; rw [if_pos (by omega), hop]]
  refine ⟨fun _ => ?_, fun h => by simp [hop] at h⟩
  refine ⟨_, ms4.cell (x := K.next + 1) (v := int' ta) (by simp), _, ms4.cell (x := K.next + 2) (v := int' tb) (by simp), ?_⟩
  refine ⟨_, joined_ec _ ta tb _ _ _ _ (BR K lo b p (some ⟨bq, 0, none⟩) r ins outs (mvLin 2 v.len vs ta tb)) (fun ha hb => ?_) (fun ha hb => ?_) (fun ha hb => ?_) (fun ha hb => ?_) ?_, ?_, fun v K h => h⟩
  · refine (move2_ec ms4 (x5 := K.next) (x12 := K.next + 3) (x7 := K.next + 1) (x8 := K.next + 2) (n := v.len) (ta := ta) (tb := tb) (by simp) (by simp) (by simp) (by simp) hvl).mono fun e X h => ?_
    rw [show (mvLin 2 v.len vs ta tb) = (vs ++ [opV 2 v.len ta tb 0], (vs.length : Int)) by unfold mvLin; rw [if_pos ⟨ha, hb⟩]]
    exact h.fin
  · refine (move3_ec ms4 (x8 := K.next + 2) (tb := tb) (by simp)).mono fun e X h => ?_
    rw [show (mvLin 2 v.len vs ta tb) = (vs, tb) by unfold mvLin; rw [if_neg (by omega), if_neg ha, if_neg (by omega)]]
    exact h.fin
  · rw [show (mvLin 2 v.len vs ta tb) = (vs, ta) by unfold mvLin; rw [if_neg (by omega), if_pos ha]]
    exact ms4.fin _
  · rw [show (mvLin 2 v.len vs ta tb) = (vs, -1) by unfold mvLin; rw [if_neg (by omega), if_neg ha, if_neg (by omega)]; exact Prod.ext rfl (by dsimp only; omega)]
    exact ms4.fin _
  · rintro v X (⟨_, _, hv, _⟩ | ⟨_, hv, _⟩)
    · cases hv; exact ⟨_, rfl⟩
    · cases hv
  · rintro v X (⟨hf, _, hv, h1, h2⟩ | ⟨_, hv, _⟩)
    · cases hv; exact .inl ⟨hf, _, rfl, h1, h2⟩
    · cases hv
set_option maxHeartbeats 2000000 in
theorem move_lin3 (K : Heap) (lo b : Nat) (p q r : Option Addr) (ins outs : List Int) (vs : List Val) (v : Val) (i ta tb tc : Int) (h : BAt K lo b p q r ins vs outs) (hlo : lo ≤ K.next) (h0 : 0 ≤ i) (hi : i < vs.length) (hv : vAtI vs i = v) (hvl : 0 ≤ v.len ∧ v.len ≤ 1000) (hb1 : -1 ≤ tb) (hop : v.op = 3) :
    EC Try.prog 47 [ptr b, int' i, int' ta, int' tb, int' tc] K (BR K lo b p q r ins outs (moveP vs v i ta tb tc)) := by
  have ms0 := MS.start h hlo
  have ms3 := ((ms0.alloc' (ptr b) K.next rfl).alloc' (int' ta) (K.next + 1) rfl).alloc' (int' tb) (K.next + 2) rfl
  have ms4 := (ms3.alloc' (int' 0) (K.next + 3) rfl).set (x := K.next + 3) (v := int' 0) (v' := int' v.len) (.head _) (T' := [(K.next + 3, int' v.len), (K.next + 2, int' tb), (K.next + 1, int' ta), (K.next, ptr b)]) (fun y w hy => by
    simp at hy; rcases hy with ⟨rfl, rfl⟩ | ⟨rfl, rfl⟩ | ⟨rfl, rfl⟩ | ⟨rfl, rfl⟩ <;> simp)
  obtain ⟨bq, rfl⟩ : ∃ bq, q = some ⟨bq, 0, none⟩ := bufq_some h.own.s (by show 0 < vs.length; omega)
  obtain ⟨c0, c1, c2, _, hva⟩ := valF_at ms3.at_.own.s.rd h0 hi
  rw [hv] at hva
  refine EC_fn ctx (fun t => t != 5 && t != 7 && t != 8 && t != 12 && t != 14 && t != 15 && t != 16 && t != 17) Try.func47 rfl rfl rfl ?_
  refine ⟨_, ms3.cell (x := K.next) (v := ptr b) (by simp), _, ms3.at_.cell1, ⟨h0, hi⟩, valV v, hva, ?_⟩
  refine ⟨stOK_push _ _ _ _ _ (Nat.le_refl 1), ?_⟩
  rw [show moveP vs v i ta tb tc = mvLin 3 v.len vs ta tb by unfold moveP; rw [if_pos (by omega), hop]]
  refine ⟨fun h => by simp [hop] at h, fun _ => ⟨fun _ => ?_, fun h => by simp [hop] at h⟩⟩
  refine ⟨_, ms4.cell (x := K.next + 1) (v := int' ta) (by simp), _, ms4.cell (x := K.next + 2) (v := int' tb) (by simp), ?_⟩
  refine ⟨_, joined_ec _ ta tb _ _ _ _ (BR K lo b p (some ⟨bq, 0, none⟩) r ins outs (mvLin 3 v.len vs ta tb)) (fun ha hb => ?_) (fun ha hb => ?_) (fun ha hb => ?_) (fun ha hb => ?_) ?_, ?_, fun v K h => h⟩
  · refine (move4_ec ms4 (x5 := K.next) (x12 := K.next + 3) (x7 := K.next + 1) (x8 := K.next + 2) (n := v.len) (ta := ta) (tb := tb) (by simp) (by simp) (by simp) (by simp) hvl).mono fun e X h => ?_
    rw [show (mvLin 3 v.len vs ta tb) = (vs ++ [opV 3 v.len ta tb 0], (vs.length : Int)) by unfold mvLin; rw [if_pos ⟨ha, hb⟩]]
    exact h.fin
  · refine (move5_ec ms4 (x5 := K.next) (x12 := K.next + 3) (x8 := K.next + 2) (n := v.len) (tb := tb) (by simp) (by simp) (by simp) hvl).mono fun e X h => ?_
    rw [show (mvLin 3 v.len vs ta tb) = (vs ++ [opV 6 v.len tb 0 0], (vs.length : Int)) by unfold mvLin; rw [if_neg (by omega), if_neg ha, if_pos ⟨hb, rfl⟩]]
    exact h.fin
  · rw [show (mvLin 3 v.len vs ta tb) = (vs, ta) by unfold mvLin; rw [if_neg (by omega), if_pos ha]]
    exact ms4.fin _
  · rw [show (mvLin 3 v.len vs ta tb) = (vs, -1) by unfold mvLin; rw [if_neg (by omega), if_neg ha, if_neg (by omega)]; exact Prod.ext rfl (by dsimp only; omega)]
    exact ms4.fin _
  · rintro v X (⟨_, _, hv, _⟩ | ⟨_, hv, _⟩)
    · cases hv; exact ⟨_, rfl⟩
    · cases hv
  · rintro v X (⟨hf, _, hv, h1, h2⟩ | ⟨_, hv, _⟩)
    · cases hv; exact .inl ⟨hf, _, rfl, h1, h2⟩
    · cases hv
set_option maxHeartbeats 2000000 in
theorem move_mul (K : Heap) (lo b : Nat) (p q r : Option Addr) (ins outs : List Int) (vs : List Val) (v : Val) (i ta tb tc : Int) (h : BAt K lo b p q r ins vs outs) (hlo : lo ≤ K.next) (h0 : 0 ≤ i) (hi : i < vs.length) (hv : vAtI vs i = v) (hvl : 0 ≤ v.len ∧ v.len ≤ 1000) (hb1 : -1 ≤ tb) (hop : v.op = 4) :
    EC Try.prog 47 [ptr b, int' i, int' ta, int' tb, int' tc] K (BR K lo b p q r ins outs (moveP vs v i ta tb tc)) := by
  have ms0 := MS.start h hlo
  have ms3 := ((ms0.alloc' (ptr b) K.next rfl).alloc' (int' ta) (K.next + 1) rfl).alloc' (int' tb) (K.next + 2) rfl
  have ms4 := (ms3.alloc' (int' 0) (K.next + 3) rfl).set (x := K.next + 3) (v := int' 0) (v' := int' v.len) (.head _) (T' := [(K.next + 3, int' v.len), (K.next + 2, int' tb), (K.next + 1, int' ta), (K.next, ptr b)]) (fun y w hy => by
    simp at hy; rcases hy with ⟨rfl, rfl⟩ | ⟨rfl, rfl⟩ | ⟨rfl, rfl⟩ | ⟨rfl, rfl⟩ <;> simp)
  obtain ⟨bq, rfl⟩ : ∃ bq, q = some ⟨bq, 0, none⟩ := bufq_some h.own.s (by show 0 < vs.length; omega)
  obtain ⟨c0, c1, c2, _, hva⟩ := valF_at ms3.at_.own.s.rd h0 hi
  rw [hv] at hva
  refine EC_fn ctx (fun t => t != 5 && t != 7 && t != 8 && t != 12 && t != 14 && t != 15 && t != 16 && t != 17) Try.func47 rfl rfl rfl ?_
  refine ⟨_, ms3.cell (x := K.next) (v := ptr b) (by simp), _, ms3.at_.cell1, ⟨h0, hi⟩, valV v, hva, ?_⟩
  refine ⟨stOK_push _ _ _ _ _ (Nat.le_refl 1), ?_⟩
  rw [show moveP vs v i ta tb tc = mvMul v vs ta tb by unfold moveP; rw [if_neg (by omega), if_pos hop]]
  refine ⟨fun h => by simp [hop] at h, fun _ => ⟨fun h => by simp [hop] at h, fun _ => ⟨fun _ => ?_, fun h => by simp [hop] at h⟩⟩⟩
  have ms5 := (ms4.alloc' (int' 0) (K.next + 4) rfl).alloc' (int' 0) (K.next + 5) rfl
  have ms11 := ms5.set (x := K.next + 4) (v := int' 0) (v' := int' (-1)) (by simp) (T' := [(K.next + 5, int' 0), (K.next + 4, int' (-1)), (K.next + 3, int' v.len), (K.next + 2, int' tb), (K.next + 1, int' ta), (K.next, ptr b)]) (fun y w hy => by
    simp at hy; rcases hy with ⟨rfl, rfl⟩ | ⟨rfl, rfl⟩ | ⟨rfl, rfl⟩ | ⟨rfl, rfl⟩ | ⟨rfl, rfl⟩ | ⟨rfl, rfl⟩ <;> simp)
  have ms12 := ms11.set (x := K.next + 5) (v := int' 0) (v' := int' (-1)) (by simp) (T' := [(K.next + 5, int' (-1)), (K.next + 4, int' (-1)), (K.next + 3, int' v.len), (K.next + 2, int' tb), (K.next + 1, int' ta), (K.next, ptr b)]) (fun y w hy => by
    simp at hy; rcases hy with ⟨rfl, rfl⟩ | ⟨rfl, rfl⟩ | ⟨rfl, rfl⟩ | ⟨rfl, rfl⟩ | ⟨rfl, rfl⟩ | ⟨rfl, rfl⟩ <;> simp)
  refine ⟨ms5.stOK (x := K.next + 4) (v := int' 0) (by simp), ms11.stOK (x := K.next + 5) (v := int' 0) (by simp), _, ms12.cell (x := K.next + 1) (v := int' ta) (by simp), fun ha => ?_, fun ha => ?_⟩
  · skip
    have ha : 0 ≤ ta := by simpa using ha
    have e1 : st1 v.op v.len v.b vs ta = (vs ++ [fv 4 v.len [ta, v.b]], (vs.length : Int)) := by unfold st1; rw [if_pos ha, hop]; rfl
    refine ⟨_, ms12.cell (x := K.next) (v := ptr b) (by simp), _, ms12.cell (x := K.next + 3) (v := int' v.len) (by simp), _, ms12.cell (x := K.next + 1) (v := int' ta) (by simp), ?_⟩
    refine ⟨_, ms12.opB 4 v.len [ta, v.b] hvl (by simp), MR.elim2 fun q13 X13 ms13 => ?_, fun _ X h => h.pan (by unfold mvMul; rw [e1]; exact (Pre.st2m _ _ _ _ hvl).trans (Pre.st3m _ _ _ _ hvl))⟩
    refine ⟨ms13.stOK (x := K.next + 4) (v := int' (-1)) (by simp), ?_⟩
    have ms14 := ms13.set (x := K.next + 4) (v := int' (-1)) (v' := int' (vs.length : Int)) (by simp) (T' := [(K.next + 5, int' (-1)), (K.next + 4, int' (vs.length : Int)), (K.next + 3, int' v.len), (K.next + 2, int' tb), (K.next + 1, int' ta), (K.next, ptr b)]) (fun y w hy => by
      simp at hy; rcases hy with ⟨rfl, rfl⟩ | ⟨rfl, rfl⟩ | ⟨rfl, rfl⟩ | ⟨rfl, rfl⟩ | ⟨rfl, rfl⟩ | ⟨rfl, rfl⟩ <;> simp)
    refine ⟨_, ms14.cell (x := K.next + 2) (v := int' tb) (by simp), fun hb => ?_, fun hb => ?_⟩
    · skip
      have hb : 0 ≤ tb := by simpa using hb
      have e2 : st2m v.len v.a (vs ++ [fv 4 v.len [ta, v.b]]) tb = ((vs ++ [fv 4 v.len [ta, v.b]]) ++ [fv 4 v.len [v.a, tb]], ((vs ++ [fv 4 v.len [ta, v.b]]).length : Int)) := by unfold st2m; rw [if_pos hb]; rfl
      refine ⟨_, ms14.cell (x := K.next) (v := ptr b) (by simp), _, ms14.cell (x := K.next + 3) (v := int' v.len) (by simp), _, ms14.cell (x := K.next + 2) (v := int' tb) (by simp), ?_⟩
      refine ⟨_, ms14.opB 4 v.len [v.a, tb] hvl (by simp), MR.elim2 fun q15 X15 ms15 => ?_, fun _ X h => h.pan (by unfold mvMul; rw [e1]; dsimp only; rw [e2]; exact Pre.st3m _ _ _ _ hvl)⟩
      refine ⟨ms15.stOK (x := K.next + 5) (v := int' (-1)) (by simp), ?_⟩
      have ms16 := ms15.set (x := K.next + 5) (v := int' (-1)) (v' := int' ((vs ++ [fv 4 v.len [ta, v.b]]).length : Int)) (by simp) (T' := [(K.next + 5, int' ((vs ++ [fv 4 v.len [ta, v.b]]).length : Int)), (K.next + 4, int' (vs.length : Int)), (K.next + 3, int' v.len), (K.next + 2, int' tb), (K.next + 1, int' ta), (K.next, ptr b)]) (fun y w hy => by
        simp at hy; rcases hy with ⟨rfl, rfl⟩ | ⟨rfl, rfl⟩ | ⟨rfl, rfl⟩ | ⟨rfl, rfl⟩ | ⟨rfl, rfl⟩ | ⟨rfl, rfl⟩ <;> simp)
      refine ⟨_, ms16.cell (x := K.next + 4) (v := int' (vs.length : Int)) (by simp), _, ms16.cell (x := K.next + 5) (v := int' ((vs ++ [fv 4 v.len [ta, v.b]]).length : Int)) (by simp), ?_⟩
      refine ⟨_, joined_ec _ (vs.length : Int) ((vs ++ [fv 4 v.len [ta, v.b]]).length : Int) _ _ _ _ (BR K lo b p (some ⟨bq, 0, none⟩) r ins outs (mvMul v vs ta tb)) (fun ha hb => ?_) (fun ha hb => ?_) (fun ha hb => ?_) (fun ha hb => ?_) ?_, ?_, fun v K h => h⟩
      · refine (move6_ec ms16 (x5 := K.next) (x12 := K.next + 3) (x7 := K.next + 4) (x8 := K.next + 5) (n := v.len) (ta := (vs.length : Int)) (tb := ((vs ++ [fv 4 v.len [ta, v.b]]).length : Int)) (by simp) (by simp) (by simp) (by simp) hvl).mono fun e X h => ?_
        rw [show (mvMul v vs ta tb) = (((vs ++ [fv 4 v.len [ta, v.b]]) ++ [fv 4 v.len [v.a, tb]]) ++ [opV 2 v.len (vs.length : Int) ((vs ++ [fv 4 v.len [ta, v.b]]).length : Int) 0], (((vs ++ [fv 4 v.len [ta, v.b]]) ++ [fv 4 v.len [v.a, tb]]).length : Int)) by unfold mvMul; rw [e1]; dsimp only; rw [e2]; dsimp only; unfold st3m; rw [if_pos ⟨ha, hb⟩]]
        exact h.fin
      · refine (move7_ec ms16 (x8 := K.next + 5) (tb := ((vs ++ [fv 4 v.len [ta, v.b]]).length : Int)) (by simp)).mono fun e X h => ?_
        rw [show (mvMul v vs ta tb) = (((vs ++ [fv 4 v.len [ta, v.b]]) ++ [fv 4 v.len [v.a, tb]]), ((vs ++ [fv 4 v.len [ta, v.b]]).length : Int)) by unfold mvMul; rw [e1]; dsimp only; rw [e2]; dsimp only; unfold st3m; rw [if_neg (by omega), if_neg ha]]
        exact h.fin
      · rw [show (mvMul v vs ta tb) = (((vs ++ [fv 4 v.len [ta, v.b]]) ++ [fv 4 v.len [v.a, tb]]), (vs.length : Int)) by unfold mvMul; rw [e1]; dsimp only; rw [e2]; dsimp only; unfold st3m; rw [if_neg (by omega), if_pos ha]]
        exact ms16.fin _
      · rw [show (mvMul v vs ta tb) = (((vs ++ [fv 4 v.len [ta, v.b]]) ++ [fv 4 v.len [v.a, tb]]), -1) by unfold mvMul; rw [e1]; dsimp only; rw [e2]; dsimp only; unfold st3m; rw [if_neg (by omega), if_neg ha] <;> exact Prod.ext rfl (by dsimp only; omega)]
        exact ms16.fin _
      · rintro v X (⟨_, _, hv, _⟩ | ⟨_, hv, _⟩)
        · cases hv; exact ⟨_, rfl⟩
        · cases hv
      · rintro v X (⟨hf, _, hv, h1, h2⟩ | ⟨_, hv, _⟩)
        · cases hv; exact .inl ⟨hf, _, rfl, h1, h2⟩
        · cases hv
    · skip
      have hb : ¬ 0 ≤ tb := by simp at hb; omega
      have e2 : st2m v.len v.a (vs ++ [fv 4 v.len [ta, v.b]]) tb = ((vs ++ [fv 4 v.len [ta, v.b]]), -1) := by unfold st2m; rw [if_neg hb]
      refine ⟨_, ms14.cell (x := K.next + 4) (v := int' (vs.length : Int)) (by simp), _, ms14.cell (x := K.next + 5) (v := int' (-1)) (by simp), ?_⟩
      refine ⟨_, joined_ec _ (vs.length : Int) (-1) _ _ _ _ (BR K lo b p (some ⟨bq, 0, none⟩) r ins outs (mvMul v vs ta tb)) (fun ha hb => ?_) (fun ha hb => ?_) (fun ha hb => ?_) (fun ha hb => ?_) ?_, ?_, fun v K h => h⟩
      · refine (move6_ec ms14 (x5 := K.next) (x12 := K.next + 3) (x7 := K.next + 4) (x8 := K.next + 5) (n := v.len) (ta := (vs.length : Int)) (tb := (-1)) (by simp) (by simp) (by simp) (by simp) hvl).mono fun e X h => ?_
        rw [show (mvMul v vs ta tb) = ((vs ++ [fv 4 v.len [ta, v.b]]) ++ [opV 2 v.len (vs.length : Int) (-1) 0], ((vs ++ [fv 4 v.len [ta, v.b]]).length : Int)) by unfold mvMul; rw [e1]; dsimp only; rw [e2]; dsimp only; unfold st3m; rw [if_pos ⟨ha, hb⟩]]
        exact h.fin
      · refine (move7_ec ms14 (x8 := K.next + 5) (tb := (-1)) (by simp)).mono fun e X h => ?_
        rw [show (mvMul v vs ta tb) = ((vs ++ [fv 4 v.len [ta, v.b]]), (-1)) by unfold mvMul; rw [e1]; dsimp only; rw [e2]; dsimp only; unfold st3m; rw [if_neg (by omega), if_neg ha]]
        exact h.fin
      · rw [show (mvMul v vs ta tb) = ((vs ++ [fv 4 v.len [ta, v.b]]), (vs.length : Int)) by unfold mvMul; rw [e1]; dsimp only; rw [e2]; dsimp only; unfold st3m; rw [if_neg (by omega), if_pos ha]]
        exact ms14.fin _
      · rw [show (mvMul v vs ta tb) = ((vs ++ [fv 4 v.len [ta, v.b]]), -1) by unfold mvMul; rw [e1]; dsimp only; rw [e2]; dsimp only; unfold st3m; rw [if_neg (by omega), if_neg ha] <;> exact Prod.ext rfl (by dsimp only; omega)]
        exact ms14.fin _
      · rintro v X (⟨_, _, hv, _⟩ | ⟨_, hv, _⟩)
        · cases hv; exact ⟨_, rfl⟩
        · cases hv
      · rintro v X (⟨hf, _, hv, h1, h2⟩ | ⟨_, hv, _⟩)
        · cases hv; exact .inl ⟨hf, _, rfl, h1, h2⟩
        · cases hv
  · skip
    have ha : ¬ 0 ≤ ta := by simp at ha; omega
    have e1 : st1 v.op v.len v.b vs ta = (vs, -1) := by unfold st1; rw [if_neg ha]
    refine ⟨_, ms12.cell (x := K.next + 2) (v := int' tb) (by simp), fun hb => ?_, fun hb => ?_⟩
    · skip
      have hb : 0 ≤ tb := by simpa using hb
      have e2 : st2m v.len v.a vs tb = (vs ++ [fv 4 v.len [v.a, tb]], (vs.length : Int)) := by unfold st2m; rw [if_pos hb]; rfl
      refine ⟨_, ms12.cell (x := K.next) (v := ptr b) (by simp), _, ms12.cell (x := K.next + 3) (v := int' v.len) (by simp), _, ms12.cell (x := K.next + 2) (v := int' tb) (by simp), ?_⟩
      refine ⟨_, ms12.opB 4 v.len [v.a, tb] hvl (by simp), MR.elim2 fun q17 X17 ms17 => ?_, fun _ X h => h.pan (by unfold mvMul; rw [e1]; dsimp only; rw [e2]; exact Pre.st3m _ _ _ _ hvl)⟩
      refine ⟨ms17.stOK (x := K.next + 5) (v := int' (-1)) (by simp), ?_⟩
      have ms18 := ms17.set (x := K.next + 5) (v := int' (-1)) (v' := int' (vs.length : Int)) (by simp) (T' := [(K.next + 5, int' (vs.length : Int)), (K.next + 4, int' (-1)), (K.next + 3, int' v.len), (K.next + 2, int' tb), (K.next + 1, int' ta), (K.next, ptr b)]) (fun y w hy => by
        simp at hy; rcases hy with ⟨rfl, rfl⟩ | ⟨rfl, rfl⟩ | ⟨rfl, rfl⟩ | ⟨rfl, rfl⟩ | ⟨rfl, rfl⟩ | ⟨rfl, rfl⟩ <;> simp)
      refine ⟨_, ms18.cell (x := K.next + 4) (v := int' (-1)) (by simp), _, ms18.cell (x := K.next + 5) (v := int' (vs.length : Int)) (by simp), ?_⟩
      refine ⟨_, joined_ec _ (-1) (vs.length : Int) _ _ _ _ (BR K lo b p (some ⟨bq, 0, none⟩) r ins outs (mvMul v vs ta tb)) (fun ha hb => ?_) (fun ha hb => ?_) (fun ha hb => ?_) (fun ha hb => ?_) ?_, ?_, fun v K h => h⟩
      · refine (move6_ec ms18 (x5 := K.next) (x12 := K.next + 3) (x7 := K.next + 4) (x8 := K.next + 5) (n := v.len) (ta := (-1)) (tb := (vs.length : Int)) (by simp) (by simp) (by simp) (by simp) hvl).mono fun e X h => ?_
        rw [show (mvMul v vs ta tb) = ((vs ++ [fv 4 v.len [v.a, tb]]) ++ [opV 2 v.len (-1) (vs.length : Int) 0], ((vs ++ [fv 4 v.len [v.a, tb]]).length : Int)) by unfold mvMul; rw [e1]; dsimp only; rw [e2]; dsimp only; unfold st3m; rw [if_pos ⟨ha, hb⟩]]
        exact h.fin
      · refine (move7_ec ms18 (x8 := K.next + 5) (tb := (vs.length : Int)) (by simp)).mono fun e X h => ?_
        rw [show (mvMul v vs ta tb) = ((vs ++ [fv 4 v.len [v.a, tb]]), (vs.length : Int)) by unfold mvMul; rw [e1]; dsimp only; rw [e2]; dsimp only; unfold st3m; rw [if_neg (by omega), if_neg ha]]
        exact h.fin
      · rw [show (mvMul v vs ta tb) = ((vs ++ [fv 4 v.len [v.a, tb]]), (-1)) by unfold mvMul; rw [e1]; dsimp only; rw [e2]; dsimp only; unfold st3m; rw [if_neg (by omega), if_pos ha]]
        exact ms18.fin _
      · rw [show (mvMul v vs ta tb) = ((vs ++ [fv 4 v.len [v.a, tb]]), -1) by unfold mvMul; rw [e1]; dsimp only; rw [e2]; dsimp only; unfold st3m; rw [if_neg (by omega), if_neg ha] <;> exact Prod.ext rfl (by dsimp only; omega)]
        exact ms18.fin _
      · rintro v X (⟨_, _, hv, _⟩ | ⟨_, hv, _⟩)
        · cases hv; exact ⟨_, rfl⟩
        · cases hv
      · rintro v X (⟨hf, _, hv, h1, h2⟩ | ⟨_, hv, _⟩)
        · cases hv; exact .inl ⟨hf, _, rfl, h1, h2⟩
        · cases hv
    · skip
      have hb : ¬ 0 ≤ tb := by simp at hb; omega
      have e2 : st2m v.len v.a vs tb = (vs, -1) := by unfold st2m; rw [if_neg hb]
      refine ⟨_, ms12.cell (x := K.next + 4) (v := int' (-1)) (by simp), _, ms12.cell (x := K.next + 5) (v := int' (-1)) (by simp), ?_⟩
      refine ⟨_, joined_ec _ (-1) (-1) _ _ _ _ (BR K lo b p (some ⟨bq, 0, none⟩) r ins outs (mvMul v vs ta tb)) (fun ha hb => ?_) (fun ha hb => ?_) (fun ha hb => ?_) (fun ha hb => ?_) ?_, ?_, fun v K h => h⟩
      · refine (move6_ec ms12 (x5 := K.next) (x12 := K.next + 3) (x7 := K.next + 4) (x8 := K.next + 5) (n := v.len) (ta := (-1)) (tb := (-1)) (by simp) (by simp) (by simp) (by simp) hvl).mono fun e X h => ?_
        rw [show (mvMul v vs ta tb) = (vs ++ [opV 2 v.len (-1) (-1) 0], (vs.length : Int)) by unfold mvMul; rw [e1]; dsimp only; rw [e2]; dsimp only; unfold st3m; rw [if_pos ⟨ha, hb⟩]]
        exact h.fin
      · refine (move7_ec ms12 (x8 := K.next + 5) (tb := (-1)) (by simp)).mono fun e X h => ?_
        rw [show (mvMul v vs ta tb) = (vs, (-1)) by unfold mvMul; rw [e1]; dsimp only; rw [e2]; dsimp only; unfold st3m; rw [if_neg (by omega), if_neg ha]]
        exact h.fin
      · rw [show (mvMul v vs ta tb) = (vs, (-1)) by unfold mvMul; rw [e1]; dsimp only; rw [e2]; dsimp only; unfold st3m; rw [if_neg (by omega), if_pos ha]]
        exact ms12.fin _
      · rw [show (mvMul v vs ta tb) = (vs, -1) by unfold mvMul; rw [e1]; dsimp only; rw [e2]; dsimp only; unfold st3m; rw [if_neg (by omega), if_neg ha] <;> exact Prod.ext rfl (by dsimp only; omega)]
        exact ms12.fin _
      · rintro v X (⟨_, _, hv, _⟩ | ⟨_, hv, _⟩)
        · cases hv; exact ⟨_, rfl⟩
        · cases hv
      · rintro v X (⟨hf, _, hv, h1, h2⟩ | ⟨_, hv, _⟩)
        · cases hv; exact .inl ⟨hf, _, rfl, h1, h2⟩
        · cases hv
set_option maxHeartbeats 2000000 in
theorem move_div (K : Heap) (lo b : Nat) (p q r : Option Addr) (ins outs : List Int) (vs : List Val) (v : Val) (i ta tb tc : Int) (h : BAt K lo b p q r ins vs outs) (hlo : lo ≤ K.next) (h0 : 0 ≤ i) (hi : i < vs.length) (hv : vAtI vs i = v) (hvl : 0 ≤ v.len ∧ v.len ≤ 1000) (hb1 : -1 ≤ tb) (hop : v.op = 5) :
    EC Try.prog 47 [ptr b, int' i, int' ta, int' tb, int' tc] K (BR K lo b p q r ins outs (moveP vs v i ta tb tc)) := by
  have ms0 := MS.start h hlo
  have ms3 := ((ms0.alloc' (ptr b) K.next rfl).alloc' (int' ta) (K.next + 1) rfl).alloc' (int' tb) (K.next + 2) rfl
  have ms4 := (ms3.alloc' (int' 0) (K.next + 3) rfl).set (x := K.next + 3) (v := int' 0) (v' := int' v.len) (.head _) (T' := [(K.next + 3, int' v.len), (K.next + 2, int' tb), (K.next + 1, int' ta), (K.next, ptr b)]) (fun y w hy => by
    simp at hy; rcases hy with ⟨rfl, rfl⟩ | ⟨rfl, rfl⟩ | ⟨rfl, rfl⟩ | ⟨rfl, rfl⟩ <;> simp)
  obtain ⟨bq, rfl⟩ : ∃ bq, q = some ⟨bq, 0, none⟩ := bufq_some h.own.s (by show 0 < vs.length; omega)
  obtain ⟨c0, c1, c2, _, hva⟩ := valF_at ms3.at_.own.s.rd h0 hi
  rw [hv] at hva
  refine EC_fn ctx (fun t => t != 5 && t != 7 && t != 8 && t != 12 && t != 14 && t != 15 && t != 16 && t != 17) Try.func47 rfl rfl rfl ?_
  refine ⟨_, ms3.cell (x := K.next) (v := ptr b) (by simp), _, ms3.at_.cell1, ⟨h0, hi⟩, valV v, hva, ?_⟩
  refine ⟨stOK_push _ _ _ _ _ (Nat.le_refl 1), ?_⟩
  rw [show moveP vs v i ta tb tc = mvDiv v i vs ta tb by unfold moveP; rw [if_neg (by omega), if_neg (by omega), if_pos hop]]
  refine ⟨fun h => by simp [hop] at h, fun _ => ⟨fun h => by simp [hop] at h, fun _ => ⟨fun h => by simp [hop] at h, fun _ => ⟨fun _ => ?_, fun h => by simp [hop] at h⟩⟩⟩⟩
  have ms5 := (ms4.alloc' (int' 0) (K.next + 4) rfl).alloc' (int' 0) (K.next + 5) rfl
  have ms19 := ms5.set (x := K.next + 4) (v := int' 0) (v' := int' (-1)) (by simp) (T' := [(K.next + 5, int' 0), (K.next + 4, int' (-1)), (K.next + 3, int' v.len), (K.next + 2, int' tb), (K.next + 1, int' ta), (K.next, ptr b)]) (fun y w hy => by
    simp at hy; rcases hy with ⟨rfl, rfl⟩ | ⟨rfl, rfl⟩ | ⟨rfl, rfl⟩ | ⟨rfl, rfl⟩ | ⟨rfl, rfl⟩ | ⟨rfl, rfl⟩ <;> simp)
  have ms20 := ms19.set (x := K.next + 5) (v := int' 0) (v' := int' (-1)) (by simp) (T' := [(K.next + 5, int' (-1)), (K.next + 4, int' (-1)), (K.next + 3, int' v.len), (K.next + 2, int' tb), (K.next + 1, int' ta), (K.next, ptr b)]) (fun y w hy => by
    simp at hy; rcases hy with ⟨rfl, rfl⟩ | ⟨rfl, rfl⟩ | ⟨rfl, rfl⟩ | ⟨rfl, rfl⟩ | ⟨rfl, rfl⟩ | ⟨rfl, rfl⟩ <;> simp)
  refine ⟨ms5.stOK (x := K.next + 4) (v := int' 0) (by simp), ms19.stOK (x := K.next + 5) (v := int' 0) (by simp), _, ms20.cell (x := K.next + 1) (v := int' ta) (by simp), fun ha => ?_, fun ha => ?_⟩
  · skip
    have ha : 0 ≤ ta := by simpa using ha
    have e1 : st1 v.op v.len v.b vs ta = (vs ++ [fv 5 v.len [ta, v.b]], (vs.length : Int)) := by unfold st1; rw [if_pos ha, hop]; rfl
    refine ⟨_, ms20.cell (x := K.next) (v := ptr b) (by simp), _, ms20.cell (x := K.next + 3) (v := int' v.len) (by simp), _, ms20.cell (x := K.next + 1) (v := int' ta) (by simp), ?_⟩
    refine ⟨_, ms20.opB 5 v.len [ta, v.b] hvl (by simp), MR.elim2 fun q21 X21 ms21 => ?_, fun _ X h => h.pan (by unfold mvDiv; rw [e1]; exact (Pre.st2d _ _ _ _ _ hvl).trans (Pre.st3d _ _ _ _ hvl))⟩
    refine ⟨ms21.stOK (x := K.next + 4) (v := int' (-1)) (by simp), ?_⟩
    have ms22 := ms21.set (x := K.next + 4) (v := int' (-1)) (v' := int' (vs.length : Int)) (by simp) (T' := [(K.next + 5, int' (-1)), (K.next + 4, int' (vs.length : Int)), (K.next + 3, int' v.len), (K.next + 2, int' tb), (K.next + 1, int' ta), (K.next, ptr b)]) (fun y w hy => by
      simp at hy; rcases hy with ⟨rfl, rfl⟩ | ⟨rfl, rfl⟩ | ⟨rfl, rfl⟩ | ⟨rfl, rfl⟩ | ⟨rfl, rfl⟩ | ⟨rfl, rfl⟩ <;> simp)
    refine ⟨_, ms22.cell (x := K.next + 2) (v := int' tb) (by simp), fun hb => ?_, fun hb => ?_⟩
    · skip
      have hb : 0 ≤ tb := by simpa using hb
      have e2 : st2d v.len i v.b (vs ++ [fv 5 v.len [ta, v.b]]) tb = ((vs ++ [fv 5 v.len [ta, v.b]]) ++ [fv 4 v.len [i, tb]] ++ [fv 5 v.len [((vs ++ [fv 5 v.len [ta, v.b]]).length : Int), v.b]], (((vs ++ [fv 5 v.len [ta, v.b]]) ++ [fv 4 v.len [i, tb]]).length : Int)) := by unfold st2d; rw [if_pos hb]; exact Prod.ext rfl (by simp <;> omega)
      refine ⟨_, ms22.cell (x := K.next) (v := ptr b) (by simp), _, ms22.cell (x := K.next + 3) (v := int' v.len) (by simp), _, ms22.cell (x := K.next + 2) (v := int' tb) (by simp), ?_⟩
      refine ⟨_, ms22.opB 4 v.len [i, tb] hvl (by simp), MR.elim2 fun q23 X23 ms23 => ?_, fun _ X h => h.pan (by unfold mvDiv; rw [e1]; dsimp only; rw [e2]; dsimp only; exact (Pre.snoc _ (fv 5 v.len [((vs ++ [fv 5 v.len [ta, v.b]]).length : Int), v.b]) hvl).trans (Pre.st3d _ _ _ _ hvl))⟩
      refine ⟨_, ms23.cell (x := K.next) (v := ptr b) (by simp), _, ms23.cell (x := K.next + 3) (v := int' v.len) (by simp), ?_⟩
      refine ⟨_, ms23.opB 5 v.len [((vs ++ [fv 5 v.len [ta, v.b]]).length : Int), v.b] hvl (by simp), MR.elim2 fun q24 X24 ms24 => ?_, fun _ X h => h.pan (by unfold mvDiv; rw [e1]; dsimp only; rw [e2]; exact Pre.st3d _ _ _ _ hvl)⟩
      refine ⟨ms24.stOK (x := K.next + 5) (v := int' (-1)) (by simp), ?_⟩
      have ms25 := ms24.set (x := K.next + 5) (v := int' (-1)) (v' := int' (((vs ++ [fv 5 v.len [ta, v.b]]) ++ [fv 4 v.len [i, tb]]).length : Int)) (by simp) (T' := [(K.next + 5, int' (((vs ++ [fv 5 v.len [ta, v.b]]) ++ [fv 4 v.len [i, tb]]).length : Int)), (K.next + 4, int' (vs.length : Int)), (K.next + 3, int' v.len), (K.next + 2, int' tb), (K.next + 1, int' ta), (K.next, ptr b)]) (fun y w hy => by
        simp at hy; rcases hy with ⟨rfl, rfl⟩ | ⟨rfl, rfl⟩ | ⟨rfl, rfl⟩ | ⟨rfl, rfl⟩ | ⟨rfl, rfl⟩ | ⟨rfl, rfl⟩ <;> simp)
      refine ⟨_, ms25.cell (x := K.next + 4) (v := int' (vs.length : Int)) (by simp), _, ms25.cell (x := K.next + 5) (v := int' (((vs ++ [fv 5 v.len [ta, v.b]]) ++ [fv 4 v.len [i, tb]]).length : Int)) (by simp), ?_⟩
      refine ⟨_, joined_ec _ (vs.length : Int) (((vs ++ [fv 5 v.len [ta, v.b]]) ++ [fv 4 v.len [i, tb]]).length : Int) _ _ _ _ (BR K lo b p (some ⟨bq, 0, none⟩) r ins outs (mvDiv v i vs ta tb)) (fun ha hb => ?_) (fun ha hb => ?_) (fun ha hb => ?_) (fun ha hb => ?_) ?_, ?_, fun v K h => h⟩
      · refine (move8_ec ms25 (x5 := K.next) (x12 := K.next + 3) (x7 := K.next + 4) (x8 := K.next + 5) (n := v.len) (ta := (vs.length : Int)) (tb := (((vs ++ [fv 5 v.len [ta, v.b]]) ++ [fv 4 v.len [i, tb]]).length : Int)) (by simp) (by simp) (by simp) (by simp) hvl).mono fun e X h => ?_
        rw [show (mvDiv v i vs ta tb) = (((vs ++ [fv 5 v.len [ta, v.b]]) ++ [fv 4 v.len [i, tb]] ++ [fv 5 v.len [((vs ++ [fv 5 v.len [ta, v.b]]).length : Int), v.b]]) ++ [opV 3 v.len (vs.length : Int) (((vs ++ [fv 5 v.len [ta, v.b]]) ++ [fv 4 v.len [i, tb]]).length : Int) 0], (((vs ++ [fv 5 v.len [ta, v.b]]) ++ [fv 4 v.len [i, tb]] ++ [fv 5 v.len [((vs ++ [fv 5 v.len [ta, v.b]]).length : Int), v.b]]).length : Int)) by unfold mvDiv; rw [e1]; dsimp only; rw [e2]; dsimp only; unfold st3d; rw [if_pos ⟨ha, hb⟩]]
        exact h.fin
      · refine (move9_ec ms25 (x5 := K.next) (x12 := K.next + 3) (x8 := K.next + 5) (n := v.len) (tb := (((vs ++ [fv 5 v.len [ta, v.b]]) ++ [fv 4 v.len [i, tb]]).length : Int)) (by simp) (by simp) (by simp) hvl).mono fun e X h => ?_
        rw [show (mvDiv v i vs ta tb) = (((vs ++ [fv 5 v.len [ta, v.b]]) ++ [fv 4 v.len [i, tb]] ++ [fv 5 v.len [((vs ++ [fv 5 v.len [ta, v.b]]).length : Int), v.b]]) ++ [opV 6 v.len (((vs ++ [fv 5 v.len [ta, v.b]]) ++ [fv 4 v.len [i, tb]]).length : Int) 0 0], (((vs ++ [fv 5 v.len [ta, v.b]]) ++ [fv 4 v.len [i, tb]] ++ [fv 5 v.len [((vs ++ [fv 5 v.len [ta, v.b]]).length : Int), v.b]]).length : Int)) by unfold mvDiv; rw [e1]; dsimp only; rw [e2]; dsimp only; unfold st3d; rw [if_neg (by omega), if_neg ha, if_pos hb]]
        exact h.fin
      · rw [show (mvDiv v i vs ta tb) = (((vs ++ [fv 5 v.len [ta, v.b]]) ++ [fv 4 v.len [i, tb]] ++ [fv 5 v.len [((vs ++ [fv 5 v.len [ta, v.b]]).length : Int), v.b]]), (vs.length : Int)) by unfold mvDiv; rw [e1]; dsimp only; rw [e2]; dsimp only; unfold st3d; rw [if_neg (by omega), if_pos ha]]
        exact ms25.fin _
      · rw [show (mvDiv v i vs ta tb) = (((vs ++ [fv 5 v.len [ta, v.b]]) ++ [fv 4 v.len [i, tb]] ++ [fv 5 v.len [((vs ++ [fv 5 v.len [ta, v.b]]).length : Int), v.b]]), -1) by unfold mvDiv; rw [e1]; dsimp only; rw [e2]; dsimp only; unfold st3d; rw [if_neg (by omega), if_neg ha, if_neg hb] <;> exact Prod.ext rfl (by dsimp only; omega)]
        exact ms25.fin _
      · rintro v X (⟨_, _, hv, _⟩ | ⟨_, hv, _⟩)
        · cases hv; exact ⟨_, rfl⟩
        · cases hv
      · rintro v X (⟨hf, _, hv, h1, h2⟩ | ⟨_, hv, _⟩)
        · cases hv; exact .inl ⟨hf, _, rfl, h1, h2⟩
        · cases hv
    · skip
      have hb : ¬ 0 ≤ tb := by simp at hb; omega
      have e2 : st2d v.len i v.b (vs ++ [fv 5 v.len [ta, v.b]]) tb = ((vs ++ [fv 5 v.len [ta, v.b]]), -1) := by unfold st2d; rw [if_neg hb]
      refine ⟨_, ms22.cell (x := K.next + 4) (v := int' (vs.length : Int)) (by simp), _, ms22.cell (x := K.next + 5) (v := int' (-1)) (by simp), ?_⟩
      refine ⟨_, joined_ec _ (vs.length : Int) (-1) _ _ _ _ (BR K lo b p (some ⟨bq, 0, none⟩) r ins outs (mvDiv v i vs ta tb)) (fun ha hb => ?_) (fun ha hb => ?_) (fun ha hb => ?_) (fun ha hb => ?_) ?_, ?_, fun v K h => h⟩
      · refine (move8_ec ms22 (x5 := K.next) (x12 := K.next + 3) (x7 := K.next + 4) (x8 := K.next + 5) (n := v.len) (ta := (vs.length : Int)) (tb := (-1)) (by simp) (by simp) (by simp) (by simp) hvl).mono fun e X h => ?_
        rw [show (mvDiv v i vs ta tb) = ((vs ++ [fv 5 v.len [ta, v.b]]) ++ [opV 3 v.len (vs.length : Int) (-1) 0], ((vs ++ [fv 5 v.len [ta, v.b]]).length : Int)) by unfold mvDiv; rw [e1]; dsimp only; rw [e2]; dsimp only; unfold st3d; rw [if_pos ⟨ha, hb⟩]]
        exact h.fin
      · refine (move9_ec ms22 (x5 := K.next) (x12 := K.next + 3) (x8 := K.next + 5) (n := v.len) (tb := (-1)) (by simp) (by simp) (by simp) hvl).mono fun e X h => ?_
        rw [show (mvDiv v i vs ta tb) = ((vs ++ [fv 5 v.len [ta, v.b]]) ++ [opV 6 v.len (-1) 0 0], ((vs ++ [fv 5 v.len [ta, v.b]]).length : Int)) by unfold mvDiv; rw [e1]; dsimp only; rw [e2]; dsimp only; unfold st3d; rw [if_neg (by omega), if_neg ha, if_pos hb]]
        exact h.fin
      · rw [show (mvDiv v i vs ta tb) = ((vs ++ [fv 5 v.len [ta, v.b]]), (vs.length : Int)) by unfold mvDiv; rw [e1]; dsimp only; rw [e2]; dsimp only; unfold st3d; rw [if_neg (by omega), if_pos ha]]
        exact ms22.fin _
      · rw [show (mvDiv v i vs ta tb) = ((vs ++ [fv 5 v.len [ta, v.b]]), -1) by unfold mvDiv; rw [e1]; dsimp only; rw [e2]; dsimp only; unfold st3d; rw [if_neg (by omega), if_neg ha, if_neg hb] <;> exact Prod.ext rfl (by dsimp only; omega)]
        exact ms22.fin _
      · rintro v X (⟨_, _, hv, _⟩ | ⟨_, hv, _⟩)
        · cases hv; exact ⟨_, rfl⟩
        · cases hv
      · rintro v X (⟨hf, _, hv, h1, h2⟩ | ⟨_, hv, _⟩)
        · cases hv; exact .inl ⟨hf, _, rfl, h1, h2⟩
        · cases hv
  · skip
    have ha : ¬ 0 ≤ ta := by simp at ha; omega
    have e1 : st1 v.op v.len v.b vs ta = (vs, -1) := by unfold st1; rw [if_neg ha]
    refine ⟨_, ms20.cell (x := K.next + 2) (v := int' tb) (by simp), fun hb => ?_, fun hb => ?_⟩
    · skip
      have hb : 0 ≤ tb := by simpa using hb
      have e2 : st2d v.len i v.b vs tb = (vs ++ [fv 4 v.len [i, tb]] ++ [fv 5 v.len [(vs.length : Int), v.b]], ((vs ++ [fv 4 v.len [i, tb]]).length : Int)) := by unfold st2d; rw [if_pos hb]; exact Prod.ext rfl (by simp <;> omega)
      refine ⟨_, ms20.cell (x := K.next) (v := ptr b) (by simp), _, ms20.cell (x := K.next + 3) (v := int' v.len) (by simp), _, ms20.cell (x := K.next + 2) (v := int' tb) (by simp), ?_⟩
      refine ⟨_, ms20.opB 4 v.len [i, tb] hvl (by simp), MR.elim2 fun q26 X26 ms26 => ?_, fun _ X h => h.pan (by unfold mvDiv; rw [e1]; dsimp only; rw [e2]; dsimp only; exact (Pre.snoc _ (fv 5 v.len [(vs.length : Int), v.b]) hvl).trans (Pre.st3d _ _ _ _ hvl))⟩
      refine ⟨_, ms26.cell (x := K.next) (v := ptr b) (by simp), _, ms26.cell (x := K.next + 3) (v := int' v.len) (by simp), ?_⟩
      refine ⟨_, ms26.opB 5 v.len [(vs.length : Int), v.b] hvl (by simp), MR.elim2 fun q27 X27 ms27 => ?_, fun _ X h => h.pan (by unfold mvDiv; rw [e1]; dsimp only; rw [e2]; exact Pre.st3d _ _ _ _ hvl)⟩
      refine ⟨ms27.stOK (x := K.next + 5) (v := int' (-1)) (by simp), ?_⟩
      have ms28 := ms27.set (x := K.next + 5) (v := int' (-1)) (v' := int' ((vs ++ [fv 4 v.len [i, tb]]).length : Int)) (by simp) (T' := [(K.next + 5, int' ((vs ++ [fv 4 v.len [i, tb]]).length : Int)), (K.next + 4, int' (-1)), (K.next + 3, int' v.len), (K.next + 2, int' tb), (K.next + 1, int' ta), (K.next, ptr b)]) (fun y w hy => by
        simp at hy; rcases hy with ⟨rfl, rfl⟩ | ⟨rfl, rfl⟩ | ⟨rfl, rfl⟩ | ⟨rfl, rfl⟩ | ⟨rfl, rfl⟩ | ⟨rfl, rfl⟩ <;> simp)
      refine ⟨_, ms28.cell (x := K.next + 4) (v := int' (-1)) (by simp), _, ms28.cell (x := K.next + 5) (v := int' ((vs ++ [fv 4 v.len [i, tb]]).length : Int)) (by simp), ?_⟩
      refine ⟨_, joined_ec _ (-1) ((vs ++ [fv 4 v.len [i, tb]]).length : Int) _ _ _ _ (BR K lo b p (some ⟨bq, 0, none⟩) r ins outs (mvDiv v i vs ta tb)) (fun ha hb => ?_) (fun ha hb => ?_) (fun ha hb => ?_) (fun ha hb => ?_) ?_, ?_, fun v K h => h⟩
      · refine (move8_ec ms28 (x5 := K.next) (x12 := K.next + 3) (x7 := K.next + 4) (x8 := K.next + 5) (n := v.len) (ta := (-1)) (tb := ((vs ++ [fv 4 v.len [i, tb]]).length : Int)) (by simp) (by simp) (by simp) (by simp) hvl).mono fun e X h => ?_
        rw [show (mvDiv v i vs ta tb) = ((vs ++ [fv 4 v.len [i, tb]] ++ [fv 5 v.len [(vs.length : Int), v.b]]) ++ [opV 3 v.len (-1) ((vs ++ [fv 4 v.len [i, tb]]).length : Int) 0], ((vs ++ [fv 4 v.len [i, tb]] ++ [fv 5 v.len [(vs.length : Int), v.b]]).length : Int)) by unfold mvDiv; rw [e1]; dsimp only; rw [e2]; dsimp only; unfold st3d; rw [if_pos ⟨ha, hb⟩]]
        exact h.fin
      · refine (move9_ec ms28 (x5 := K.next) (x12 := K.next + 3) (x8 := K.next + 5) (n := v.len) (tb := ((vs ++ [fv 4 v.len [i, tb]]).length : Int)) (by simp) (by simp) (by simp) hvl).mono fun e X h => ?_
        rw [show (mvDiv v i vs ta tb) = ((vs ++ [fv 4 v.len [i, tb]] ++ [fv 5 v.len [(vs.length : Int), v.b]]) ++ [opV 6 v.len ((vs ++ [fv 4 v.len [i, tb]]).length : Int) 0 0], ((vs ++ [fv 4 v.len [i, tb]] ++ [fv 5 v.len [(vs.length : Int), v.b]]).length : Int)) by unfold mvDiv; rw [e1]; dsimp only; rw [e2]; dsimp only; unfold st3d; rw [if_neg (by omega), if_neg ha, if_pos hb]]
        exact h.fin
      · rw [show (mvDiv v i vs ta tb) = ((vs ++ [fv 4 v.len [i, tb]] ++ [fv 5 v.len [(vs.length : Int), v.b]]), (-1)) by unfold mvDiv; rw [e1]; dsimp only; rw [e2]; dsimp only; unfold st3d; rw [if_neg (by omega), if_pos ha]]
        exact ms28.fin _
      · rw [show (mvDiv v i vs ta tb) = ((vs ++ [fv 4 v.len [i, tb]] ++ [fv 5 v.len [(vs.length : Int), v.b]]), -1) by unfold mvDiv; rw [e1]; dsimp only; rw [e2]; dsimp only; unfold st3d; rw [if_neg (by omega), if_neg ha, if_neg hb] <;> exact Prod.ext rfl (by dsimp only; omega)]
        exact ms28.fin _
      · rintro v X (⟨_, _, hv, _⟩ | ⟨_, hv, _⟩)
        · cases hv; exact ⟨_, rfl⟩
        · cases hv
      · rintro v X (⟨hf, _, hv, h1, h2⟩ | ⟨_, hv, _⟩)
        · cases hv; exact .inl ⟨hf, _, rfl, h1, h2⟩
        · cases hv
    · skip
      have hb : ¬ 0 ≤ tb := by simp at hb; omega
      have e2 : st2d v.len i v.b vs tb = (vs, -1) := by unfold st2d; rw [if_neg hb]
      refine ⟨_, ms20.cell (x := K.next + 4) (v := int' (-1)) (by simp), _, ms20.cell (x := K.next + 5) (v := int' (-1)) (by simp), ?_⟩
      refine ⟨_, joined_ec _ (-1) (-1) _ _ _ _ (BR K lo b p (some ⟨bq, 0, none⟩) r ins outs (mvDiv v i vs ta tb)) (fun ha hb => ?_) (fun ha hb => ?_) (fun ha hb => ?_) (fun ha hb => ?_) ?_, ?_, fun v K h => h⟩
      · refine (move8_ec ms20 (x5 := K.next) (x12 := K.next + 3) (x7 := K.next + 4) (x8 := K.next + 5) (n := v.len) (ta := (-1)) (tb := (-1)) (by simp) (by simp) (by simp) (by simp) hvl).mono fun e X h => ?_
        rw [show (mvDiv v i vs ta tb) = (vs ++ [opV 3 v.len (-1) (-1) 0], (vs.length : Int)) by unfold mvDiv; rw [e1]; dsimp only; rw [e2]; dsimp only; unfold st3d; rw [if_pos ⟨ha, hb⟩]]
        exact h.fin
      · refine (move9_ec ms20 (x5 := K.next) (x12 := K.next + 3) (x8 := K.next + 5) (n := v.len) (tb := (-1)) (by simp) (by simp) (by simp) hvl).mono fun e X h => ?_
        rw [show (mvDiv v i vs ta tb) = (vs ++ [opV 6 v.len (-1) 0 0], (vs.length : Int)) by unfold mvDiv; rw [e1]; dsimp only; rw [e2]; dsimp only; unfold st3d; rw [if_neg (by omega), if_neg ha, if_pos hb]]
        exact h.fin
      · rw [show (mvDiv v i vs ta tb) = (vs, (-1)) by unfold mvDiv; rw [e1]; dsimp only; rw [e2]; dsimp only; unfold st3d; rw [if_neg (by omega), if_pos ha]]
        exact ms20.fin _
      · rw [show (mvDiv v i vs ta tb) = (vs, -1) by unfold mvDiv; rw [e1]; dsimp only; rw [e2]; dsimp only; unfold st3d; rw [if_neg (by omega), if_neg ha, if_neg hb] <;> exact Prod.ext rfl (by dsimp only; omega)]
        exact ms20.fin _
      · rintro v X (⟨_, _, hv, _⟩ | ⟨_, hv, _⟩)
        · cases hv; exact ⟨_, rfl⟩
        · cases hv
      · rintro v X (⟨hf, _, hv, h1, h2⟩ | ⟨_, hv, _⟩)
        · cases hv; exact .inl ⟨hf, _, rfl, h1, h2⟩
        · cases hv
set_option maxHeartbeats 2000000 in
theorem move_max (K : Heap) (lo b : Nat) (p q r : Option Addr) (ins outs : List Int) (vs : List Val) (v : Val) (i ta tb tc : Int) (h : BAt K lo b p q r ins vs outs) (hlo : lo ≤ K.next) (h0 : 0 ≤ i) (hi : i < vs.length) (hv : vAtI vs i = v) (hvl : 0 ≤ v.len ∧ v.len ≤ 1000) (hb1 : -1 ≤ tb) (hop : v.op = 7) :
    EC Try.prog 47 [ptr b, int' i, int' ta, int' tb, int' tc] K (BR K lo b p q r ins outs (moveP vs v i ta tb tc)) := by
  have ms0 := MS.start h hlo
  have ms3 := ((ms0.alloc' (ptr b) K.next rfl).alloc' (int' ta) (K.next + 1) rfl).alloc' (int' tb) (K.next + 2) rfl
  have ms4 := (ms3.alloc' (int' 0) (K.next + 3) rfl).set (x := K.next + 3) (v := int' 0) (v' := int' v.len) (.head _) (T' := [(K.next + 3, int' v.len), (K.next + 2, int' tb), (K.next + 1, int' ta), (K.next, ptr b)]) (fun y w hy => by
    simp at hy; rcases hy with ⟨rfl, rfl⟩ | ⟨rfl, rfl⟩ | ⟨rfl, rfl⟩ | ⟨rfl, rfl⟩ <;> simp)
  obtain ⟨bq, rfl⟩ : ∃ bq, q = some ⟨bq, 0, none⟩ := bufq_some h.own.s (by show 0 < vs.length; omega)
  obtain ⟨c0, c1, c2, _, hva⟩ := valF_at ms3.at_.own.s.rd h0 hi
  rw [hv] at hva
  refine EC_fn ctx (fun t => t != 5 && t != 7 && t != 8 && t != 12 && t != 14 && t != 15 && t != 16 && t != 17) Try.func47 rfl rfl rfl ?_
  refine ⟨_, ms3.cell (x := K.next) (v := ptr b) (by simp), _, ms3.at_.cell1, ⟨h0, hi⟩, valV v, hva, ?_⟩
  refine ⟨stOK_push _ _ _ _ _ (Nat.le_refl 1), ?_⟩
  rw [show moveP vs v i ta tb tc = mvMax v vs ta tb by unfold moveP; rw [if_neg (by omega), if_neg (by omega), if_neg (by omega), if_pos hop]]
  refine ⟨fun h => by simp [hop] at h, fun _ => ⟨fun h => by simp [hop] at h, fun _ => ⟨fun h => by simp [hop] at h, fun _ => ⟨fun h => by simp [hop] at h, fun _ => ⟨fun _ => ?_, fun h => by simp [hop] at h⟩⟩⟩⟩⟩
  refine ⟨_, ms4.cell (x := K.next + 1) (v := int' ta) (by simp), _, fun _ => ms4.cell (x := K.next + 2) (v := int' tb) (by simp), fun hf => ?_, fun hf => ?_⟩
  · have hf : ta < 0 ∧ tb < 0 := by by_cases h : ta < 0 <;> simp [h] at hf; exact ⟨h, hf⟩
    rw [show mvMax v vs ta tb = (vs, -1) by unfold mvMax; rw [if_pos hf]]
    exact ms4.fin _
  · have hf : ¬ (ta < 0 ∧ tb < 0) := by rintro ⟨h, h2⟩; simp [h, h2] at hf
    rw [show mvMax v vs ta tb = ((orP (orP (vs ++ [fv 3 v.len [v.a, v.b]]) ta v.len).1 tb v.len).1 ++ [fv 8 v.len [(vs.length : Int), (orP (vs ++ [fv 3 v.len [v.a, v.b]]) ta v.len).2, (orP (orP (vs ++ [fv 3 v.len [v.a, v.b]]) ta v.len).1 tb v.len).2]], ((orP (orP (vs ++ [fv 3 v.len [v.a, v.b]]) ta v.len).1 tb v.len).1.length : Int)) by unfold mvMax; rw [if_neg hf]; rfl]
    refine ⟨_, ms4.cell (x := K.next) (v := ptr b) (by simp), _, ms4.cell (x := K.next + 3) (v := int' v.len) (by simp), ?_⟩
    refine ⟨_, ms4.opB 3 v.len [v.a, v.b] hvl (by simp), MR.elim2 fun q29 X29 ms29 => ?_, fun _ X h => h.pan ((Pre.orP _ _ _ hvl).trans ((Pre.orP _ _ _ hvl).trans (Pre.snoc _ _ hvl)))⟩
    refine ⟨_, ms29.cell (x := K.next + 1) (v := int' ta) (by simp), _, move1_ec ms29 (x5 := K.next) (x12 := K.next + 3) (n := v.len) (t := ta) (by simp) (by simp) hvl, MR.elim fun q30 X30 ms30 => ?_, fun _ X h => h.pan ((Pre.orP _ _ _ hvl).trans (Pre.snoc _ _ hvl))⟩
    refine ⟨ms30.stOK (x := K.next + 1) (v := int' ta) (by simp), ?_⟩
    have ms31 := ms30.set (x := K.next + 1) (v := int' ta) (v' := int' (orP (vs ++ [fv 3 v.len [v.a, v.b]]) ta v.len).2) (by simp) (T' := [(K.next + 3, int' v.len), (K.next + 2, int' tb), (K.next + 1, int' (orP (vs ++ [fv 3 v.len [v.a, v.b]]) ta v.len).2), (K.next, ptr b)]) (fun y w hy => by
      simp at hy; rcases hy with ⟨rfl, rfl⟩ | ⟨rfl, rfl⟩ | ⟨rfl, rfl⟩ | ⟨rfl, rfl⟩ <;> simp)
    refine ⟨_, ms31.cell (x := K.next + 2) (v := int' tb) (by simp), _, move1_ec ms31 (x5 := K.next) (x12 := K.next + 3) (n := v.len) (t := tb) (by simp) (by simp) hvl, MR.elim fun q32 X32 ms32 => ?_, fun _ X h => h.pan (Pre.snoc _ _ hvl)⟩
    refine ⟨ms32.stOK (x := K.next + 2) (v := int' tb) (by simp), ?_⟩
    have ms33 := ms32.set (x := K.next + 2) (v := int' tb) (v' := int' (orP (orP (vs ++ [fv 3 v.len [v.a, v.b]]) ta v.len).1 tb v.len).2) (by simp) (T' := [(K.next + 3, int' v.len), (K.next + 2, int' (orP (orP (vs ++ [fv 3 v.len [v.a, v.b]]) ta v.len).1 tb v.len).2), (K.next + 1, int' (orP (vs ++ [fv 3 v.len [v.a, v.b]]) ta v.len).2), (K.next, ptr b)]) (fun y w hy => by
      simp at hy; rcases hy with ⟨rfl, rfl⟩ | ⟨rfl, rfl⟩ | ⟨rfl, rfl⟩ | ⟨rfl, rfl⟩ <;> simp)
    refine ⟨_, ms33.cell (x := K.next) (v := ptr b) (by simp), _, ms33.cell (x := K.next + 3) (v := int' v.len) (by simp), _, ms33.cell (x := K.next + 1) (v := int' (orP (vs ++ [fv 3 v.len [v.a, v.b]]) ta v.len).2) (by simp), _, ms33.cell (x := K.next + 2) (v := int' (orP (orP (vs ++ [fv 3 v.len [v.a, v.b]]) ta v.len).1 tb v.len).2) (by simp), ?_⟩
    refine ⟨_, ms33.opB 8 v.len [(vs.length : Int), (orP (vs ++ [fv 3 v.len [v.a, v.b]]) ta v.len).2, (orP (orP (vs ++ [fv 3 v.len [v.a, v.b]]) ta v.len).1 tb v.len).2] hvl (by simp), MR.elim fun q9 X ms => ms.fin _, fun _ X h => h.pan (Pre.refl _)⟩
set_option maxHeartbeats 2000000 in
theorem move_sel (K : Heap) (lo b : Nat) (p q r : Option Addr) (ins outs : List Int) (vs : List Val) (v : Val) (i ta tb tc : Int) (h : BAt K lo b p q r ins vs outs) (hlo : lo ≤ K.next) (h0 : 0 ≤ i) (hi : i < vs.length) (hv : vAtI vs i = v) (hvl : 0 ≤ v.len ∧ v.len ≤ 1000) (hb1 : -1 ≤ tb) (hop : v.op = 8) :
    EC Try.prog 47 [ptr b, int' i, int' ta, int' tb, int' tc] K (BR K lo b p q r ins outs (moveP vs v i ta tb tc)) := by
  have ms0 := MS.start h hlo
  have ms3 := ((ms0.alloc' (ptr b) K.next rfl).alloc' (int' ta) (K.next + 1) rfl).alloc' (int' tb) (K.next + 2) rfl
  have ms4 := (ms3.alloc' (int' 0) (K.next + 3) rfl).set (x := K.next + 3) (v := int' 0) (v' := int' v.len) (.head _) (T' := [(K.next + 3, int' v.len), (K.next + 2, int' tb), (K.next + 1, int' ta), (K.next, ptr b)]) (fun y w hy => by
    simp at hy; rcases hy with ⟨rfl, rfl⟩ | ⟨rfl, rfl⟩ | ⟨rfl, rfl⟩ | ⟨rfl, rfl⟩ <;> simp)
  obtain ⟨bq, rfl⟩ : ∃ bq, q = some ⟨bq, 0, none⟩ := bufq_some h.own.s (by show 0 < vs.length; omega)
  obtain ⟨c0, c1, c2, _, hva⟩ := valF_at ms3.at_.own.s.rd h0 hi
  rw [hv] at hva
  refine EC_fn ctx (fun t => t != 5 && t != 7 && t != 8 && t != 12 && t != 14 && t != 15 && t != 16 && t != 17) Try.func47 rfl rfl rfl ?_
  refine ⟨_, ms3.cell (x := K.next) (v := ptr b) (by simp), _, ms3.at_.cell1, ⟨h0, hi⟩, valV v, hva, ?_⟩
  refine ⟨stOK_push _ _ _ _ _ (Nat.le_refl 1), ?_⟩
  rw [show moveP vs v i ta tb tc = mvSel v vs tb tc by unfold moveP; rw [if_neg (by omega), if_neg (by omega), if_neg (by omega), if_neg (by omega), if_pos hop]]
  refine ⟨fun h => by simp [hop] at h, fun _ => ⟨fun h => by simp [hop] at h, fun _ => ⟨fun h => by simp [hop] at h, fun _ => ⟨fun h => by simp [hop] at h, fun _ => ⟨fun h => by simp [hop] at h, fun _ => ⟨fun _ => ?_, fun h => by simp [hop] at h⟩⟩⟩⟩⟩⟩
  refine ⟨_, ms4.cell (x := K.next + 2) (v := int' tb) (by simp), fun hf => ?_, fun hf => ?_⟩
  · have hf : tb < 0 ∧ tc < 0 := by by_cases h : tb < 0 <;> simp [h] at hf; exact ⟨h, hf⟩
    rw [show mvSel v vs tb tc = (vs, -1) by unfold mvSel; rw [if_pos hf]]
    exact ms4.fin _
  · have hf : ¬ (tb < 0 ∧ tc < 0) := by rintro ⟨h, h2⟩; simp [h, h2] at hf
    rw [show mvSel v vs tb tc = ((orP (orP vs tb v.len).1 tc v.len).1 ++ [fv 8 v.len [v.a, (orP vs tb v.len).2, (orP (orP vs tb v.len).1 tc v.len).2]], ((orP (orP vs tb v.len).1 tc v.len).1.length : Int)) by unfold mvSel; rw [if_neg hf]; rfl]
    refine ⟨_, ms4.cell (x := K.next + 2) (v := int' tb) (by simp), _, move1_ec ms4 (x5 := K.next) (x12 := K.next + 3) (n := v.len) (t := tb) (by simp) (by simp) hvl, MR.elim fun q34 X34 ms34 => ?_, fun _ X h => h.pan ((Pre.orP _ _ _ hvl).trans (Pre.snoc _ _ hvl))⟩
    refine ⟨ms34.stOK (x := K.next + 2) (v := int' tb) (by simp), ?_⟩
    have ms35 := ms34.set (x := K.next + 2) (v := int' tb) (v' := int' (orP vs tb v.len).2) (by simp) (T' := [(K.next + 3, int' v.len), (K.next + 2, int' (orP vs tb v.len).2), (K.next + 1, int' ta), (K.next, ptr b)]) (fun y w hy => by
      simp at hy; rcases hy with ⟨rfl, rfl⟩ | ⟨rfl, rfl⟩ | ⟨rfl, rfl⟩ | ⟨rfl, rfl⟩ <;> simp)
    refine ⟨_, move1_ec ms35 (x5 := K.next) (x12 := K.next + 3) (n := v.len) (t := tc) (by simp) (by simp) hvl, MR.elim fun q36 X36 ms36 => ?_, fun _ X h => h.pan (Pre.snoc _ _ hvl)⟩
    refine ⟨_, ms36.cell (x := K.next) (v := ptr b) (by simp), _, ms36.cell (x := K.next + 3) (v := int' v.len) (by simp), _, ms36.cell (x := K.next + 2) (v := int' (orP vs tb v.len).2) (by simp), ?_⟩
    refine ⟨_, ms36.opB 8 v.len [v.a, (orP vs tb v.len).2, (orP (orP vs tb v.len).1 tc v.len).2] hvl (by simp), MR.elim fun q9 X ms => ms.fin _, fun _ X h => h.pan (Pre.refl _)⟩
set_option maxHeartbeats 2000000 in
theorem move_put (K : Heap) (lo b : Nat) (p q r : Option Addr) (ins outs : List Int) (vs : List Val) (v : Val) (i ta tb tc : Int) (h : BAt K lo b p q r ins vs outs) (hlo : lo ≤ K.next) (h0 : 0 ≤ i) (hi : i < vs.length) (hv : vAtI vs i = v) (hvl : 0 ≤ v.len ∧ v.len ≤ 1000) (hb1 : -1 ≤ tb) (hop : v.op = 11 ∨ v.op = 12) :
    EC Try.prog 47 [ptr b, int' i, int' ta, int' tb, int' tc] K (BR K lo b p q r ins outs (moveP vs v i ta tb tc)) := by
  have ms0 := MS.start h hlo
  have ms3 := ((ms0.alloc' (ptr b) K.next rfl).alloc' (int' ta) (K.next + 1) rfl).alloc' (int' tb) (K.next + 2) rfl
  have ms4 := (ms3.alloc' (int' 0) (K.next + 3) rfl).set (x := K.next + 3) (v := int' 0) (v' := int' v.len) (.head _) (T' := [(K.next + 3, int' v.len), (K.next + 2, int' tb), (K.next + 1, int' ta), (K.next, ptr b)]) (fun y w hy => by
    simp at hy; rcases hy with ⟨rfl, rfl⟩ | ⟨rfl, rfl⟩ | ⟨rfl, rfl⟩ | ⟨rfl, rfl⟩ <;> simp)
  obtain ⟨bq, rfl⟩ : ∃ bq, q = some ⟨bq, 0, none⟩ := bufq_some h.own.s (by show 0 < vs.length; omega)
  obtain ⟨c0, c1, c2, _, hva⟩ := valF_at ms3.at_.own.s.rd h0 hi
  rw [hv] at hva
  refine EC_fn ctx (fun t => t != 5 && t != 7 && t != 8 && t != 12 && t != 14 && t != 15 && t != 16 && t != 17) Try.func47 rfl rfl rfl ?_
  refine ⟨_, ms3.cell (x := K.next) (v := ptr b) (by simp), _, ms3.at_.cell1, ⟨h0, hi⟩, valV v, hva, ?_⟩
  refine ⟨stOK_push _ _ _ _ _ (Nat.le_refl 1), ?_⟩
  rw [show moveP vs v i ta tb tc = mvOne v i vs ta by unfold moveP; rw [if_neg (by omega), if_neg (by omega), if_neg (by omega), if_neg (by omega), if_neg (by omega)]]
  refine ⟨fun h => absurd (show v.op = 2 by simpa using h) (by omega), fun _ => ⟨fun h => absurd (show v.op = 3 by simpa using h) (by omega), fun _ => ⟨fun h => absurd (show v.op = 4 by simpa using h) (by omega), fun _ => ⟨fun h => absurd (show v.op = 5 by simpa using h) (by omega), fun _ => ⟨fun h => absurd (show v.op = 7 by simpa using h) (by omega), fun _ => ⟨fun h => absurd (show v.op = 8 by simpa using h) (by omega), fun _ => ?_⟩⟩⟩⟩⟩⟩
  refine ⟨_, ms4.cell (x := K.next + 1) (v := int' ta) (by simp), fun ha => ?_, fun ha => ?_⟩
  · have ha : ta < 0 := by simpa using ha
    rw [show mvOne v i vs ta = (vs, -1) by unfold mvOne; rw [if_pos ha]]
    exact ms4.fin _
  · have ha : ¬ ta < 0 := by simp at ha; omega
    rcases hop with hop | hop
    · refine ⟨fun _ => ⟨fun _ => ?_, fun h => absurd (show v.op ≠ 11 by simpa using h) (by omega)⟩, fun h => absurd (show v.op ≠ 11 by simpa using h) (by omega)⟩
      rw [show mvOne v i vs ta = (vs ++ [fv v.op v.len [ta, 0, v.c]], (vs.length : Int)) by unfold mvOne; rw [if_neg ha, if_neg (by omega)]; rfl]
      refine ⟨_, ms4.cell (x := K.next) (v := ptr b) (by simp), _, ms4.cell (x := K.next + 3) (v := int' v.len) (by simp), _, ms4.cell (x := K.next + 1) (v := int' ta) (by simp), ?_⟩
      refine ⟨_, ms4.opB (v.op) v.len [ta, 0, v.c] hvl (by simp), MR.elim fun q9 X ms => ms.fin _, fun _ X h => h.pan (Pre.refl _)⟩
    · refine ⟨fun h => absurd (show v.op = 11 by simpa using h) (by omega), fun _ => ⟨fun _ => ?_, fun h => absurd (show v.op ≠ 12 by simpa using h) (by omega)⟩⟩
      rw [show mvOne v i vs ta = (vs ++ [fv v.op v.len [ta, 0, v.c]], (vs.length : Int)) by unfold mvOne; rw [if_neg ha, if_neg (by omega)]; rfl]
      refine ⟨_, ms4.cell (x := K.next) (v := ptr b) (by simp), _, ms4.cell (x := K.next + 3) (v := int' v.len) (by simp), _, ms4.cell (x := K.next + 1) (v := int' ta) (by simp), ?_⟩
      refine ⟨_, ms4.opB (v.op) v.len [ta, 0, v.c] hvl (by simp), MR.elim fun q9 X ms => ms.fin _, fun _ X h => h.pan (Pre.refl _)⟩
set_option maxHeartbeats 2000000 in
theorem move_exp (K : Heap) (lo b : Nat) (p q r : Option Addr) (ins outs : List Int) (vs : List Val) (v : Val) (i ta tb tc : Int) (h : BAt K lo b p q r ins vs outs) (hlo : lo ≤ K.next) (h0 : 0 ≤ i) (hi : i < vs.length) (hv : vAtI vs i = v) (hvl : 0 ≤ v.len ∧ v.len ≤ 1000) (hb1 : -1 ≤ tb) (hop : v.op = 13) :
    EC Try.prog 47 [ptr b, int' i, int' ta, int' tb, int' tc] K (BR K lo b p q r ins outs (moveP vs v i ta tb tc)) := by
  have ms0 := MS.start h hlo
  have ms3 := ((ms0.alloc' (ptr b) K.next rfl).alloc' (int' ta) (K.next + 1) rfl).alloc' (int' tb) (K.next + 2) rfl
  have ms4 := (ms3.alloc' (int' 0) (K.next + 3) rfl).set (x := K.next + 3) (v := int' 0) (v' := int' v.len) (.head _) (T' := [(K.next + 3, int' v.len), (K.next + 2, int' tb), (K.next + 1, int' ta), (K.next, ptr b)]) (fun y w hy => by
    simp at hy; rcases hy with ⟨rfl, rfl⟩ | ⟨rfl, rfl⟩ | ⟨rfl, rfl⟩ | ⟨rfl, rfl⟩ <;> simp)
  obtain ⟨bq, rfl⟩ : ∃ bq, q = some ⟨bq, 0, none⟩ := bufq_some h.own.s (by show 0 < vs.length; omega)
  obtain ⟨c0, c1, c2, _, hva⟩ := valF_at ms3.at_.own.s.rd h0 hi
  rw [hv] at hva
  refine EC_fn ctx (fun t => t != 5 && t != 7 && t != 8 && t != 12 && t != 14 && t != 15 && t != 16 && t != 17) Try.func47 rfl rfl rfl ?_
  refine ⟨_, ms3.cell (x := K.next) (v := ptr b) (by simp), _, ms3.at_.cell1, ⟨h0, hi⟩, valV v, hva, ?_⟩
  refine ⟨stOK_push _ _ _ _ _ (Nat.le_refl 1), ?_⟩
  rw [show moveP vs v i ta tb tc = mvOne v i vs ta by unfold moveP; rw [if_neg (by omega), if_neg (by omega), if_neg (by omega), if_neg (by omega), if_neg (by omega)]]
  refine ⟨fun h => absurd (show v.op = 2 by simpa using h) (by omega), fun _ => ⟨fun h => absurd (show v.op = 3 by simpa using h) (by omega), fun _ => ⟨fun h => absurd (show v.op = 4 by simpa using h) (by omega), fun _ => ⟨fun h => absurd (show v.op = 5 by simpa using h) (by omega), fun _ => ⟨fun h => absurd (show v.op = 7 by simpa using h) (by omega), fun _ => ⟨fun h => absurd (show v.op = 8 by simpa using h) (by omega), fun _ => ?_⟩⟩⟩⟩⟩⟩
  refine ⟨_, ms4.cell (x := K.next + 1) (v := int' ta) (by simp), fun ha => ?_, fun ha => ?_⟩
  · have ha : ta < 0 := by simpa using ha
    rw [show mvOne v i vs ta = (vs, -1) by unfold mvOne; rw [if_pos ha]]
    exact ms4.fin _
  · have ha : ¬ ta < 0 := by simp at ha; omega
    refine ⟨fun h => absurd (show v.op = 11 by simpa using h) (by omega), fun _ => ⟨fun h => absurd (show v.op = 12 by simpa using h) (by omega), fun _ => ⟨fun _ => ?_, fun h => absurd (show v.op ≠ 13 by simpa using h) (by omega)⟩⟩⟩
    rw [show mvOne v i vs ta = (vs ++ [fv 4 v.len [ta, i]], (vs.length : Int)) by unfold mvOne; rw [if_neg ha, if_pos hop]; rfl]
    refine ⟨_, ms4.cell (x := K.next) (v := ptr b) (by simp), _, ms4.cell (x := K.next + 3) (v := int' v.len) (by simp), _, ms4.cell (x := K.next + 1) (v := int' ta) (by simp), ?_⟩
    refine ⟨_, ms4.opB (4) v.len [ta, i] hvl (by simp), MR.elim fun q9 X ms => ms.fin _, fun _ X h => h.pan (Pre.refl _)⟩
set_option maxHeartbeats 2000000 in
theorem move_one (K : Heap) (lo b : Nat) (p q r : Option Addr) (ins outs : List Int) (vs : List Val) (v : Val) (i ta tb tc : Int) (h : BAt K lo b p q r ins vs outs) (hlo : lo ≤ K.next) (h0 : 0 ≤ i) (hi : i < vs.length) (hv : vAtI vs i = v) (hvl : 0 ≤ v.len ∧ v.len ≤ 1000) (hb1 : -1 ≤ tb) (hop : (v.op ≠ 2 ∧ v.op ≠ 3 ∧ v.op ≠ 4 ∧ v.op ≠ 5 ∧ v.op ≠ 7 ∧ v.op ≠ 8 ∧ v.op ≠ 11 ∧ v.op ≠ 12 ∧ v.op ≠ 13) ∧ v.c = 0) :
    EC Try.prog 47 [ptr b, int' i, int' ta, int' tb, int' tc] K (BR K lo b p q r ins outs (moveP vs v i ta tb tc)) := by
  have ms0 := MS.start h hlo
  have ms3 := ((ms0.alloc' (ptr b) K.next rfl).alloc' (int' ta) (K.next + 1) rfl).alloc' (int' tb) (K.next + 2) rfl
  have ms4 := (ms3.alloc' (int' 0) (K.next + 3) rfl).set (x := K.next + 3) (v := int' 0) (v' := int' v.len) (.head _) (T' := [(K.next + 3, int' v.len), (K.next + 2, int' tb), (K.next + 1, int' ta), (K.next, ptr b)]) (fun y w hy => by
    simp at hy; rcases hy with ⟨rfl, rfl⟩ | ⟨rfl, rfl⟩ | ⟨rfl, rfl⟩ | ⟨rfl, rfl⟩ <;> simp)
  obtain ⟨bq, rfl⟩ : ∃ bq, q = some ⟨bq, 0, none⟩ := bufq_some h.own.s (by show 0 < vs.length; omega)
  obtain ⟨c0, c1, c2, _, hva⟩ := valF_at ms3.at_.own.s.rd h0 hi
  rw [hv] at hva
  refine EC_fn ctx (fun t => t != 5 && t != 7 && t != 8 && t != 12 && t != 14 && t != 15 && t != 16 && t != 17) Try.func47 rfl rfl rfl ?_
  refine ⟨_, ms3.cell (x := K.next) (v := ptr b) (by simp), _, ms3.at_.cell1, ⟨h0, hi⟩, valV v, hva, ?_⟩
  refine ⟨stOK_push _ _ _ _ _ (Nat.le_refl 1), ?_⟩
  rw [show moveP vs v i ta tb tc = mvOne v i vs ta by unfold moveP; rw [if_neg (by omega), if_neg (by omega), if_neg (by omega), if_neg (by omega), if_neg (by omega)]]
  refine ⟨fun h => absurd (show v.op = 2 by simpa using h) (by omega), fun _ => ⟨fun h => absurd (show v.op = 3 by simpa using h) (by omega), fun _ => ⟨fun h => absurd (show v.op = 4 by simpa using h) (by omega), fun _ => ⟨fun h => absurd (show v.op = 5 by simpa using h) (by omega), fun _ => ⟨fun h => absurd (show v.op = 7 by simpa using h) (by omega), fun _ => ⟨fun h => absurd (show v.op = 8 by simpa using h) (by omega), fun _ => ?_⟩⟩⟩⟩⟩⟩
  refine ⟨_, ms4.cell (x := K.next + 1) (v := int' ta) (by simp), fun ha => ?_, fun ha => ?_⟩
  · have ha : ta < 0 := by simpa using ha
    rw [show mvOne v i vs ta = (vs, -1) by unfold mvOne; rw [if_pos ha]]
    exact ms4.fin _
  · have ha : ¬ ta < 0 := by simp at ha; omega
    obtain ⟨hop, hc⟩ := hop
    refine ⟨fun h => absurd (show v.op = 11 by simpa using h) (by omega), fun _ => ⟨fun h => absurd (show v.op = 12 by simpa using h) (by omega), fun _ => ⟨fun h => absurd (show v.op = 13 by simpa using h) (by omega), fun _ => ?_⟩⟩⟩
    rw [show mvOne v i vs ta = (vs ++ [fv v.op v.len [ta]], (vs.length : Int)) by unfold mvOne; rw [if_neg ha, if_neg (by omega), hc]; rfl]
    refine ⟨_, ms4.cell (x := K.next) (v := ptr b) (by simp), _, ms4.cell (x := K.next + 3) (v := int' v.len) (by simp), _, ms4.cell (x := K.next + 1) (v := int' ta) (by simp), ?_⟩
    refine ⟨_, ms4.opB (v.op) v.len [ta] hvl (by simp), MR.elim fun q9 X ms => ms.fin _, fun _ X h => h.pan (Pre.refl _)⟩
end Go.Proofs.Ytimenmejmofkaaa
