/- RunPass, both sides. Conditions: those of each. -/
import Derived.Test.YtlcocgoaphpjkaaPso
import Derived.Test.YtlcocgoaphpjkaaPsi
set_option linter.unusedVariables false
set_option linter.unusedSimpArgs false
namespace Go.Proofs.Ytlcocgoaphpjkaa
open Go.Am
open FlCore (canon isNan)

def passG (g : Graph) (pass : Int) : Graph :=
  if pass = 0 then deadG g else if pass = 1 then shared sameCommon g else if pass = 2 then foldG g else if pass = 3 then shared sameNeg g else shared sameUnit g
theorem l4pass_ec (H : Heap) (p q r : Option Addr) (g : Graph) (pass : Int) (hg : RdG H p q r g) (hv : validB g = true) (h0 : 0 ≤ pass) (h4 : pass ≤ 4) :
    EC Try.prog 14 [gV p q r g, .int .i64 pass] H (GR H (passG g pass)) := by
  have hp : pass = 0 ∨ pass = 1 ∨ pass = 2 ∨ pass = 3 ∨ pass = 4 := by omega
  rcases hp with rfl | rfl | rfl | rfl | rfl
  · refine EC_fn ctx (fun _ => true) Try.func14 rfl rfl rfl ?_
    refine ⟨fun _ => ⟨_, l4dead_ec H p q r g hg hv, ?_, fun v K hR => hR.no.elim⟩, fun h => by simp at h⟩
    rintro _ K ⟨p1, q1, r1, hx, h⟩
    cases hx
    exact ⟨p1, q1, r1, rfl, h⟩
  · refine EC_fn ctx (fun _ => true) Try.func14 rfl rfl rfl ?_
    refine ⟨fun h => by simp at h, fun _ => ⟨fun h => by simp at h, fun _ => ⟨_, l4equal1_ec H p q r g hg hv, ?_, fun v K hR => hR.no.elim⟩⟩⟩
    rintro _ K ⟨p1, q1, r1, hx, h⟩
    cases hx
    exact ⟨p1, q1, r1, rfl, h⟩
  · refine EC_fn ctx (fun _ => true) Try.func14 rfl rfl rfl ?_
    refine ⟨fun h => by simp at h, fun _ => ⟨fun _ => ⟨_, l4fold_ec H p q r g hg hv, ?_, fun v K hR => hR.no.elim⟩, fun h => by simp at h⟩⟩
    rintro _ K ⟨p1, q1, r1, hx, h⟩
    cases hx
    exact ⟨p1, q1, r1, rfl, h⟩
  · refine EC_fn ctx (fun _ => true) Try.func14 rfl rfl rfl ?_
    refine ⟨fun h => by simp at h, fun _ => ⟨fun h => by simp at h, fun _ => ⟨_, l4equal3_ec H p q r g hg hv, ?_, fun v K hR => hR.no.elim⟩⟩⟩
    rintro _ K ⟨p1, q1, r1, hx, h⟩
    cases hx
    exact ⟨p1, q1, r1, rfl, h⟩
  · refine EC_fn ctx (fun _ => true) Try.func14 rfl rfl rfl ?_
    refine ⟨fun h => by simp at h, fun _ => ⟨fun h => by simp at h, fun _ => ⟨_, l4equal4_ec H p q r g hg hv, ?_, fun v K hR => hR.no.elim⟩⟩⟩
    rintro _ K ⟨p1, q1, r1, hx, h⟩
    cases hx
    exact ⟨p1, q1, r1, rfl, h⟩
def zG : Graph := ⟨[], [], []⟩
/-- What RunPass answers. -/
def rp (g : Graph) (pass : Int) : Graph × Int := if validB g then (if 0 ≤ pass ∧ pass ≤ 4 then (passG g pass, 0) else (zG, 6)) else (zG, 1)
def RPR (H : Heap) (g : Graph) (c : Int) (e : AEnd) (K : Heap) : Prop := ∃ p q r, e = .ret (.tuple #[gV p q r g, .int .i64 c]) ∧ Ext H K ∧ OwnG K H.next K.next p q r g
theorem RPR.no {H K : Heap} {g : Graph} {c : Int} {v : Value} (h : RPR H g c (.pan v) K) : False := by obtain ⟨_, _, _, h, _⟩ := h; cases h
theorem RPR.zero {H K : Heap} {g : Graph} {c c' : Int} (h : (g, c') = (zG, c)) (e : Ext H K) : RPR H g c' (.ret (.tuple #[.agg #[.slice none 0 0, .slice none 0 0, .slice none 0 0], .int .i64 c])) K := by
  cases h
  exact ⟨none, none, none, rfl, e, .nil, .nil, .nil, ⟨by simp, by simp, by simp⟩, ⟨by simp, by simp, by simp⟩⟩
theorem specRunPass_ec (H : Heap) (p q r : Option Addr) (g : Graph) (pass : Int) (hg : RdG H p q r g) (h1 : g.ins.length ≤ 1048576) (h2 : g.vals.length ≤ 1048576) (h3 : g.outs.length ≤ 1048576) :
    EC Try.prog 5 [gV p q r g, .int .i64 pass] H (RPR H (rp g pass).1 (rp g pass).2) := by
  refine EC_fn ctx (fun _ => true) Try.func5 rfl rfl rfl ?_
  refine ⟨_, specValid_ec H p q r g hg h2 h1 h3, ?_, fun v K hR => by cases hR.1⟩
  rintro _ K ⟨hx, e1⟩
  cases hx
  refine ⟨fun h => ?_, fun h => ?_⟩
  · have hv : validB g = false := by simpa using h
    exact RPR.zero (c := 1) (by unfold rp; rw [hv]; rfl) e1
  · have hv : validB g = true := by simpa using h
    refine ⟨fun h => ?_, fun h => ?_⟩
    · have hp : ¬ (0 ≤ pass ∧ pass ≤ 4) := by
        rintro ⟨a, b⟩
        have e1 : ¬ pass < 0 := by omega
        have e2 : ¬ 4 < pass := by omega
        simp [e1, e2] at h
      exact RPR.zero (c := 6) (by unfold rp; rw [if_pos hv, if_neg hp]) e1
    · have hp : 0 ≤ pass ∧ pass ≤ 4 := by
        by_cases a : pass < 0
        · simp [a] at h
        · by_cases b : 4 < pass
          · simp [a, b] at h
          · omega
      refine ⟨_, l4pass_ec K p q r g pass (hg.mono e1) hv hp.1 hp.2, ?_, fun v K hR => hR.no.elim⟩
      rintro _ K2 ⟨p1, q1, r1, hx, e2, og⟩
      cases hx
      have hr : rp g pass = (passG g pass, 0) := by unfold rp; rw [if_pos hv, if_pos hp]
      rw [hr]
      exact ⟨p1, q1, r1, rfl, e1.trans e2, ⟨og.i.wider e1.next, og.s.wider e1.next, og.o.wider e1.next, og.hi_, og.ne⟩⟩
theorem isPass_pc (H : Heap) (n : Int) : PC Try.prog 18 [.int .i64 n] H (.bool (decide (0 ≤ n ∧ n ≤ 4))) := by
  refine EC_fn ctx (fun _ => true) Try.func18 rfl rfl rfl ?_
  refine pbool ?_
  by_cases h : 0 ≤ n <;> by_cases h' : n ≤ 4 <;> simp [h, h']
def passFs : Array Value := #[.func (.func 36) #[] #[], .func (.func 37) #[] #[], .func (.func 38) #[] #[], .func (.func 39) #[] #[], .func (.func 40) #[] #[]]
theorem passes_pc (H : Heap) : PC Try.prog 19 [] H (.agg passFs) := by
  refine EC_fn ctx (fun _ => true) Try.func19 rfl rfl rfl ?_
  exact ⟨rfl, rfl⟩
theorem implRunPass_ec (H : Heap) (p q r : Option Addr) (g : Graph) (pass : Int) (hg : RdG H p q r g) (h1 : g.ins.length ≤ 1048576) (h2 : g.vals.length ≤ 1048576) (h3 : g.outs.length ≤ 1048576) :
    EC Try.prog 7 [gV p q r g, .int .i64 pass] H (RPR H (rp g pass).1 (rp g pass).2) := by
  refine EC_fn ctx (fun _ => true) Try.func7 rfl rfl rfl ?_
  refine ⟨_, implValid_pc H p q r g hg h2 h1 h3, ?_, fun v K hR => by cases hR.1⟩
  rintro _ K ⟨hx, rfl⟩
  cases hx
  refine ⟨fun h => ?_, fun h => ?_⟩
  · have hv : validB g = false := by simpa using h
    exact RPR.zero (c := 1) (by unfold rp; rw [hv]; rfl) (Ext.refl _)
  have hv : validB g = true := by simpa using h
  refine ⟨_, isPass_pc K pass, ?_, fun v K hR => by cases hR.1⟩
  rintro _ K ⟨hx, rfl⟩
  cases hx
  refine ⟨fun h => ?_, fun h => ?_⟩
  · have hp : ¬ (0 ≤ pass ∧ pass ≤ 4) := fun e => by rw [decide_eq_true e] at h; simp at h
    exact RPR.zero (c := 6) (by unfold rp; rw [if_pos hv, if_neg hp]) (Ext.refl _)
  have hp : 0 ≤ pass ∧ pass ≤ 4 := by simpa using h
  have hr : rp g pass = (passG g pass, 0) := by unfold rp; rw [if_pos hv, if_pos hp]
  rw [hr]
  have hpp : pass = 0 ∨ pass = 1 ∨ pass = 2 ∨ pass = 3 ∨ pass = 4 := by omega
  rcases hpp with rfl | rfl | rfl | rfl | rfl
  · refine ⟨.leaf [([0, 1, 2, 3], some 4), ([], some 5), ([], some 6), ([7], none)] [1, 2], by kernel_rfl, .agg passFs, passes_pc K, .func (.func 36) #[] #[], ⟨by decide, by decide, rfl⟩, ?_⟩
    refine ⟨_, graphCopy_ec K p q r g hg h1 h2 h3, ?_, fun v K hR => hR.no.elim⟩
    rintro _ K1 ⟨p1, q1, r1, hx, e1, og⟩
    cases hx
    refine ⟨_, deadPass_ec K1 K.next K1.next p1 q1 r1 g hv og e1.next (Nat.le_refl _), ?_, fun v K hR => hR.no.elim⟩
    rintro _ K2 ⟨p2, q2, r2, hx, og2, o2⟩
    cases hx
    exact ⟨p2, q2, r2, rfl, Out.ext e1 o2, og2⟩
  · refine ⟨.leaf [([0, 1, 2, 3], some 4), ([], some 5), ([], some 6), ([7], none)] [1, 2], by kernel_rfl, .agg passFs, passes_pc K, .func (.func 37) #[] #[], ⟨by decide, by decide, rfl⟩, ?_⟩
    refine ⟨_, graphCopy_ec K p q r g hg h1 h2 h3, ?_, fun v K hR => hR.no.elim⟩
    rintro _ K1 ⟨p1, q1, r1, hx, e1, og⟩
    cases hx
    refine ⟨_, commonPass_ec K1 K.next K1.next p1 q1 r1 g hv og e1.next (Nat.le_refl _), ?_, fun v K hR => hR.no.elim⟩
    rintro _ K2 ⟨p2, q2, r2, hx, og2, o2⟩
    cases hx
    exact ⟨p2, q2, r2, rfl, Out.ext e1 o2, og2⟩
  · refine ⟨.leaf [([0, 1, 2, 3], some 4), ([], some 5), ([], some 6), ([7], none)] [1, 2], by kernel_rfl, .agg passFs, passes_pc K, .func (.func 38) #[] #[], ⟨by decide, by decide, rfl⟩, ?_⟩
    refine ⟨_, graphCopy_ec K p q r g hg h1 h2 h3, ?_, fun v K hR => hR.no.elim⟩
    rintro _ K1 ⟨p1, q1, r1, hx, e1, og⟩
    cases hx
    refine ⟨_, foldPass_ec K1 K.next K1.next p1 q1 r1 g hv og e1.next (Nat.le_refl _), ?_, fun v K hR => hR.no.elim⟩
    rintro _ K2 ⟨p2, q2, r2, hx, og2, o2⟩
    cases hx
    exact ⟨p2, q2, r2, rfl, Out.ext e1 o2, og2⟩
  · refine ⟨.leaf [([0, 1, 2, 3], some 4), ([], some 5), ([], some 6), ([7], none)] [1, 2], by kernel_rfl, .agg passFs, passes_pc K, .func (.func 39) #[] #[], ⟨by decide, by decide, rfl⟩, ?_⟩
    refine ⟨_, graphCopy_ec K p q r g hg h1 h2 h3, ?_, fun v K hR => hR.no.elim⟩
    rintro _ K1 ⟨p1, q1, r1, hx, e1, og⟩
    cases hx
    refine ⟨_, negPass_ec K1 K.next K1.next p1 q1 r1 g hv og e1.next (Nat.le_refl _), ?_, fun v K hR => hR.no.elim⟩
    rintro _ K2 ⟨p2, q2, r2, hx, og2, o2⟩
    cases hx
    exact ⟨p2, q2, r2, rfl, Out.ext e1 o2, og2⟩
  · refine ⟨.leaf [([0, 1, 2, 3], some 4), ([], some 5), ([], some 6), ([7], none)] [1, 2], by kernel_rfl, .agg passFs, passes_pc K, .func (.func 40) #[] #[], ⟨by decide, by decide, rfl⟩, ?_⟩
    refine ⟨_, graphCopy_ec K p q r g hg h1 h2 h3, ?_, fun v K hR => hR.no.elim⟩
    rintro _ K1 ⟨p1, q1, r1, hx, e1, og⟩
    cases hx
    refine ⟨_, unitPass_ec K1 K.next K1.next p1 q1 r1 g hv og e1.next (Nat.le_refl _), ?_, fun v K hR => hR.no.elim⟩
    rintro _ K2 ⟨p2, q2, r2, hx, og2, o2⟩
    cases hx
    exact ⟨p2, q2, r2, rfl, Out.ext e1 o2, og2⟩
end Go.Proofs.Ytlcocgoaphpjkaa
