/- RunPass, both sides. Conditions: those of each. -/
import Derived.Test.YtjmobjiaoklfdaaPso
import Derived.Test.YtjmobjiaoklfdaaPsi
set_option linter.unusedVariables false
set_option linter.unusedSimpArgs false
namespace Go.Proofs.Ytjmobjiaoklfdaa
open Go.Am
open FlCore (canon isNan)

def passG (g : Graph) (pass : Int) : Graph :=
  if pass = 0 then deadG g else if pass = 1 then shared sameCommon g else if pass = 2 then foldG g else if pass = 3 then shared sameNeg g else shared sameUnit g
theorem l4pass_ec (H : Heap) (p q r : Option Addr) (g : Graph) (pass : Int) (hg : RdG H p q r g) (hv : validB g = true) (h0 : 0 ≤ pass) (h4 : pass ≤ 4) :
    EC Try.prog 31 [gV p q r g, .int .i64 pass] H (GR H (passG g pass)) := by
  have hp : pass = 0 ∨ pass = 1 ∨ pass = 2 ∨ pass = 3 ∨ pass = 4 := by omega
  rcases hp with rfl | rfl | rfl | rfl | rfl
  · refine EC_fn ctx (fun _ => true) Try.func31 rfl rfl rfl ?_
    refine ⟨fun _ => ⟨_, l4dead_ec H p q r g hg hv, ?_, fun v K hR => hR.no.elim⟩, fun h => by simp at h⟩
    rintro _ K ⟨p1, q1, r1, hx, h⟩
    cases hx
    exact ⟨p1, q1, r1, rfl, h⟩
  · refine EC_fn ctx (fun _ => true) Try.func31 rfl rfl rfl ?_
    refine ⟨fun h => by simp at h, fun _ => ⟨fun h => by simp at h, fun _ => ⟨_, l4equal1_ec H p q r g hg hv, ?_, fun v K hR => hR.no.elim⟩⟩⟩
    rintro _ K ⟨p1, q1, r1, hx, h⟩
    cases hx
    exact ⟨p1, q1, r1, rfl, h⟩
  · refine EC_fn ctx (fun _ => true) Try.func31 rfl rfl rfl ?_
    refine ⟨fun h => by simp at h, fun _ => ⟨fun _ => ⟨_, l4fold_ec H p q r g hg hv, ?_, fun v K hR => hR.no.elim⟩, fun h => by simp at h⟩⟩
    rintro _ K ⟨p1, q1, r1, hx, h⟩
    cases hx
    exact ⟨p1, q1, r1, rfl, h⟩
  · refine EC_fn ctx (fun _ => true) Try.func31 rfl rfl rfl ?_
    refine ⟨fun h => by simp at h, fun _ => ⟨fun h => by simp at h, fun _ => ⟨_, l4equal3_ec H p q r g hg hv, ?_, fun v K hR => hR.no.elim⟩⟩⟩
    rintro _ K ⟨p1, q1, r1, hx, h⟩
    cases hx
    exact ⟨p1, q1, r1, rfl, h⟩
  · refine EC_fn ctx (fun _ => true) Try.func31 rfl rfl rfl ?_
    refine ⟨fun h => by simp at h, fun _ => ⟨fun h => by simp at h, fun _ => ⟨_, l4equal4_ec H p q r g hg hv, ?_, fun v K hR => hR.no.elim⟩⟩⟩
    rintro _ K ⟨p1, q1, r1, hx, h⟩
    cases hx
    exact ⟨p1, q1, r1, rfl, h⟩
def zG : Graph := ⟨[], [], []⟩
/-- What RunPass answers. -/
def rp (g : Graph) (pass : Int) : Graph × Int := if validB g then (if 0 ≤ pass ∧ pass ≤ 4 then (passG g pass, 0) else (zG, 6)) else (zG, 1)
def RPR (H : Heap) (g : Graph) (c : Int) (e : AEnd) (K : Heap) : Prop := ∃ p q r, e = .ret (.tuple #[gV p q r g, .int .i64 c]) ∧ Ext H K ∧ OwnG K H.next K.next p q r g
theorem RPR.no {H K : Heap} {g : Graph} {c : Int} {v : Value} (h : RPR H g c (.pan v) K) : False := by obtain ⟨_, _, _, h, _⟩ := h; cases h
theorem RPR.zero {H K : Heap} {g : Graph} {c c' : Int} (h : (g, c') = (zG, c)) (e : Ext H K) : RPR H g c' (.ret (.tuple #[.agg #[.slice none 0 0, .slice none 0 0, .slice none 0 0], .int .i64 c])) K := by
  cases h
  exact ⟨none, none, none, rfl, e, .nil, .nil, .nil, ⟨by simp, by simp, by simp⟩, ⟨by simp, by simp, by simp⟩⟩
theorem isPass_pc (H : Heap) (n : Int) : PC Try.prog 35 [.int .i64 n] H (.bool (decide (0 ≤ n ∧ n ≤ 4))) := by
  refine EC_fn ctx (fun _ => true) Try.func35 rfl rfl rfl ?_
  refine pbool ?_
  by_cases h : 0 ≤ n <;> by_cases h' : n ≤ 4 <;> simp [h, h']
def passFs : Array Value := #[.func (.func 51) #[] #[], .func (.func 52) #[] #[], .func (.func 53) #[] #[], .func (.func 54) #[] #[], .func (.func 55) #[] #[]]
theorem passes_pc (H : Heap) : PC Try.prog 37 [] H (.agg passFs) := by
  refine EC_fn ctx (fun _ => true) Try.func37 rfl rfl rfl ?_
  exact ⟨rfl, rfl⟩
end Go.Proofs.Ytjmobjiaoklfdaa
