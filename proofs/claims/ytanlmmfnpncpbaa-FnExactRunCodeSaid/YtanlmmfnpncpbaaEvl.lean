/- Eval: copies, shapes, operands. Conditions: lists of at most 2^20 elements. -/
import Derived.Test.YtanlmmfnpncpbaaSst
import Derived.Test.YtanlmmfnpncpbaaKerc
import Derived.Test.YtanlmmfnpncpbaaGval
set_option linter.unusedVariables false
set_option linter.unusedSimpArgs false
namespace Go.Proofs.Ytanlmmfnpncpbaa
open Go.Am

theorem _root_.Go.Am.Rd.all_ {α : Type} {d : Enc α} {H : Heap} {a : Option Addr} {xs : List α} (h : Rd d H a xs) (hp : 0 < xs.length) : ∃ b o, a = some ⟨b, o, none⟩ ∧ H.run? b o (xs.length * d.sz) = some (flat d xs) := by
  obtain ⟨b, off, cs, rw_, h1, h2, h3, h4⟩ := h.at_ hp
  refine ⟨b, off, h1, ?_⟩
  unfold Heap.run?
  rw [h2]
  simp only
  rw [if_pos h3, h4]
def CpR (H : Heap) (xs : List Nat) (r : AEnd) (K : Heap) : Prop := ∃ o, r = .ret (sv o xs) ∧ Ext H K ∧ Buf dFlt K H.next o xs
theorem l1copy_ec (H : Heap) (a : Option Addr) (xs : List Nat) (h : Rd dFlt H a xs) (hl : xs.length ≤ 1048576) :
    EC Try.prog 44 [.slice a xs.length xs.length] H (CpR H xs) := by
  refine EC_fn ctx (fun _ => true) Try.func44 rfl rfl rfl ?_
  cases xs with
  | nil => exact ⟨none, rfl, Ext.refl _, .nil⟩
  | cons x r =>
    obtain ⟨b, o, rfl, hr⟩ := h.all_ (by simp)
    simp only [List.length_cons] at hl
    refine ⟨_, hr, by dsimp only; omega, by omega, [], rfl, some ⟨H.next, 0, none⟩, ?_, Ext.push _ _, .blk (Nat.le_refl _) (push_blk _ _)⟩
    exact ret_sv (by simp)
theorem floatsCopy_ec (H : Heap) (a : Option Addr) (xs : List Nat) (h : Rd dFlt H a xs) (hl : xs.length ≤ 1048576) :
    EC Try.prog 61 [.slice a xs.length xs.length] H (CpR H xs) := by
  refine EC_fn ctx (fun _ => true) Try.func61 rfl rfl rfl ?_
  have hb : Buf dFlt (H.push (.cells [] 1 true)) H.next (some ⟨H.next, 0, none⟩) [] := .blk (Nat.le_refl _) (push_blk _ _)
  cases xs with
  | nil => exact ⟨some ⟨H.next, 0, none⟩, rfl, Ext.push _ _, hb⟩
  | cons x r =>
    obtain ⟨b, o, rfl, hr⟩ := (h.mono (Ext.push H (.cells [] 1 true))).all_ (by simp)
    simp only [List.length_cons] at hl
    have hg := hb.app (ys := x :: r) rfl (Nat.le_succ _)
    refine ⟨_, hr, by dsimp only; omega, by omega, _, hb.own, some ⟨H.next + 1, 0, none⟩, ?_, (hb.killO (Ext.push _ _) (Nat.le_refl _)).push' _, hg⟩
    exact ret_sv (by simp)

def shapesB (ins : List Int) (xss : List (List Nat)) : Bool := decide (xss.map (fun x : List Nat => (x.length : Int)) = ins)
theorem shapes_len {ins : List Int} {xss : List (List Nat)} (h : ¬ ins.length = xss.length) : shapesB ins xss = false := by
  unfold shapesB
  rw [decide_eq_false_iff_not]
  intro e
  have := congrArg List.length e
  simp at this
  omega
theorem shapes_at {ins : List Int} {xss : List (List Nat)} {k : Nat} (hk : k < ins.length) (hk' : k < xss.length) (h : ¬ (xss[k].length : Int) = ins[k]) : shapesB ins xss = false := by
  unfold shapesB
  rw [decide_eq_false_iff_not]
  intro e
  subst e
  simp at h
theorem shapes_all {ins : List Int} {xss : List (List Nat)} (hl : ins.length = xss.length) (h : ∀ k (hk : k < ins.length) (hk' : k < xss.length), (xss[k].length : Int) = ins[k]) : shapesB ins xss = true := by
  unfold shapesB
  rw [decide_eq_true_eq]
  apply List.ext_getElem
  · simp; omega
  · intro i h1 h2
    simp only [List.getElem_map]
    exact h i h2 (by simpa using h1)
theorem l1shapes_pc (H : Heap) (p a : Option Addr) (ins : List Int) (es : List SlE) (h : Rd dInt H p ins) (h' : RdSS H a es) (hl : ins.length ≤ 1048576) (hl' : es.length ≤ 1048576) :
    PC Try.prog 20 [sv p ins, sv a es] H (.bool (shapesB ins (snds es))) := by
  refine EC_fn ctx (fun _ => true) Try.func20 rfl rfl rfl ?_
  refine ⟨fun hne => pbool ?_, fun heq => ?_⟩
  · rw [shapes_len (by simp at hne ⊢; omega)]
  have hlen : ins.length = es.length := by simp at heq; omega
  refine loop_ind ctx (fun _ => true) (fun m E K => ∃ k, k ≤ ins.length ∧ m = ins.length - k ∧ E = ⟨[(0, sv p ins), (1, sv a es), (5, .int .i64 k)], []⟩ ∧ K = H ∧ ∀ i (hi : i < ins.length) (hi' : i < es.length), i < k → (es[i].2.length : Int) = ins[i])
    ⟨0, Nat.zero_le _, rfl, rfl, rfl, fun _ _ _ h => by omega⟩ (by (refine ⟨?_, ?_⟩ <;> repeat' first | exact trivial | exact congrArg (fun x => some (Value.int .i64 x)) (wrap_nat (by omega)) | exact sv_eq (by simp; done) | exact rfl | refine ⟨?_, ?_⟩ | fail)) ?_
  rintro m E K ⟨k, hk, rfl, rfl, rfl, ho⟩
  refine ⟨fun hlt => ?_, fun hge => ?_⟩
  · have hlt : k < ins.length := by simpa using hlt
    have hlt' : k < es.length := by omega
    obtain ⟨b, o, rfl, hc⟩ := h.cell (List.getElem?_eq_getElem hlt)
    obtain ⟨b', o', rfl, hc'⟩ := h'.out.cell (List.getElem?_eq_getElem hlt')
    refine ⟨.leaf [([0, 1, 2, 3, 4, 5, 6, 7, 8, 9], none)] [], by kernel_rfl, ⟨by omega, by omega⟩, _, hc', ⟨by omega, by omega⟩, _, hc, fun hne => pbool ?_, fun heq => ?_⟩
    · rw [shapes_at hlt (by simpa using hlt') (by simpa using hne)]
    · refine ⟨ins.length - (k + 1), ⟨[(0, sv (some ⟨b, o, none⟩) ins), (1, sv (some ⟨b', o', none⟩) es), (5, .int .i64 ((k + 1 : Nat) : Int))], []⟩, by omega, by (refine ⟨?_, ?_⟩ <;> repeat' first | exact trivial | exact congrArg (fun x => some (Value.int .i64 x)) (wrap_nat (by omega)) | exact sv_eq (by simp; done) | exact rfl | refine ⟨?_, ?_⟩ | fail), k + 1, by omega, rfl, rfl, rfl, fun i hi hi' hik => ?_⟩
      by_cases hik' : i = k
      · subst hik'; simpa using heq
      · exact ho i hi hi' (by omega)
  · have hk2 : k = ins.length := by simp at hge; omega
    subst hk2
    exact pbool (shapes_all (by simpa using hlen) fun i hi hi' => by simpa using ho i hi (by simpa using hi') hi).symm
theorem inputsFit_pc (H : Heap) (p a : Option Addr) (ins : List Int) (es : List SlE) (h : Rd dInt H p ins) (h' : RdSS H a es) (hl : ins.length ≤ 1048576) (hl' : es.length ≤ 1048576) :
    PC Try.prog 27 [sv p ins, sv a es] H (.bool (shapesB ins (snds es))) := by
  refine EC_fn ctx (fun _ => true) Try.func27 rfl rfl rfl ?_
  refine ⟨fun hne => pbool ?_, fun heq => ?_⟩
  · rw [shapes_len (by simp at hne ⊢; omega)]
  have hlen : ins.length = es.length := by simp at heq; omega
  refine loop_ind ctx (fun _ => true) (fun m E K => ∃ k, k ≤ es.length ∧ m = es.length - k ∧ E = ⟨[(0, sv p ins), (12, sv a es), (13, .int .i64 es.length), (14, .int .i64 k)], []⟩ ∧ K = H ∧ ∀ i (hi : i < ins.length) (hi' : i < es.length), i < k → (es[i].2.length : Int) = ins[i])
    ⟨0, Nat.zero_le _, rfl, rfl, rfl, fun _ _ _ h => by omega⟩ (by (refine ⟨?_, ?_⟩ <;> repeat' first | exact trivial | exact congrArg (fun x => some (Value.int .i64 x)) (wrap_nat (by omega)) | exact sv_eq (by simp; done) | exact rfl | refine ⟨?_, ?_⟩ | fail)) ?_
  rintro m E K ⟨k, hk, rfl, rfl, rfl, ho⟩
  refine ⟨fun hlt => ?_, fun hge => ?_⟩
  · have hlt' : k < es.length := by simpa using hlt
    have hlt : k < ins.length := by omega
    obtain ⟨b, o, rfl, hc⟩ := h.cell (List.getElem?_eq_getElem hlt)
    obtain ⟨b', o', rfl, hc'⟩ := h'.out.cell (List.getElem?_eq_getElem hlt')
    refine ⟨⟨by omega, by omega⟩, _, hc', ⟨by omega, by omega⟩, _, hc, fun hne => pbool ?_, fun heq => ?_⟩
    · rw [shapes_at hlt (by simpa using hlt') (by simpa using hne)]
    · refine ⟨es.length - (k + 1), ⟨[(0, sv (some ⟨b, o, none⟩) ins), (12, sv (some ⟨b', o', none⟩) es), (13, .int .i64 es.length), (14, .int .i64 ((k + 1 : Nat) : Int))], []⟩, by omega, by (refine ⟨?_, ?_⟩ <;> repeat' first | exact trivial | exact congrArg (fun x => some (Value.int .i64 x)) (wrap_nat (by omega)) | exact sv_eq (by simp; done) | exact rfl | refine ⟨?_, ?_⟩ | fail), k + 1, by omega, rfl, rfl, rfl, fun i hi hi' hik => ?_⟩
      by_cases hik' : i = k
      · subst hik'; simpa using heq
      · exact ho i hi hi' (by omega)
  · have hk2 : k = es.length := by simp at hge; omega
    subst hk2
    exact pbool (shapes_all (by simpa using hlen) fun i hi hi' => by simpa using ho i hi (by simpa using hi') (by omega)).symm
def argsL (v : Val) : List Int := [v.a, v.b, v.c].take (opnd v.op).toNat
theorem opnd3 (op : Int) : 0 ≤ opnd op ∧ opnd op ≤ 3 := by unfold opnd; split; omega; split; omega; split <;> omega
theorem argsL_len (v : Val) : (argsL v).length = (opnd v.op).toNat := by have := opnd3 v.op; simp [argsL]; omega
theorem argsL_get {v : Val} {j : Nat} (h : j < (opnd v.op).toNat) : (argsL v)[j]? = some (fieldV v j) := by
  have := opnd3 v.op
  have hj : j = 0 ∨ j = 1 ∨ j = 2 := by omega
  unfold argsL
  rw [List.getElem?_take, if_pos h]
  rcases hj with rfl | rfl | rfl <;> rfl
end Go.Proofs.Ytanlmmfnpncpbaa
