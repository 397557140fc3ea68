/- l2jvp: the reference's forward derivative, walked. Written by genjve.py. Conditions: the graph is valid, the indexes are its own. -/
import Derived.Test.YtaaelokodfildaaJvd
set_option linter.unusedVariables false
set_option linter.unusedSimpArgs false
namespace Go.Proofs.Ytaaelokodfildaa
open Go.Am

theorem OwnG.grow {K : Heap} {lo hi hi' : Nat} {p q r : Option Addr} {g : Graph} (og : OwnG K lo hi p q r g) (h : hi ≤ hi') : OwnG K lo hi' p q r g :=
  ⟨og.i, og.s, og.o, ⟨fun b f e => Nat.lt_of_lt_of_le (og.hi_.1 b f e) h, fun b f e => Nat.lt_of_lt_of_le (og.hi_.2.1 b f e) h, fun b f e => Nat.lt_of_lt_of_le (og.hi_.2.2 b f e) h⟩, og.ne⟩
def fr (mv : List Int) (v : Val) (k : Nat) : List Int := [if 0 < k then jf mv v 0 else -1, if 1 < k then jf mv v 1 else -1, if 2 < k then jf mv v 2 else -1]
def so (mv : List Int) (v : Val) (k : Nat) : Bool := decide (0 < k ∧ 0 ≤ jf mv v 0) || decide (1 < k ∧ 0 ≤ jf mv v 1) || decide (2 < k ∧ 0 ≤ jf mv v 2)
theorem fr_set (mv : List Int) (v : Val) {k : Nat} (hk : k < 3) : (fr mv v k).set k (jf mv v k) = fr mv v (k + 1) := by
  have : k = 0 ∨ k = 1 ∨ k = 2 := by omega
  rcases this with rfl | rfl | rfl <;> simp [fr]
theorem fr_get (mv : List Int) (v : Val) {k : Nat} (hk : k < 3) : (fr mv v (k + 1))[k]? = some (jf mv v k) := by
  have : k = 0 ∨ k = 1 ∨ k = 2 := by omega
  rcases this with rfl | rfl | rfl <;> simp [fr]
theorem so_succ (mv : List Int) (v : Val) {k : Nat} (hk : k < 3) : so mv v (k + 1) = (so mv v k || decide (0 ≤ jf mv v k)) := by
  have : k = 0 ∨ k = 1 ∨ k = 2 := by omega
  rcases this with rfl | rfl | rfl <;> simp [so]
theorem jf_none {mv : List Int} {v : Val} {k : Int} (h : opnd v.op ≤ k) : jf mv v k = -1 := by unfold jf; rw [if_neg (by omega)]
theorem fr_all (mv : List Int) (v : Val) : fr mv v (opnd v.op).toNat = [jf mv v 0, jf mv v 1, jf mv v 2] := by
  rcases opnd4 v.op with e | e | e | e <;> simp [fr, e, jf_none (mv := mv) (v := v) (k := 0), jf_none (mv := mv) (v := v) (k := 1), jf_none (mv := mv) (v := v) (k := 2)]
theorem so_all (mv : List Int) (v : Val) : so mv v (opnd v.op).toNat = jsome mv v := by
  rcases opnd4 v.op with e | e | e | e <;> simp [so, jsome, e, jf_none (mv := mv) (v := v) (k := 0), jf_none (mv := mv) (v := v) (k := 1), jf_none (mv := mv) (v := v) (k := 2)] <;> rw [Bool.eq_iff_iff] <;> simp [or_assoc]
/-- The graph with the move of s, and where that is. -/
def jvpP (vals : List Val) (s x : Nat) (t : Int) : List Val × Int :=
  if x ≤ s ∧ 0 ≤ atV (jr vals x t (s - x)).2 s then ((jr vals x t (s - x)).1, atV (jr vals x t (s - x)).2 s) else ((jr vals x t (s - x)).1 ++ [opV 1 (lenAt vals s) 0 0 0], ((jr vals x t (s - x)).1.length : Int))
def JR (H : Heap) (g : Graph) (y : List Val × Int) (e : AEnd) (K : Heap) : Prop := ∃ p q r, e = .ret (.tuple #[gV p q r ⟨g.ins, y.1, g.outs⟩, .int .i64 y.2]) ∧ Ext H K ∧ OwnG K H.next K.next p q r ⟨g.ins, y.1, g.outs⟩
theorem JR.no {H K : Heap} {g : Graph} {y : List Val × Int} {v : Value} (h : JR H g y (.pan v) K) : False := by obtain ⟨_, _, _, h, _⟩ := h; cases h
theorem opnd_field {v : Val} {n : Int} (h : OpsIn v n) {k : Int} (h0 : 0 ≤ k) (hk : k < opnd v.op) : 0 ≤ fieldV v k ∧ fieldV v k < n := by
  have h3 := opnd3 v.op
  have hk3 : k = 0 ∨ k = 1 ∨ k = 2 := by omega
  rcases hk3 with rfl | rfl | rfl
  · simpa [fieldV] using h.a (by omega)
  · simpa [fieldV] using h.b (by omega)
  · simpa [fieldV] using h.c (by omega)
theorem valid_opv {g : Graph} (h : validB g = true) {i : Nat} {v : Val} (hv : g.vals[i]? = some v) : 0 ≤ v.op ∧ v.op ≤ 13 := by
  simp only [validB, Bool.and_eq_true, decide_eq_true_eq] at h
  obtain ⟨⟨⟨⟨⟨⟨v1, v2⟩, v3⟩, v4⟩, v5⟩, v6⟩, v7⟩ := h
  rw [List.all_eq_true] at v5
  have hi : i < g.vals.length := (List.getElem?_eq_some_iff.1 hv).1
  have := v5 i (List.mem_range.2 hi)
  rw [vAt_get hv] at this
  simp only [vokB, Bool.and_eq_true, decide_eq_true_eq] at this
  exact this.1.1
theorem lenAt_v {vs : List Val} {o : Int} {v : Val} (h : vAtI vs o = v) (h0 : 0 ≤ o) (h1 : o < vs.length) : lenAt vs o = v.len := by
  unfold lenAt; rw [vAtI_get h0 h1, h]; rfl
theorem but_own {K K' : Heap} {lo hi : Nat} {p q r a : Option Addr} {g : Graph} (og : OwnG K lo hi p q r g) (hb : But a K K') (h1 : ∀ b o, a = some ⟨b, o, none⟩ → p ≠ some ⟨b, 0, none⟩ ∧ q ≠ some ⟨b, 0, none⟩ ∧ r ≠ some ⟨b, 0, none⟩) : OwnG K' lo hi p q r g :=
  ⟨og.i.but hb fun b o e => (h1 b o e).1, og.s.but hb fun b o e => (h1 b o e).2.1, og.o.but hb fun b o e => (h1 b o e).2.2, og.hi_, og.ne⟩
end Go.Proofs.Ytaaelokodfildaa
