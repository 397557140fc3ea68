/- l6load: what the reference reads as a code. Conditions: those of each. -/
import Derived.Test.YthcnnificgbmhaaLdc
import Derived.Test.YthcnnificgbmhaaMkc
set_option linter.unusedVariables false
set_option linter.unusedSimpArgs false
namespace Go.Proofs.Ythcnnificgbmhaa
open Go.Am
open FlCore (canon isNan)

/-- What a loader answers. -/
def LR (H : Heap) (bs : List Int) (e : AEnd) (K : Heap) : Prop := ∃ p q r c,
  (e = .ret (.tuple #[cV p q r c, .bool false]) ∧ Ext H K ∧ ∀ c, ¬ Good c bs) ∨
  (e = .ret (.tuple #[cV p q r c, .bool true]) ∧ Ext H K ∧ OwnC K H.next K.next p q r c ∧ Norm c ∧ CodeS c ∧ ∀ c', Good c' bs → c = c')
theorem specFrom_pc (b : Int) (b0 : 0 ≤ b) (b1 : b < 18446744073709551616) (H : Heap) : PC Try.prog 29 [.int .u64 b] H (.float .f64 (canon b.toNat)) :=
  PC_of_calls Try.func29 rfl rfl (fun ρ cargs w h => by
    cases h with
    | cons h1 h =>
      cases h
      cases h1 with
      | int => exact (sFloatFrom_any b w b0 b1).mono fun e w' ⟨r, n, h1, h2, h3, h4⟩ => ⟨_, h1, .float ⟨h2, h3⟩, by rw [h4]; rfl⟩) H
theorem cnt_nat {bs : List Int} (hb : ByteL bs) (i : Nat) : ∃ n : Nat, cntAt bs i = n ∧ n ≤ 65535 := by
  have := cnt_range hb i
  exact ⟨(cntAt bs i).toNat, by omega, by omega⟩
theorem cR_no {H : Heap} {bs : List Int} {i n : Nat} {v : Value} {K : Heap} (h : CR H bs i n (.pan v) K) : False := by
  rcases h with ⟨_, h, _⟩ | ⟨_, _, h, _⟩ <;> cases h
theorem cell_i {H : Heap} {b o : Nat} {xs : List Int} (h : Rd dInt H (some ⟨b, o, none⟩) xs) {j : Nat} {x : Int} (hj : xs[j]? = some x) : H.cell? b (o + j * 1) = some (.int .i64 x) := by
  obtain ⟨b', o', h1, h2⟩ := h.cell hj
  cases h1
  exact h2

theorem OwnC.of {K : Heap} {lo n1 n2 : Nat} {p q r : Option Addr} {c : Code'} (hi : Buf dInt K lo p c.ins) (hp : ∀ b o, p = some ⟨b, o, none⟩ → b < n1) (hs : Buf dStep K n1 q c.steps) (hq : ∀ b o, q = some ⟨b, o, none⟩ → b < n2) (ho : Buf dSpan K n2 r c.outs) (h1 : lo ≤ n1) (h2 : n1 ≤ n2) : OwnC K lo K.next p q r c where
  i := hi
  s := hs.wide h1
  o := ho.wide (Nat.le_trans h1 h2)
  hi_ := ⟨fun b o h => (hi.lt h).2, fun b o h => (hs.lt h).2, fun b o h => (ho.lt h).2⟩
  ne := ⟨fun b o h => ⟨fun e => by have := hp b o h; have := hs.lt e; omega, fun e => by have := hp b o h; have := ho.lt e; omega⟩,
    fun b o h => ⟨fun e => by have := hp b 0 e; have := hs.lt h; omega, fun e => by have := hq b o h; have := ho.lt e; omega⟩,
    fun b o h => ⟨fun e => by have := hp b 0 e; have := ho.lt h; omega, fun e => by have := hq b 0 e; have := ho.lt h; omega⟩⟩
def NormS (ss : List Step) : Prop := ∀ s ∈ ss, canon s.k = s.k ∧ s.k < 18446744073709551616 ∧ (¬ s.op = 1 → s.k = 0)
theorem NormS.snoc {ss : List Step} {s : Step} (h : NormS ss) (h1 : canon s.k = s.k) (h2 : s.k < 18446744073709551616) (h3 : ¬ s.op = 1 → s.k = 0) : NormS (ss ++ [s]) := fun x hx => by
  rw [List.mem_append, List.mem_singleton] at hx
  rcases hx with hx | rfl
  · exact h x hx
  · exact ⟨h1, h2, h3⟩
/-- What a code's steps are read to be, up to a place. -/
def GhS (bs : List Int) (is : List Int) (n1 k pos : Nat) (ss : List Step) : Prop := ∀ c, Good c bs → is = c.ins ∧ n1 = c.steps.length ∧ pos = posS c k ∧ ss = c.steps.take k
theorem GhS.lt {bs is : List Int} {n1 k pos : Nat} {ss : List Step} (h : GhS bs is n1 k pos ss) (hk : k < n1) (hl : bs.length < pos + 13) : ∀ c, ¬ Good c bs := fun c hc => by
  obtain ⟨h1, h2, h3, h4⟩ := h c hc
  have h5 := posS_succ (c := c) (k := k) (by omega)
  have h6 := posS_le hc (k := k + 1) (by omega)
  rw [stepBy_len] at h5
  omega
def stepOf (bs : List Int) (pos : Nat) (o : Int) (k : Nat) : Step := ⟨o, cntAt bs (pos + 1), cntAt bs (pos + 1 + 2), cntAt bs (pos + 1 + 4), cntAt bs (pos + 1 + 6), cntAt bs (pos + 1 + 8), cntAt bs (pos + 1 + 10), k⟩
theorem GhS.step {bs is : List Int} {n1 k pos : Nat} {ss : List Step} (h : GhS bs is n1 k pos ss) (hk : k < n1) {f : Nat} {o : Int} (ho : o = at_ bs pos) (hf : ∀ s : Step, canon s.k = s.k → s.op = at_ bs pos → (s.op = 1 → valB 8 (bs.drop (pos + 13)) = s.k) → (¬ s.op = 1 → s.k = 0) → f = s.k) :
    GhS bs is n1 (k + 1) (pos + 13 + if at_ bs pos = 1 then 8 else 0) (ss ++ [stepOf bs pos o f]) := fun c hc => by
  subst ho
  obtain ⟨h1, h2, h3, h4⟩ := h c hc
  have hk' : k < c.steps.length := by omega
  have hn := hc.2.2 _ (List.getElem_mem hk')
  have hs := hc.step hk'
  rw [← h3] at hs
  refine ⟨h1, h2, ?_, ?_⟩
  · rw [posS_succ hk', stepBy_len, ← hs.1, ← h3]; omega
  · rw [List.take_succ_eq_append_getElem hk', h4]
    congr 2
    have := hf _ hn.1 hs.1.symm hs.2.2 hn.2.2
    obtain ⟨q1, q2, _⟩ := hs
    generalize c.steps[k] = s at *
    obtain ⟨a0, a1, a2, a3, a4, a5, a6, a7⟩ := s
    have q2 : [cntAt bs (pos + 1), cntAt bs (pos + 1 + 2), cntAt bs (pos + 1 + 4), cntAt bs (pos + 1 + 6), cntAt bs (pos + 1 + 8), cntAt bs (pos + 1 + 10)] = [a1, a2, a3, a4, a5, a6] := q2
    simp only [List.cons.injEq, and_true] at q2
    unfold stepOf
    simp only at q1 this
    rw [q1, q2.1, q2.2.1, q2.2.2.1, q2.2.2.2.1, q2.2.2.2.2.1, q2.2.2.2.2.2, this]
/-- What a code's outputs are read to be, up to a place. -/
def GhO (bs : List Int) (is : List Int) (ss : List Step) (n2 k pos : Nat) (os : List Span) : Prop := ∀ c, Good c bs → is = c.ins ∧ ss = c.steps ∧ n2 = c.outs.length ∧ pos = posO c k ∧ os = c.outs.take k
theorem GhO.lt {bs is : List Int} {ss : List Step} {n2 k pos : Nat} {os : List Span} (h : GhO bs is ss n2 k pos os) (hk : k < n2) (hl : bs.length < pos + 4) : ∀ c, ¬ Good c bs := fun c hc => by
  obtain ⟨h1, h2, h3, h4, h5⟩ := h c hc
  have h6 := hc.len
  unfold posO at h4 h6
  omega
theorem GhO.step {bs is : List Int} {ss : List Step} {n2 k pos : Nat} {os : List Span} (h : GhO bs is ss n2 k pos os) (hk : k < n2) : GhO bs is ss n2 (k + 1) (pos + 4) (os ++ [⟨cntAt bs pos, cntAt bs (pos + 2)⟩]) := fun c hc => by
  obtain ⟨h1, h2, h3, h4, h5⟩ := h c hc
  have hk' : k < c.outs.length := by omega
  have ho := hc.out hk'
  refine ⟨h1, h2, h3, ?_, ?_⟩
  · unfold posO at h4 ⊢; omega
  · rw [List.take_succ_eq_append_getElem hk', h5]
    congr 2
    rw [← h4] at ho
    have ho : [cntAt bs pos, cntAt bs (pos + 2)] = _ := ho
    simp only [List.cons.injEq, and_true] at ho
    rw [ho.1, ho.2]
end Go.Proofs.Ythcnnificgbmhaa
