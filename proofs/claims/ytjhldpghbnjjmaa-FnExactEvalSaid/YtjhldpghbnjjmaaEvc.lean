/- Eval, both sides. Conditions: lists of at most 2^20 elements. -/
import Derived.Test.YtjhldpghbnjjmaaEvb
set_option linter.unusedVariables false
set_option linter.unusedSimpArgs false
namespace Go.Proofs.Ytjhldpghbnjjmaa
open Go.Am

def evR (g : Graph) (xss : List (List Nat)) : List (List Nat) × Int := if validB g = true then if shapesB g.ins xss = true then (evalO g xss, 0) else ([], 4) else ([], 1)
def ER (H : Heap) (g : Graph) (xss : List (List Nat)) (R : AEnd) (K : Heap) : Prop := ∃ o es, R = .ret (.tuple #[sv o es, .int .i64 (evR g xss).2]) ∧ snds es = (evR g xss).1 ∧ Ext H K ∧ OwnSS K H.next o es
theorem OwnSS.nil (K : Heap) (lo : Nat) : OwnSS K lo none [] := ⟨.nil, by simp, by simp, .nil⟩
theorem OwnSS.wide {K : Heap} {lo lo' : Nat} {a : Option Addr} {es : List SlE} (h : OwnSS K lo a es) (hl : lo' ≤ lo) : OwnSS K lo' a es := ⟨h.out.wide hl, fun e he => (h.inn e he).wide hl, h.ne, h.pw⟩
theorem Buf.off {α : Type} {d : Enc α} {K : Heap} {lo : Nat} {p : Option Addr} {xs : List α} (h : Buf d K lo p xs) {o : Option Addr} (hs : o = none ∨ ∃ b off, o = some ⟨b, off, none⟩) (ha : Apart o p) : Buf d (K.killO o) lo p xs := by
  cases h with
  | nil => exact .nil
  | @blk b _ h1 h2 =>
    refine .blk h1 ?_
    rcases hs with rfl | ⟨qb, qo, rfl⟩
    · exact h2
    · show (if b = qb then none else K.blk b) = _
      rw [if_neg (fun e => ha qb qo 0 rfl (by rw [e]))]; exact h2
theorem OwnSS.app {K K2 : Heap} {lo : Nat} {o o2 : Option Addr} {es : List SlE} {xs : List Nat} {news : List Value} (h : OwnSS K lo o es) (hlo : lo ≤ K.next) (e : Ext K K2) (hb : Buf dFlt K2 K.next o2 xs) (c : Blk) (hn : news = [.slice o2 xs.length xs.length]) :
    OwnSS (((K2.push c).killO o).push (.cells (flat dSl es ++ news) 1 true)) lo (some ⟨K2.next + 1, 0, none⟩) (es ++ [(o2, xs)]) := by
  have e3 : Ext K (K2.push c) := e.trans (Ext.push _ _)
  have lt : ∀ f ∈ es, ∀ b q, f.1 = some ⟨b, q, none⟩ → b < K.next := fun f hf b q hq => ((h.inn f hf).lt hq).2
  have l2 : ∀ b q, o2 = some ⟨b, q, none⟩ → K.next ≤ b ∧ b < K2.next := fun b q hq => hb.lt hq
  have lo_ : ∀ b q, o = some ⟨b, q, none⟩ → b < K.next := fun b q hq => (h.out.lt hq).2
  have hn2 := e.next
  refine ⟨(h.out.mono e3).app (ys := [(o2, xs)]) hn (by have := e3.next; omega), fun f hf => ?_, fun f hf => ?_, ?_⟩
  · refine Buf.mono ?_ (Ext.push _ _)
    rcases List.mem_append.1 hf with hf | hf
    · exact Buf.off ((h.inn f hf).mono e3) h.out.rd.sh (h.ne f hf)
    · simp at hf; subst hf
      refine Buf.off ((hb.mono (Ext.push K2 c)).wide hlo) h.out.rd.sh fun b q q' h1 h2 => ?_
      have := lo_ b q h1; have := l2 b q' h2; omega
  · intro b q q' h1 h2
    cases h1
    rcases List.mem_append.1 hf with hf | hf
    · have := lt f hf _ _ h2; omega
    · simp at hf; subst hf
      have := l2 _ _ h2; omega
  · refine List.pairwise_append.2 ⟨h.pw, by simp, fun f hf g hg b q q' h1 h2 => ?_⟩
    simp at hg; subst hg
    have := lt f hf _ _ h1; have := l2 _ _ h2; omega
theorem evalO_le {g : Graph} {xss : List (List Nat)} (hv : Vld g) (hx : ∀ xs ∈ xss, xs.length ≤ 1048576) : ∀ ys ∈ evP g xss g.vals.length, ys.length ≤ 1048576 := evP_le hv hx _ (Nat.le_refl _)

set_option maxHeartbeats 1000000 in
theorem specEval_ec (H : Heap) (p q r a : Option Addr) (g : Graph) (fs : List SlE) (hg : RdG H p q r g) (hin : RdSS H a fs) (h1 : g.ins.length ≤ 1048576) (h2 : g.vals.length ≤ 1048576) (h3 : g.outs.length ≤ 1048576) (hl : fs.length ≤ 1048576) (hx : ∀ e ∈ fs, e.2.length ≤ 1048576) :
    EC Try.prog 30 [gV p q r g, sv a fs] H (ER H g (snds fs)) := by
  have hxs : ∀ xs ∈ snds fs, xs.length ≤ 1048576 := fun xs h => by
    obtain ⟨e, he, rfl⟩ := List.mem_map.1 h
    exact hx e he
  refine EC_fn ctx (fun _ => true) Try.func30 rfl rfl rfl ?_
  refine ⟨_, specValid_ec H p q r g hg h2 h1 h3, ?_, fun v K hR => by cases hR.1⟩
  rintro _ K0 ⟨hx', e0⟩
  cases hx'
  refine ⟨fun h => ?_, fun h => ?_⟩
  · have hb : validB g = false := by simpa using h
    have : evR g (snds fs) = ([], 1) := by unfold evR; rw [hb]; rfl
    unfold ER
    rw [this]
    exact ⟨none, [], rfl, rfl, e0, OwnSS.nil _ _⟩
  have hval : validB g = true := by simpa using h
  have hv := vld_of hval
  refine ⟨_, l1shapes_pc K0 p a g.ins fs (hg.mono e0).ins (hin.mono e0) h1 hl, ?_, fun v K hR => by cases hR.1⟩
  rintro _ K0 ⟨hx', rfl⟩
  cases hx'
  refine ⟨fun h => ?_, fun h => ?_⟩
  · have hb : shapesB g.ins (snds fs) = false := by simpa using h
    have : evR g (snds fs) = ([], 4) := by unfold evR; rw [hval, hb]; rfl
    unfold ER
    rw [this]
    exact ⟨none, [], rfl, rfl, e0, OwnSS.nil _ _⟩
  have hsh : shapesB g.ins (snds fs) = true := by simpa using h
  have hfl : fs.length = g.ins.length := by
    have := of_decide_eq_true hsh
    have := congrArg List.length this
    simpa using this
  have hR : evR g (snds fs) = (evalO g (snds fs), 0) := by unfold evR; rw [hval, hsh]; rfl
  refine ⟨_, l1values_ec K0 p q r a g fs (hg.mono e0) (hin.mono e0) hv hfl hx, ?_, fun v K hR => by obtain ⟨_, _, h, _⟩ := hR; cases h⟩
  rintro _ K1 ⟨oa, ea, hx', hsa, hV⟩
  cases hx'
  have e1 := e0.trans hV.extK
  have hvo := hv.outs
  have hal : ea.length = g.vals.length := by have := congrArg List.length hsa; simpa using this
  refine loop_ind ctx (fun _ => true) (fun m E K => ∃ (k : Nat) (o : Option Addr) (es : List SlE), k ≤ g.outs.length ∧ m = g.outs.length - k ∧ E = ⟨[(2, .pointer (some ⟨0, 0, some 0⟩)), (6, sv oa ea), (7, sv o es), (8, .int .i64 k)], [gcells p q r g]⟩ ∧ es.length = k ∧ snds es = (g.outs.take k).map (fun o => ((evP g (snds fs) g.vals.length)[o.toNat]?).getD []) ∧ OwnSS K K1.next o es ∧ Ext K1 K)
    ⟨0, none, [], Nat.zero_le _, rfl, rfl, rfl, rfl, OwnSS.nil _ _, Ext.refl _⟩ (by (refine ⟨?_, ?_⟩ <;> repeat' first | exact trivial | exact congrArg (fun x => some (Value.int .i64 x)) (wrap_nat (by omega)) | exact sv_eq (by simp; done) | exact rfl | refine ⟨?_, ?_⟩ | fail)) ?_
  rintro m E K ⟨k, o, es, hk, rfl, rfl, hel, hsn, hO, he⟩
  refine ⟨fun hlt => ?_, fun hge => ?_⟩
  · have hlt : k < g.outs.length := by simpa using hlt
    obtain ⟨b, f, rfl, hc⟩ := (hg.outs.mono (e1.trans he)).cell (List.getElem?_eq_getElem hlt)
    obtain ⟨o0, o1⟩ := hv.out _ (List.getElem_mem hlt)
    have hol : (g.outs[k]).toNat < ea.length := by omega
    obtain ⟨b2, f2, rfl, hc2⟩ := (hV.buf.rd.mono he).cell (List.getElem?_eq_getElem hol)
    have hr2 := (hV.ss.mono he).inn _ (List.getElem_mem hol)
    have hle := evalO_le hv hxs _ (by rw [← hsa]; exact List.mem_map_of_mem (List.getElem_mem hol))
    refine ⟨⟨by omega, by omega⟩, _, hc, ⟨by omega, by omega⟩, _, hc2, _, l1copy_ec K _ _ hr2 hle, ?_, fun v K hR => by obtain ⟨_, h, _⟩ := hR; cases h⟩
    rintro _ K2 ⟨o2, hx', e2, hb2⟩
    cases hx'
    have hown := ((hO.out.mono e2).mono (Ext.push K2 (.cells [.slice o2 ea[(g.outs[k]).toNat].2.length ea[(g.outs[k]).toNat].2.length] 1 true))).own
    refine ⟨_, run_push _ _ _ _ (by simp), by dsimp only; omega, by dsimp only; omega, _, hown, ?_⟩
    refine ⟨g.outs.length - (k + 1), ⟨[(2, .pointer (some ⟨0, 0, some 0⟩)), (6, sv (some ⟨b2, f2, none⟩) ea), (7, .slice (some ⟨K2.next + 1, 0, none⟩) (es.length + 1) (es.length + 1)), (8, .int .i64 ((k + 1 : Nat) : Int))], [gcells p q (some ⟨b, f, none⟩) g]⟩, by omega, by (refine ⟨?_, ?_⟩ <;> repeat' first | exact trivial | exact congrArg (fun x => some (Value.int .i64 x)) (wrap_nat (by omega)) | exact sv_eq (by simp; done) | exact rfl | refine ⟨?_, ?_⟩ | fail), k + 1, some ⟨K2.next + 1, 0, none⟩, es ++ [(o2, ea[(g.outs[k]).toNat].2)], by omega, rfl, ?_, by simp [hel], ?_, hO.app he.next e2 hb2 _ rfl, ?_⟩
    · rw [← sv_snoc _ es [((o2, ea[(g.outs[k]).toNat].2) : SlE)] rfl]; rfl
    · rw [List.take_succ_eq_append_getElem hlt, List.map_append, ← hsn]
      simp only [snds, List.map_append, List.map_cons, List.map_nil]
      rw [snds_get hsa hol]
    · exact ((hO.out.mono (e2.trans (Ext.push K2 _))).killO (he.trans (e2.trans (Ext.push _ _))) (Nat.le_refl _)).push' _
  · have hk2 : k = g.outs.length := by simp at hge; omega
    subst hk2
    rw [List.take_of_length_le (Nat.le_refl _)] at hsn
    unfold ER
    rw [hR]
    exact ⟨o, es, rfl, hsn, e1.trans he, hO.wide e1.next⟩
end Go.Proofs.Ytjhldpghbnjjmaa
