/- Slices of slices of floats: the laws' copies. Conditions: all together at most 2^20 elements. -/
import Derived.Test.YtjhldpghbnjjmaaSso
set_option linter.unusedVariables false
set_option linter.unusedSimpArgs false
namespace Go.Proofs.Ytjhldpghbnjjmaa
open Go.Am

theorem snoc_set {α : Type} (fs : List α) (z e : α) {k n : Nat} (hf : fs.length = k) (hk : k < n) : (fs ++ List.replicate (n - k) z).set k e = (fs ++ [e]) ++ List.replicate (n - (k + 1)) z := by
  subst hf
  obtain ⟨d, hd⟩ : ∃ d, n - fs.length = d + 1 := ⟨n - fs.length - 1, by omega⟩
  rw [hd, List.replicate_succ, List.set_append, if_neg (by omega), Nat.sub_self, List.set_cons_zero, show n - (fs.length + 1) = d by omega, List.append_assoc]
  rfl
/-- Slices that lie in blocks of their own, above a place. -/
structure Inn (K : Heap) (lo : Nat) (fs : List SlE) : Prop where
  blk : ∀ f ∈ fs, ∃ b, f.1 = some ⟨b, 0, none⟩ ∧ lo < b ∧ K.blk b = some (.cells (flat dFlt f.2) 1 true)
  pw : fs.Pairwise fun e f => Apart e.1 f.1
theorem Inn.snoc {K K' : Heap} {lo b : Nat} {fs : List SlE} {xs : List Nat} (h : Inn K lo fs) (hs : ∀ x, x < K.next → x ≠ lo → K'.blk x = K.blk x) (hb : K.next ≤ b) (hlo : lo < K.next) (hx : K'.blk b = some (.cells (flat dFlt xs) 1 true)) : Inn K' lo (fs ++ [(some ⟨b, 0, none⟩, xs)]) where
  blk := fun f hf => by
    rcases List.mem_append.1 hf with hf | hf
    · obtain ⟨c, h1, h2, h3⟩ := h.blk f hf
      exact ⟨c, h1, h2, by rw [hs c (K.lt _ _ h3) (by omega)]; exact h3⟩
    · simp at hf; subst hf
      exact ⟨b, rfl, by omega, hx⟩
  pw := List.pairwise_append.2 ⟨h.pw, by simp, fun f hf e he => by
    simp at he; subst he
    obtain ⟨c, h1, h2, h3⟩ := h.blk f hf
    have := K.lt _ _ h3
    intro x o o' e1 e2
    rw [h1] at e1; cases e1; cases e2
    omega⟩
theorem Inn.own {K : Heap} {lo : Nat} {fs : List SlE} (h : Inn K lo fs) (hb : K.blk lo = some (.cells (flat dSl fs) 1 true)) : OwnSS K lo (some ⟨lo, 0, none⟩) fs where
  out := .blk (Nat.le_refl _) hb
  inn := fun f hf => by
    obtain ⟨c, h1, h2, h3⟩ := h.blk f hf
    obtain ⟨f1, f2⟩ := f
    simp only at h1 h3
    subst h1
    exact .blk (by omega) h3
  ne := fun f hf => by
    obtain ⟨c, h1, h2, h3⟩ := h.blk f hf
    intro x o o' e1 e2
    rw [h1] at e2; cases e1; cases e2
    omega
  pw := h.pw
theorem toFloat64SS_ec (H : Heap) (a : Option Addr) (es : List SlE) (h : RdSS H a es) (hl : es.length ≤ 1048576) (ht : tot es ≤ 1048576) :
    EC Try.prog 31 [sv a es] H fun r K => ∃ fs, r = .ret (sv (some ⟨H.next, 0, none⟩) fs) ∧ snds fs = snds es ∧ OwnSS K H.next (some ⟨H.next, 0, none⟩) fs ∧ Ext H K := by
  refine EC_fn ctx (fun _ => true) Try.func31 rfl rfl rfl ?_
  refine ⟨⟨by omega, by omega, by omega, by dsimp only; omega⟩, ?_⟩
  refine loop_ind ctx (fun _ => true) (fun m E K => ∃ (k : Nat) (fs : List SlE), k ≤ es.length ∧ m = es.length - k ∧ E = ⟨[(0, sv a es), (3, .slice (some ⟨H.next, 0, none⟩) es.length es.length), (4, .int .i64 k)], []⟩ ∧ fs.length = k ∧ snds fs = snds (es.take k) ∧ K.blk H.next = some (.cells (flat dSl (fs ++ List.replicate (es.length - k) (none, []))) 1 true) ∧ Inn K H.next fs ∧ Ext H K)
    ⟨0, [], Nat.zero_le _, rfl, rfl, rfl, by simp, ?_, ⟨by simp, .nil⟩, Ext.push _ _⟩ (by (refine ⟨?_, ?_⟩ <;> repeat' first | exact trivial | exact congrArg (fun x => some (Value.int .i64 x)) (wrap_nat (by omega)) | exact sv_eq (by simp; done) | exact rfl | refine ⟨?_, ?_⟩ | fail)) ?_
  · rw [push_blk]
    show some (Blk.cells (repL es.length [.slice none 0 0]) 1 true) = _
    rw [flat_rep dSl (none, []) [.slice none 0 0] rfl]
    rfl
  rintro m E K ⟨k, fs, hk, rfl, rfl, hf, hsn, hblk, hinn, hext⟩
  have hlo : H.next < K.next := K.lt _ _ hblk
  refine ⟨fun hlt => ?_, fun hge => ?_⟩
  · have hlt : k < es.length := by simpa using hlt
    obtain ⟨b, o, rfl, hc⟩ := (h.out.mono hext).cell (List.getElem?_eq_getElem hlt)
    have hin := (h.inn _ (List.getElem_mem hlt)).mono hext
    have hml := tot_mem (List.getElem_mem hlt)
    refine ⟨⟨by omega, by omega⟩, _, hc, _, toFloat64S_ec K _ _ hin (by omega), ?_, fun v K hR => by cases hR.1⟩
    rintro _ K2 ⟨hx, rfl⟩
    cases hx
    have hb2 : (pushL dFlt K es[k].2).blk H.next = some (.cells (flat dSl (fs ++ List.replicate (es.length - k) (none, []))) 1 true) := (push_blk_ne _ _ (by omega)).trans hblk
    have hlen : (fs ++ List.replicate (es.length - k) ((none, []) : SlE)).length = es.length := by simp; omega
    refine ⟨⟨by omega, by omega⟩, ⟨_, _, hb2, by rw [flat_len, hlen]; show 0 + k * 1 + 1 ≤ es.length * 1; omega⟩, ?_⟩
    have hst : (pushL dFlt K es[k].2).stor H.next (0 + k * 1) [.slice (some ⟨K.next, 0, none⟩) es[k].2.length es[k].2.length] = (pushL dFlt K es[k].2).put H.next (.cells (flat dSl ((fs ++ [((some ⟨K.next, 0, none⟩, es[k].2) : SlE)]) ++ List.replicate (es.length - (k + 1)) (none, []))) 1 true) := by
      rw [Heap.stor_put hb2, Nat.zero_add, ← snoc_set fs (none, []) ((some ⟨K.next, 0, none⟩, es[k].2) : SlE) hf hlt, ← flat_over dSl _ k _ (by rw [hlen]; exact hlt)]
      rfl
    have hnx : H.next < (pushL dFlt K es[k].2).next := Nat.lt_succ_of_lt hlo
    refine ⟨es.length - (k + 1), ⟨[(0, sv (some ⟨b, o, none⟩) es), (3, .slice (some ⟨H.next, 0, none⟩) es.length es.length), (4, .int .i64 ((k + 1 : Nat) : Int))], []⟩, by omega, by (refine ⟨?_, ?_⟩ <;> repeat' first | exact trivial | exact congrArg (fun x => some (Value.int .i64 x)) (wrap_nat (by omega)) | exact sv_eq (by simp; done) | exact rfl | refine ⟨?_, ?_⟩ | fail), k + 1, fs ++ [(some ⟨K.next, 0, none⟩, es[k].2)], by omega, rfl, rfl, by simp [hf], ?_, ?_, ?_, ?_⟩
    · rw [List.take_succ_eq_append_getElem hlt]
      simp only [snds, List.map_append, List.map_cons, List.map_nil] at hsn ⊢
      rw [hsn]
    · show ((pushL dFlt K es[k].2).stor H.next (0 + k * 1) [.slice (some ⟨K.next, 0, none⟩) es[k].2.length es[k].2.length]).blk H.next = _
      rw [hst, put_blk _ _ _ _ hnx, if_pos rfl]
    · show Inn ((pushL dFlt K es[k].2).stor H.next (0 + k * 1) [.slice (some ⟨K.next, 0, none⟩) es[k].2.length es[k].2.length]) _ _
      rw [hst]
      refine hinn.snoc (fun x hx hne => ?_) (Nat.le_refl _) hlo ?_
      · rw [put_blk _ _ _ _ hnx, if_neg hne]; exact push_blk_ne _ _ (by omega)
      · rw [put_blk _ _ _ _ hnx, if_neg (by omega)]; exact push_blk _ _
    · exact (hext.push' _).stor (Nat.le_refl _)
  · have hk2 : k = es.length := by simp at hge; omega
    subst hk2
    rw [List.take_of_length_le (Nat.le_refl _)] at hsn
    rw [Nat.sub_self, List.replicate_zero, List.append_nil] at hblk
    exact ⟨fs, ret_sv hf, hsn, hinn.own hblk, hext⟩
end Go.Proofs.Ytjhldpghbnjjmaa
