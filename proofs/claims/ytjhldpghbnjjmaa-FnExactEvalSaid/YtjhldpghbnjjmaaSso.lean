/- Slices of slices of floats of a call's own: copies and marks. Conditions: all together at most 2^20 elements. -/
import Derived.Test.YtjhldpghbnjjmaaSs
set_option linter.unusedVariables false
set_option linter.unusedSimpArgs false
namespace Go.Proofs.Ytjhldpghbnjjmaa
open Go.Am

/-- Two slices do not lie in one block. -/
abbrev Apart (e f : Option Addr) : Prop := ∀ b o o', e = some ⟨b, o, none⟩ → f ≠ some ⟨b, o', none⟩
structure OwnSS (K : Heap) (lo : Nat) (a : Option Addr) (es : List SlE) : Prop where
  out : Buf dSl K lo a es
  inn : ∀ e ∈ es, Buf dFlt K lo e.1 e.2
  ne : ∀ e ∈ es, Apart a e.1
  pw : es.Pairwise fun e f => Apart e.1 f.1
theorem Apart.symm {e f : Option Addr} (h : Apart e f) : Apart f e := fun b o o' hf he => h b o' o he hf
theorem OwnSS.rd {K : Heap} {lo : Nat} {a : Option Addr} {es : List SlE} (h : OwnSS K lo a es) : RdSS K a es := ⟨h.out.rd, fun e he => (h.inn e he).rd⟩
theorem OwnSS.mono {K K' : Heap} {lo : Nat} {a : Option Addr} {es : List SlE} (h : OwnSS K lo a es) (e : Ext K K') : OwnSS K' lo a es := ⟨h.out.mono e, fun x hx => (h.inn x hx).mono e, h.ne, h.pw⟩
theorem OwnSS.out_ {K K' : Heap} {lo lo' hi' : Nat} {a : Option Addr} {es : List SlE} (h : OwnSS K lo a es) (e : Out lo' hi' K K') (hd : hi' ≤ lo) : OwnSS K' lo a es :=
  ⟨h.out.out e (fun b o hp => by have := h.out.lt hp; omega), fun x hx => (h.inn x hx).out e (fun b o hp => by have := (h.inn x hx).lt hp; omega), h.ne, h.pw⟩
theorem apart_but {a b : Option Addr} (h : Apart a b) : ∀ x o, a = some ⟨x, o, none⟩ → b ≠ some ⟨x, 0, none⟩ := fun x o ha => h x o 0 ha
/-- One of the slices is written over. -/
theorem OwnSS.upd {K K' : Heap} {lo : Nat} {a : Option Addr} {l r : List SlE} {e : SlE} {ys : List Nat} (h : OwnSS K lo a (l ++ e :: r)) (hb : Buf dFlt K' lo e.1 ys) (hl : ys.length = e.2.length) (ht : But e.1 K K') : OwnSS K' lo a (l ++ (e.1, ys) :: r) := by
  have hcell : flat dSl (l ++ (e.1, ys) :: r) = flat dSl (l ++ e :: r) := by
    rw [flat_append, flat_append]
    show _ ++ ([Value.slice e.1 ys.length ys.length] ++ flat dSl r) = _ ++ ([Value.slice e.1 e.2.length e.2.length] ++ flat dSl r)
    rw [hl]
  have hpw := List.pairwise_append.1 h.pw
  obtain ⟨p1, p2, p3⟩ := hpw
  rw [List.pairwise_cons] at p2
  refine ⟨?_, fun f hf => ?_, fun f hf => ?_, ?_⟩
  · have ho := h.out.but ht (fun b o he hq => h.ne e (by simp) b 0 o hq he)
    generalize hes : l ++ e :: r = es at ho hcell
    cases ho with
    | nil => simp at hes
    | blk h1 h2 => exact .blk h1 (by rw [hcell]; exact h2)
  · rcases List.mem_append.1 hf with hf | hf
    · exact (h.inn f (by simp [hf])).but ht (apart_but (p3 f hf e (by simp)).symm)
    · rcases List.mem_cons.1 hf with rfl | hf
      · exact hb
      · exact (h.inn f (by simp [hf])).but ht (apart_but (p2.1 f hf))
  · rcases List.mem_append.1 hf with hf | hf
    · exact h.ne f (by simp [hf])
    · rcases List.mem_cons.1 hf with rfl | hf
      · exact h.ne e (by simp)
      · exact h.ne f (by simp [hf])
  · refine List.pairwise_append.2 ⟨p1, List.pairwise_cons.2 ⟨fun f hf => p2.1 f hf, p2.2⟩, fun x hx f hf => ?_⟩
    rcases List.mem_cons.1 hf with rfl | hf
    · exact p3 x hx e (by simp)
    · exact p3 x hx f (by simp [hf])
/-- A new slice is stored over an empty place. -/
def mkSS : Int → List SlE → List SlE
  | _, [] => []
  | k, e :: r => (e.1, markL k e.2.length) :: mkSS (k + e.2.length) r
@[simp] theorem mkSS_len : ∀ k es, (mkSS k es).length = es.length
  | _, [] => rfl
  | k, e :: r => by simp [mkSS, mkSS_len _ r]
theorem mkSS_snoc : ∀ (k : Int) (l : List SlE) (e : SlE), mkSS k (l ++ [e]) = mkSS k l ++ [(e.1, markL (k + tot l) e.2.length)]
  | k, [], e => by simp [mkSS, tot]
  | k, f :: l, e => by
    simp only [List.cons_append, mkSS, mkSS_snoc _ l e, tot]
    rw [show k + (f.2.length : Int) + (tot l : Int) = k + ((f.2.length + tot l : Nat) : Int) by omega]
theorem mkSS_get : ∀ (es : List SlE) (k : Int) (i : Nat) (e : SlE), es[i]? = some e → (mkSS k es)[i]? = some (e.1, markL (k + tot (es.take i)) e.2.length)
  | [], _, _, _, h => by simp at h
  | f :: r, k, 0, e, h => by simp at h; subst h; simp [mkSS, tot]
  | f :: r, k, i + 1, e, h => by
    simp at h
    have := mkSS_get r (k + f.2.length) i e h
    simp only [mkSS, List.getElem?_cons_succ, this, List.take_succ_cons, tot]
    rw [show k + (f.2.length : Int) + (tot (r.take i) : Int) = k + ((f.2.length + tot (r.take i) : Nat) : Int) by omega]
theorem tot_succ {es : List SlE} {k : Nat} (h : k < es.length) : tot (es.take (k + 1)) = tot (es.take k) + es[k].2.length := by
  rw [List.take_succ_eq_append_getElem h, tot_append]; simp [tot]
theorem markFloat64SS_ec (H : Heap) (lo hi : Nat) (a : Option Addr) (es : List SlE) (k : Int) (h : OwnSS H lo a es) (hhi : ∀ e ∈ es, ∀ b o, e.1 = some ⟨b, o, none⟩ → b < hi) (hl : es.length ≤ 1048576) (ht : tot es ≤ 1048576) (hk0 : 0 ≤ k) (hk : k ≤ 100000000) :
    EC Try.prog 34 [sv a es, .int .i64 k] H fun r H' => r = .ret (.int .i64 (k + tot es)) ∧ OwnSS H' lo a (mkSS k es) ∧ Out lo hi H H' := by
  refine EC_fn ctx (fun _ => true) Try.func34 rfl rfl rfl ?_
  refine loop_ind ctx (fun _ => true) (fun m E K => ∃ i : Nat, i ≤ es.length ∧ m = es.length - i ∧ E = ⟨[(0, sv a es), (1, .int .i64 (k + tot (es.take i))), (5, .int .i64 i)], []⟩ ∧ OwnSS K lo a (mkSS k (es.take i) ++ es.drop i) ∧ Out lo hi H K)
    (E0 := ⟨[(0, sv a es), (1, .int .i64 k), (5, .int .i64 ((0 : Nat) : Int))], []⟩) ⟨0, Nat.zero_le _, rfl, by simp [tot], by simpa [mkSS] using h, Out.of_ext (Ext.refl _)⟩ (by (refine ⟨?_, ?_⟩ <;> repeat' first | exact trivial | exact congrArg (fun x => some (Value.int .i64 x)) (wrap_nat (by omega)) | exact sv_eq (by simp; done) | exact rfl | refine ⟨?_, ?_⟩ | fail)) ?_
  rintro m E K ⟨i, hi', rfl, rfl, ho, hout⟩
  have htk := tot_take es i
  refine ⟨fun hlt => ?_, fun hge => ?_⟩
  · have hlt : i < es.length := by simpa using hlt
    have hdr := List.drop_eq_getElem_cons hlt
    rw [hdr] at ho
    have hls : (mkSS k (es.take i) ++ es[i] :: es.drop (i + 1)).length = es.length := by simp; omega
    have hgi : (mkSS k (es.take i) ++ es[i] :: es.drop (i + 1))[i]? = some es[i] := by rw [List.getElem?_append_right (by simp; omega)]; simp [hi']
    obtain ⟨b, o, rfl, hc⟩ := ho.out.rd.cell hgi
    have hin := ho.inn es[i] (List.mem_append_right _ (List.mem_cons_self ..))
    have hml := tot_mem (List.getElem_mem hlt)
    refine ⟨⟨by omega, by omega⟩, _, hc, _, mark_ec K _ lo es[i].2 _ hin (by omega) (by omega) (by omega), ?_, fun v K hR => by cases hR.1⟩
    rintro _ K2 ⟨hx, hb, hbut⟩
    cases hx
    have ho2 := ho.upd hb (by simp) hbut
    refine ⟨es.length - (i + 1), ⟨[(0, sv (some ⟨b, o, none⟩) es), (1, .int .i64 (k + tot (es.take i) + es[i].2.length)), (5, .int .i64 ((i + 1 : Nat) : Int))], []⟩, by omega, by (refine ⟨?_, ?_⟩ <;> repeat' first | exact trivial | exact congrArg (fun x => some (Value.int .i64 x)) (wrap_nat (by omega)) | exact sv_eq (by simp; done) | exact rfl | refine ⟨?_, ?_⟩ | fail), i + 1, by omega, rfl, ?_, ?_, hout.trans (hbut.out fun x y he => ⟨(hin.lt he).1, hhi _ (List.getElem_mem hlt) x y he⟩)⟩
    · rw [tot_succ hlt, show k + (tot (es.take i) : Int) + (es[i].2.length : Int) = k + ((tot (es.take i) + es[i].2.length : Nat) : Int) by omega]
    · rw [List.take_succ_eq_append_getElem hlt, mkSS_snoc, List.append_assoc]
      exact ho2
  · have hi2 : i = es.length := by simp at hge; omega
    subst hi2
    rw [List.take_of_length_le (Nat.le_refl _), List.drop_of_length_le (Nat.le_refl _), List.append_nil] at ho
    rw [List.take_of_length_le (Nat.le_refl _)]
    exact ⟨rfl, ho, hout⟩
theorem heldFloat64SS_pc (H : Heap) (a : Option Addr) (es : List SlE) (k : Int) (h : RdSS H a (mkSS k es)) (hl : es.length ≤ 1048576) (ht : tot es ≤ 1048576) (hk0 : 0 ≤ k) (hk : k ≤ 100000000) :
    PC Try.prog 35 [sv a es, .int .i64 k] H (.int .i64 (k + tot es)) := by
  refine EC_fn ctx (fun _ => true) Try.func35 rfl rfl rfl ?_
  refine loop_ind ctx (fun _ => true) (fun m E K => ∃ i : Nat, i ≤ es.length ∧ m = es.length - i ∧ E = ⟨[(0, sv a es), (1, .int .i64 (k + tot (es.take i))), (5, .int .i64 i)], []⟩ ∧ K = H)
    (E0 := ⟨[(0, sv a es), (1, .int .i64 k), (5, .int .i64 ((0 : Nat) : Int))], []⟩) ⟨0, Nat.zero_le _, rfl, by simp [tot], rfl⟩ (by (refine ⟨?_, ?_⟩ <;> repeat' first | exact trivial | exact congrArg (fun x => some (Value.int .i64 x)) (wrap_nat (by omega)) | exact sv_eq (by simp; done) | exact rfl | refine ⟨?_, ?_⟩ | fail)) ?_
  rintro m E K ⟨i, hi', rfl, rfl, rfl⟩
  have htk := tot_take es i
  refine ⟨fun hlt => ?_, fun hge => ?_⟩
  · have hlt : i < es.length := by simpa using hlt
    have hg := mkSS_get es k i _ (List.getElem?_eq_getElem hlt)
    obtain ⟨b, o, rfl, hc⟩ := h.out.cell hg
    have hin := h.inn _ (List.mem_of_getElem? hg)
    have hml := tot_mem (List.getElem_mem hlt)
    have hheld := held_pc K _ (k + tot (es.take i)) es[i].2.length hin (by omega) (by omega) (by omega)
    refine ⟨⟨by omega, by omega⟩, _, hc, _, hheld, ?_, fun v K hR => by cases hR.1⟩
    rintro _ K ⟨hx, rfl⟩
    cases hx
    refine ⟨fun hn => ?_, fun _ => ?_⟩
    · simp at hn; omega
    refine ⟨es.length - (i + 1), ⟨[(0, sv (some ⟨b, o, none⟩) es), (1, .int .i64 (k + tot (es.take i) + es[i].2.length)), (5, .int .i64 ((i + 1 : Nat) : Int))], []⟩, by omega, by (refine ⟨?_, ?_⟩ <;> repeat' first | exact trivial | exact congrArg (fun x => some (Value.int .i64 x)) (wrap_nat (by omega)) | exact sv_eq (by simp; done) | exact rfl | refine ⟨?_, ?_⟩ | fail), i + 1, by omega, rfl, ?_, rfl⟩
    rw [tot_succ hlt, show k + (tot (es.take i) : Int) + (es[i].2.length : Int) = k + ((tot (es.take i) + es[i].2.length : Nat) : Int) by omega]
  · have hi2 : i = es.length := by simp at hge; omega
    subst hi2
    rw [List.take_of_length_le (Nat.le_refl _)]
    exact pint rfl
end Go.Proofs.Ytjhldpghbnjjmaa
