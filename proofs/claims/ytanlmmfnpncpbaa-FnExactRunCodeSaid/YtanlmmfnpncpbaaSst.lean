/- Slices of slices of floats: the laws' helpers over them. Conditions: all together at most 2^20 elements. Slices of slices of floats of a call's own: copies and marks. Conditions: all together at most 2^20 elements. Slices of slices of floats: the laws' copies. Conditions: all together at most 2^20 elements. -/
import Derived.Test.YtanlmmfnpncpbaaAmOpenS
import Derived.Test.YtanlmmfnpncpbaaHel
set_option linter.unusedVariables false
set_option linter.unusedSimpArgs false
namespace Go.Proofs.Ytanlmmfnpncpbaa
open Go.Am

abbrev snds (es : List SlE) : List (List Nat) := es.map (·.2)
def tot : List SlE → Nat
  | [] => 0
  | e :: r => e.2.length + tot r
theorem tot_append : ∀ l r, tot (l ++ r) = tot l + tot r
  | [], r => by simp [tot]
  | e :: l, r => by simp [tot, tot_append l r]; omega
theorem tot_snds : ∀ {l r : List SlE}, snds l = snds r → tot l = tot r
  | [], [], _ => rfl
  | [], _ :: _, h => by simp at h
  | _ :: _, [], h => by simp at h
  | e :: l, f :: r, h => by
    simp only [snds, List.map_cons, List.cons.injEq] at h
    simp only [tot, h.1, tot_snds (l := l) (r := r) h.2]
theorem tot_take (es : List SlE) (k : Nat) : tot (es.take k) ≤ tot es := by
  have := tot_append (es.take k) (es.drop k)
  rw [List.take_append_drop] at this
  omega
theorem tot_mem {es : List SlE} {e : SlE} (h : e ∈ es) : e.2.length ≤ tot es := by
  obtain ⟨i, hi, rfl⟩ := List.getElem_of_mem h
  have := tot_take es (i + 1)
  rw [List.take_succ_eq_append_getElem hi, tot_append] at this
  simp only [tot] at this
  omega
def szGo : List SlE → Int → Int
  | [], l => l
  | e :: r, l => if l - e.2.length < 0 then -1 else szGo r (l - e.2.length)
def szSS (es : List SlE) (left : Int) : Int := if left - es.length < 0 then -1 else szGo es (left - es.length)
theorem szGo_tot : ∀ (es : List SlE) (l : Int), 0 ≤ l → ¬ szGo es l < 0 → (tot es : Int) ≤ l
  | [], l, h0, h => by simpa [tot] using h0
  | e :: r, l, h0, h => by
    simp only [szGo] at h
    split at h
    · omega
    · have := szGo_tot r _ (by omega) h
      simp only [tot]
      omega
theorem szSS_bound {es : List SlE} {left : Int} (h : ¬ szSS es left < 0) : (es.length : Int) ≤ left ∧ (tot es : Int) ≤ left := by
  unfold szSS at h
  split at h
  · omega
  · have := szGo_tot es _ (by omega) h
    omega
theorem szFloat64S_pc (a : Option Addr) (xs : List Nat) (left : Int) (H : Heap) (h0 : 0 ≤ left) (h1 : left ≤ 9223372036854775807) (hl : xs.length ≤ 9223372036854775807) :
    PC Try.prog 18 [.slice a xs.length xs.length, .int .i64 left] H (.int .i64 (if left - xs.length < 0 then -1 else left - xs.length)) := by
  have hw : IntKind.i64.wrap (left - xs.length) = left - xs.length := wrap_i64 (by omega) (by omega)
  refine EC_fn ctx (fun _ => true) Try.func18 rfl rfl rfl ?_
  refine ⟨fun h => pint ?_, fun h => pint ?_⟩
  · rw [hw] at h; rw [if_pos (by simpa using h)]
  · rw [hw] at h ⊢; rw [if_neg (by simpa using h)]
theorem szFloat64SS_pc (a : Option Addr) (es : List SlE) (left : Int) (H : Heap) (hr : RdSS H a es) (h0 : 0 ≤ left) (h1 : left ≤ 1048576) (hl : es.length ≤ 9223372036854775807) (hi : ∀ e ∈ es, e.2.length ≤ 9223372036854775807) :
    PC Try.prog 5 [sv a es, .int .i64 left] H (.int .i64 (szSS es left)) := by
  have hw : IntKind.i64.wrap (left - es.length) = left - es.length := wrap_i64 (by omega) (by omega)
  refine EC_fn ctx (fun _ => true) Try.func5 rfl rfl rfl ?_
  refine ⟨fun h => pint ?_, fun h => ?_⟩
  · rw [hw] at h; unfold szSS; rw [if_pos (by simpa using h)]
  rw [hw] at h
  have hlt : ¬ left - (es.length : Int) < 0 := by simpa using h
  have hsz : szSS es left = szGo es (left - es.length) := by unfold szSS; rw [if_neg hlt]
  refine loop_ind ctx (fun _ => true) (fun m E K => ∃ (k : Nat) (cur : Int), k ≤ es.length ∧ m = es.length - k ∧ E = ⟨[(0, sv a es), (1, .int .i64 cur), (5, .int .i64 k)], []⟩ ∧ K = H ∧ 0 ≤ cur ∧ cur ≤ 1048576 ∧ szGo es (left - es.length) = szGo (es.drop k) cur)
    (E0 := ⟨[(0, sv a es), (1, .int .i64 (left - es.length)), (5, .int .i64 ((0 : Nat) : Int))], []⟩) ⟨0, left - es.length, Nat.zero_le _, rfl, rfl, rfl, by omega, by omega, by simp⟩ ⟨⟨rfl, trivial, congrArg (fun x => some (Value.int .i64 x)) hw, trivial, rfl, trivial, trivial⟩, trivial⟩ ?_
  rintro m E K ⟨k, cur, hk, rfl, rfl, rfl, hc0, hc1, hgo⟩
  refine ⟨fun hlt => ?_, fun hge => ?_⟩
  · have hlt : k < es.length := by simpa using hlt
    obtain ⟨b, o, rfl, hc⟩ := hr.out.cell (List.getElem?_eq_getElem hlt)
    rw [List.drop_eq_getElem_cons hlt, szGo] at hgo
    refine ⟨⟨by omega, by omega⟩, _, hc, _, szFloat64S_pc _ _ cur K hc0 (by omega) (hi _ (List.getElem_mem hlt)), ?_, fun v K hR => by cases hR.1⟩
    rintro _ K ⟨hx, rfl⟩
    cases hx
    refine ⟨fun hn => pint ?_, fun hn => ?_⟩
    · rw [hsz, hgo]
      split at hn
      · rename_i hneg; rw [if_pos hneg]
      · rename_i hneg; simp at hn; omega
    · have hneg : ¬ cur - (es[k].2.length : Int) < 0 := by
        intro hneg; rw [if_pos hneg] at hn; simp at hn
      rw [if_neg hneg] at hgo
      refine ⟨es.length - (k + 1), ⟨[(0, sv (some ⟨b, o, none⟩) es), (1, .int .i64 (cur - es[k].2.length)), (5, .int .i64 ((k + 1 : Nat) : Int))], []⟩, by omega, ⟨⟨rfl, trivial, by rw [if_neg hneg]; rfl, trivial, congrArg (fun x => some (Value.int .i64 x)) (wrap_nat (by omega)), trivial, trivial⟩, trivial⟩, k + 1, _, by omega, rfl, rfl, rfl, by omega, by omega, hgo⟩
  · have hk : k = es.length := by simp at hge; omega
    subst hk
    rw [List.drop_of_length_le (Nat.le_refl _), szGo] at hgo
    exact pint (by rw [hsz, hgo])
theorem eqFloat64SS_pc (H : Heap) (a b : Option Addr) (es fs : List SlE) (h : RdSS H a es) (h' : RdSS H b fs) (hl : es.length < 1048577) (ht : tot es ≤ 100000000) :
    PC Try.prog 10 [sv a es, sv b fs] H (.bool (decide (snds es = snds fs))) := by
  refine EC_fn ctx (fun _ => true) Try.func10 rfl rfl rfl ?_
  have hsl : snds es = snds fs → es.length = fs.length := fun e => by simpa using congrArg List.length e
  refine ⟨fun hne => pbool ?_, fun heq => ?_⟩
  · have : snds es ≠ snds fs := fun e => by have := hsl e; simp [this] at hne
    simp [this]
  · have hlen : es.length = fs.length := by simp at heq; omega
    refine loop_ind ctx (fun _ => true) (fun m E K => ∃ k, k ≤ es.length ∧ m = es.length - k ∧ E = ⟨[(0, sv a es), (1, sv b fs), (5, .int .i64 k)], []⟩ ∧ K = H ∧ snds (es.take k) = snds (fs.take k))
      ⟨0, Nat.zero_le _, rfl, rfl, rfl, by simp⟩ (by (refine ⟨?_, ?_⟩ <;> repeat' first | exact trivial | exact congrArg (fun x => some (Value.int .i64 x)) (wrap_nat (by omega)) | exact sv_eq (by simp; done) | exact rfl | refine ⟨?_, ?_⟩ | fail)) ?_
    rintro m E K ⟨k, hk, rfl, rfl, rfl, ht'⟩
    refine ⟨fun hlt => ?_, fun hge => ?_⟩
    · have hlt : k < es.length := by simpa using hlt
      have hlt' : k < fs.length := by omega
      obtain ⟨p, o, rfl, hc⟩ := h.out.cell (List.getElem?_eq_getElem hlt)
      obtain ⟨p', o', rfl, hc'⟩ := h'.out.cell (List.getElem?_eq_getElem hlt')
      have hin := h.inn _ (List.getElem_mem hlt)
      have hin' := h'.inn _ (List.getElem_mem hlt')
      have hml := tot_mem (List.getElem_mem hlt)
      refine ⟨.leaf [([0, 1, 2, 3, 4, 5, 6, 7, 8, 9], none)] [], by kernel_rfl, ⟨by omega, by omega⟩, _, hc, ⟨by omega, by omega⟩, _, hc', _, eqFloat64S_pc K _ _ _ _ hin hin' (by omega), fun hne => pbool ?_, fun heq => ?_⟩
      · have : snds es ≠ snds fs := fun e => by
          have := congrArg (fun l : List (List Nat) => l[k]?) e
          simp [hlt, hlt'] at this
          simp [this] at hne
        simp [this]
      · refine ⟨es.length - (k + 1), ⟨[(0, sv (some ⟨p, o, none⟩) es), (1, sv (some ⟨p', o', none⟩) fs), (5, .int .i64 ((k + 1 : Nat) : Int))], []⟩, by omega, by (refine ⟨?_, ?_⟩ <;> repeat' first | exact trivial | exact congrArg (fun x => some (Value.int .i64 x)) (wrap_nat (by omega)) | exact sv_eq (by simp; done) | exact rfl | refine ⟨?_, ?_⟩ | fail), k + 1, by omega, rfl, rfl, rfl, ?_⟩
        rw [List.take_succ_eq_append_getElem hlt, List.take_succ_eq_append_getElem hlt']
        simp only [snds, List.map_append, List.map_cons, List.map_nil] at ht' ⊢
        rw [ht']
        simp at heq
        rw [heq]
    · refine pbool ?_
      have hk : k = es.length := by simp at hge; omega
      subst hk
      rw [List.take_of_length_le (Nat.le_refl _), List.take_of_length_le (by omega)] at ht'
      simp [ht']
end Go.Proofs.Ytanlmmfnpncpbaa

set_option linter.unusedVariables false
namespace Go.Proofs.Ytanlmmfnpncpbaa
open Go.Am

/-- Two slices do not lie in one block. -/
abbrev Apart (e f : Option Addr) : Prop := ∀ b o o', e = some ⟨b, o, none⟩ → f ≠ some ⟨b, o', none⟩
structure OwnSS (K : Heap) (lo : Nat) (a : Option Addr) (es : List SlE) : Prop where
  out : Buf dSl K lo a es
  inn : ∀ e ∈ es, Buf dFlt K lo e.1 e.2
  ne : ∀ e ∈ es, Apart a e.1
  pw : es.Pairwise fun e f => Apart e.1 f.1
theorem Apart.symm {e f : Option Addr} (h : Apart e f) : Apart f e := fun b o o' hf he => h b o' o he hf
theorem OwnSS.rd {K : Heap} {lo : Nat} {a : Option Addr} {es : List SlE} (h : OwnSS K lo a es) : RdSS K a es := ⟨h.out.rd, fun e he => (h.inn e he).rd⟩
theorem OwnSS.mono {K K' : Heap} {lo : Nat} {a : Option Addr} {es : List SlE} (h : OwnSS K lo a es) (e : Ext K K') : OwnSS K' lo a es := ⟨h.out.mono e, fun x hx => (h.inn x hx).mono e, h.ne, h.pw⟩
theorem OwnSS.out_ {K K' : Heap} {lo lo' hi' : Nat} {a : Option Addr} {es : List SlE} (h : OwnSS K lo a es) (e : Out lo' hi' K K') (hd : hi' ≤ lo) : OwnSS K' lo a es :=
  ⟨h.out.out e (fun b o hp => by have := h.out.lt hp; omega), fun x hx => (h.inn x hx).out e (fun b o hp => by have := (h.inn x hx).lt hp; omega), h.ne, h.pw⟩
theorem apart_but {a b : Option Addr} (h : Apart a b) : ∀ x o, a = some ⟨x, o, none⟩ → b ≠ some ⟨x, 0, none⟩ := fun x o ha => h x o 0 ha
/-- One of the slices is written over. -/
theorem OwnSS.upd {K K' : Heap} {lo : Nat} {a : Option Addr} {l r : List SlE} {e : SlE} {ys : List Nat} (h : OwnSS K lo a (l ++ e :: r)) (hb : Buf dFlt K' lo e.1 ys) (hl : ys.length = e.2.length) (ht : But e.1 K K') : OwnSS K' lo a (l ++ (e.1, ys) :: r) := by
  have hcell : flat dSl (l ++ (e.1, ys) :: r) = flat dSl (l ++ e :: r) := by
    rw [flat_append, flat_append]
    show _ ++ ([Value.slice e.1 ys.length ys.length] ++ flat dSl r) = _ ++ ([Value.slice e.1 e.2.length e.2.length] ++ flat dSl r)
    rw [hl]
  have hpw := List.pairwise_append.1 h.pw
  obtain ⟨p1, p2, p3⟩ := hpw
  rw [List.pairwise_cons] at p2
  refine ⟨?_, fun f hf => ?_, fun f hf => ?_, ?_⟩
  · have ho := h.out.but ht (fun b o he hq => h.ne e (by simp) b 0 o hq he)
    generalize hes : l ++ e :: r = es at ho hcell
    cases ho with
    | nil => simp at hes
    | blk h1 h2 => exact .blk h1 (by rw [hcell]; exact h2)
  · rcases List.mem_append.1 hf with hf | hf
    · exact (h.inn f (by simp [hf])).but ht (apart_but (p3 f hf e (by simp)).symm)
    · rcases List.mem_cons.1 hf with rfl | hf
      · exact hb
      · exact (h.inn f (by simp [hf])).but ht (apart_but (p2.1 f hf))
  · rcases List.mem_append.1 hf with hf | hf
    · exact h.ne f (by simp [hf])
    · rcases List.mem_cons.1 hf with rfl | hf
      · exact h.ne e (by simp)
      · exact h.ne f (by simp [hf])
  · refine List.pairwise_append.2 ⟨p1, List.pairwise_cons.2 ⟨fun f hf => p2.1 f hf, p2.2⟩, fun x hx f hf => ?_⟩
    rcases List.mem_cons.1 hf with rfl | hf
    · exact p3 x hx e (by simp)
    · exact p3 x hx f (by simp [hf])
/-- A new slice is stored over an empty place. -/
def mkSS : Int → List SlE → List SlE
  | _, [] => []
  | k, e :: r => (e.1, markL k e.2.length) :: mkSS (k + e.2.length) r
@[simp] theorem mkSS_len : ∀ k es, (mkSS k es).length = es.length
  | _, [] => rfl
  | k, e :: r => by simp [mkSS, mkSS_len _ r]
theorem mkSS_snoc : ∀ (k : Int) (l : List SlE) (e : SlE), mkSS k (l ++ [e]) = mkSS k l ++ [(e.1, markL (k + tot l) e.2.length)]
  | k, [], e => by simp [mkSS, tot]
  | k, f :: l, e => by
    simp only [List.cons_append, mkSS, mkSS_snoc _ l e, tot]
    rw [show k + (f.2.length : Int) + (tot l : Int) = k + ((f.2.length + tot l : Nat) : Int) by omega]
theorem mkSS_get : ∀ (es : List SlE) (k : Int) (i : Nat) (e : SlE), es[i]? = some e → (mkSS k es)[i]? = some (e.1, markL (k + tot (es.take i)) e.2.length)
  | [], _, _, _, h => by simp at h
  | f :: r, k, 0, e, h => by simp at h; subst h; simp [mkSS, tot]
  | f :: r, k, i + 1, e, h => by
    simp at h
    have := mkSS_get r (k + f.2.length) i e h
    simp only [mkSS, List.getElem?_cons_succ, this, List.take_succ_cons, tot]
    rw [show k + (f.2.length : Int) + (tot (r.take i) : Int) = k + ((f.2.length + tot (r.take i) : Nat) : Int) by omega]
theorem tot_succ {es : List SlE} {k : Nat} (h : k < es.length) : tot (es.take (k + 1)) = tot (es.take k) + es[k].2.length := by
  rw [List.take_succ_eq_append_getElem h, tot_append]; simp [tot]
theorem markFloat64SS_ec (H : Heap) (lo hi : Nat) (a : Option Addr) (es : List SlE) (k : Int) (h : OwnSS H lo a es) (hhi : ∀ e ∈ es, ∀ b o, e.1 = some ⟨b, o, none⟩ → b < hi) (hl : es.length ≤ 1048576) (ht : tot es ≤ 1048576) (hk0 : 0 ≤ k) (hk : k ≤ 100000000) :
    EC Try.prog 13 [sv a es, .int .i64 k] H fun r H' => r = .ret (.int .i64 (k + tot es)) ∧ OwnSS H' lo a (mkSS k es) ∧ Out lo hi H H' := by
  refine EC_fn ctx (fun _ => true) Try.func13 rfl rfl rfl ?_
  refine loop_ind ctx (fun _ => true) (fun m E K => ∃ i : Nat, i ≤ es.length ∧ m = es.length - i ∧ E = ⟨[(0, sv a es), (1, .int .i64 (k + tot (es.take i))), (5, .int .i64 i)], []⟩ ∧ OwnSS K lo a (mkSS k (es.take i) ++ es.drop i) ∧ Out lo hi H K)
    (E0 := ⟨[(0, sv a es), (1, .int .i64 k), (5, .int .i64 ((0 : Nat) : Int))], []⟩) ⟨0, Nat.zero_le _, rfl, by simp [tot], by simpa [mkSS] using h, Out.of_ext (Ext.refl _)⟩ (by (refine ⟨?_, ?_⟩ <;> repeat' first | exact trivial | exact congrArg (fun x => some (Value.int .i64 x)) (wrap_nat (by omega)) | exact sv_eq (by simp; done) | exact rfl | refine ⟨?_, ?_⟩ | fail)) ?_
  rintro m E K ⟨i, hi', rfl, rfl, ho, hout⟩
  have htk := tot_take es i
  refine ⟨fun hlt => ?_, fun hge => ?_⟩
  · have hlt : i < es.length := by simpa using hlt
    have hdr := List.drop_eq_getElem_cons hlt
    rw [hdr] at ho
    have hls : (mkSS k (es.take i) ++ es[i] :: es.drop (i + 1)).length = es.length := by simp; omega
    have hgi : (mkSS k (es.take i) ++ es[i] :: es.drop (i + 1))[i]? = some es[i] := by rw [List.getElem?_append_right (by simp; omega)]; simp [hi']
    obtain ⟨b, o, rfl, hc⟩ := ho.out.rd.cell hgi
    have hin := ho.inn es[i] (List.mem_append_right _ (List.mem_cons_self ..))
    have hml := tot_mem (List.getElem_mem hlt)
    refine ⟨⟨by omega, by omega⟩, _, hc, _, mark_ec K _ lo es[i].2 _ hin (by omega) (by omega) (by omega), ?_, fun v K hR => by cases hR.1⟩
    rintro _ K2 ⟨hx, hb, hbut⟩
    cases hx
    have ho2 := ho.upd hb (by simp) hbut
    refine ⟨es.length - (i + 1), ⟨[(0, sv (some ⟨b, o, none⟩) es), (1, .int .i64 (k + tot (es.take i) + es[i].2.length)), (5, .int .i64 ((i + 1 : Nat) : Int))], []⟩, by omega, by (refine ⟨?_, ?_⟩ <;> repeat' first | exact trivial | exact congrArg (fun x => some (Value.int .i64 x)) (wrap_nat (by omega)) | exact sv_eq (by simp; done) | exact rfl | refine ⟨?_, ?_⟩ | fail), i + 1, by omega, rfl, ?_, ?_, hout.trans (hbut.out fun x y he => ⟨(hin.lt he).1, hhi _ (List.getElem_mem hlt) x y he⟩)⟩
    · rw [tot_succ hlt, show k + (tot (es.take i) : Int) + (es[i].2.length : Int) = k + ((tot (es.take i) + es[i].2.length : Nat) : Int) by omega]
    · rw [List.take_succ_eq_append_getElem hlt, mkSS_snoc, List.append_assoc]
      exact ho2
  · have hi2 : i = es.length := by simp at hge; omega
    subst hi2
    rw [List.take_of_length_le (Nat.le_refl _), List.drop_of_length_le (Nat.le_refl _), List.append_nil] at ho
    rw [List.take_of_length_le (Nat.le_refl _)]
    exact ⟨rfl, ho, hout⟩
theorem heldFloat64SS_pc (H : Heap) (a : Option Addr) (es : List SlE) (k : Int) (h : RdSS H a (mkSS k es)) (hl : es.length ≤ 1048576) (ht : tot es ≤ 1048576) (hk0 : 0 ≤ k) (hk : k ≤ 100000000) :
    PC Try.prog 14 [sv a es, .int .i64 k] H (.int .i64 (k + tot es)) := by
  refine EC_fn ctx (fun _ => true) Try.func14 rfl rfl rfl ?_
  refine loop_ind ctx (fun _ => true) (fun m E K => ∃ i : Nat, i ≤ es.length ∧ m = es.length - i ∧ E = ⟨[(0, sv a es), (1, .int .i64 (k + tot (es.take i))), (5, .int .i64 i)], []⟩ ∧ K = H)
    (E0 := ⟨[(0, sv a es), (1, .int .i64 k), (5, .int .i64 ((0 : Nat) : Int))], []⟩) ⟨0, Nat.zero_le _, rfl, by simp [tot], rfl⟩ (by (refine ⟨?_, ?_⟩ <;> repeat' first | exact trivial | exact congrArg (fun x => some (Value.int .i64 x)) (wrap_nat (by omega)) | exact sv_eq (by simp; done) | exact rfl | refine ⟨?_, ?_⟩ | fail)) ?_
  rintro m E K ⟨i, hi', rfl, rfl, rfl⟩
  have htk := tot_take es i
  refine ⟨fun hlt => ?_, fun hge => ?_⟩
  · have hlt : i < es.length := by simpa using hlt
    have hg := mkSS_get es k i _ (List.getElem?_eq_getElem hlt)
    obtain ⟨b, o, rfl, hc⟩ := h.out.cell hg
    have hin := h.inn _ (List.mem_of_getElem? hg)
    have hml := tot_mem (List.getElem_mem hlt)
    have hheld := held_pc K _ (k + tot (es.take i)) es[i].2.length hin (by omega) (by omega) (by omega)
    refine ⟨⟨by omega, by omega⟩, _, hc, _, hheld, ?_, fun v K hR => by cases hR.1⟩
    rintro _ K ⟨hx, rfl⟩
    cases hx
    refine ⟨fun hn => ?_, fun _ => ?_⟩
    · simp at hn; omega
    refine ⟨es.length - (i + 1), ⟨[(0, sv (some ⟨b, o, none⟩) es), (1, .int .i64 (k + tot (es.take i) + es[i].2.length)), (5, .int .i64 ((i + 1 : Nat) : Int))], []⟩, by omega, by (refine ⟨?_, ?_⟩ <;> repeat' first | exact trivial | exact congrArg (fun x => some (Value.int .i64 x)) (wrap_nat (by omega)) | exact sv_eq (by simp; done) | exact rfl | refine ⟨?_, ?_⟩ | fail), i + 1, by omega, rfl, ?_, rfl⟩
    rw [tot_succ hlt, show k + (tot (es.take i) : Int) + (es[i].2.length : Int) = k + ((tot (es.take i) + es[i].2.length : Nat) : Int) by omega]
  · have hi2 : i = es.length := by simp at hge; omega
    subst hi2
    rw [List.take_of_length_le (Nat.le_refl _)]
    exact pint rfl
end Go.Proofs.Ytanlmmfnpncpbaa

set_option linter.unusedVariables false
namespace Go.Proofs.Ytanlmmfnpncpbaa
open Go.Am

theorem snoc_set {α : Type} (fs : List α) (z e : α) {k n : Nat} (hf : fs.length = k) (hk : k < n) : (fs ++ List.replicate (n - k) z).set k e = (fs ++ [e]) ++ List.replicate (n - (k + 1)) z := by
  subst hf
  obtain ⟨d, hd⟩ : ∃ d, n - fs.length = d + 1 := ⟨n - fs.length - 1, by omega⟩
  rw [hd, List.replicate_succ, List.set_append, if_neg (by omega), Nat.sub_self, List.set_cons_zero, show n - (fs.length + 1) = d by omega, List.append_assoc]
  rfl
/-- Slices that lie in blocks of their own, above a place. -/
structure Inn (K : Heap) (lo : Nat) (fs : List SlE) : Prop where
  blk : ∀ f ∈ fs, ∃ b, f.1 = some ⟨b, 0, none⟩ ∧ lo < b ∧ K.blk b = some (.cells (flat dFlt f.2) 1 true)
  pw : fs.Pairwise fun e f => Apart e.1 f.1
theorem Inn.snoc {K K' : Heap} {lo b : Nat} {fs : List SlE} {xs : List Nat} (h : Inn K lo fs) (hs : ∀ x, x < K.next → x ≠ lo → K'.blk x = K.blk x) (hb : K.next ≤ b) (hlo : lo < K.next) (hx : K'.blk b = some (.cells (flat dFlt xs) 1 true)) : Inn K' lo (fs ++ [(some ⟨b, 0, none⟩, xs)]) where
  blk := fun f hf => by
    rcases List.mem_append.1 hf with hf | hf
    · obtain ⟨c, h1, h2, h3⟩ := h.blk f hf
      exact ⟨c, h1, h2, by rw [hs c (K.lt _ _ h3) (by omega)]; exact h3⟩
    · simp at hf; subst hf
      exact ⟨b, rfl, by omega, hx⟩
  pw := List.pairwise_append.2 ⟨h.pw, by simp, fun f hf e he => by
    simp at he; subst he
    obtain ⟨c, h1, h2, h3⟩ := h.blk f hf
    have := K.lt _ _ h3
    intro x o o' e1 e2
    rw [h1] at e1; cases e1; cases e2
    omega⟩
theorem Inn.own {K : Heap} {lo : Nat} {fs : List SlE} (h : Inn K lo fs) (hb : K.blk lo = some (.cells (flat dSl fs) 1 true)) : OwnSS K lo (some ⟨lo, 0, none⟩) fs where
  out := .blk (Nat.le_refl _) hb
  inn := fun f hf => by
    obtain ⟨c, h1, h2, h3⟩ := h.blk f hf
    obtain ⟨f1, f2⟩ := f
    simp only at h1 h3
    subst h1
    exact .blk (by omega) h3
  ne := fun f hf => by
    obtain ⟨c, h1, h2, h3⟩ := h.blk f hf
    intro x o o' e1 e2
    rw [h1] at e2; cases e1; cases e2
    omega
  pw := h.pw
theorem toFloat64SS_ec (H : Heap) (a : Option Addr) (es : List SlE) (h : RdSS H a es) (hl : es.length ≤ 1048576) (ht : tot es ≤ 1048576) :
    EC Try.prog 8 [sv a es] H fun r K => ∃ fs, r = .ret (sv (some ⟨H.next, 0, none⟩) fs) ∧ snds fs = snds es ∧ OwnSS K H.next (some ⟨H.next, 0, none⟩) fs ∧ Ext H K := by
  refine EC_fn ctx (fun _ => true) Try.func8 rfl rfl rfl ?_
  refine ⟨⟨by omega, by omega, by omega, by dsimp only; omega⟩, ?_⟩
  refine loop_ind ctx (fun _ => true) (fun m E K => ∃ (k : Nat) (fs : List SlE), k ≤ es.length ∧ m = es.length - k ∧ E = ⟨[(0, sv a es), (3, .slice (some ⟨H.next, 0, none⟩) es.length es.length), (4, .int .i64 k)], []⟩ ∧ fs.length = k ∧ snds fs = snds (es.take k) ∧ K.blk H.next = some (.cells (flat dSl (fs ++ List.replicate (es.length - k) (none, []))) 1 true) ∧ Inn K H.next fs ∧ Ext H K)
    ⟨0, [], Nat.zero_le _, rfl, rfl, rfl, by simp, ?_, ⟨by simp, .nil⟩, Ext.push _ _⟩ (by (refine ⟨?_, ?_⟩ <;> repeat' first | exact trivial | exact congrArg (fun x => some (Value.int .i64 x)) (wrap_nat (by omega)) | exact sv_eq (by simp; done) | exact rfl | refine ⟨?_, ?_⟩ | fail)) ?_
  · rw [push_blk]
    show some (Blk.cells (repL es.length [.slice none 0 0]) 1 true) = _
    rw [flat_rep dSl (none, []) [.slice none 0 0] rfl]
    rfl
  rintro m E K ⟨k, fs, hk, rfl, rfl, hf, hsn, hblk, hinn, hext⟩
  have hlo : H.next < K.next := K.lt _ _ hblk
  refine ⟨fun hlt => ?_, fun hge => ?_⟩
  · have hlt : k < es.length := by simpa using hlt
    obtain ⟨b, o, rfl, hc⟩ := (h.out.mono hext).cell (List.getElem?_eq_getElem hlt)
    have hin := (h.inn _ (List.getElem_mem hlt)).mono hext
    have hml := tot_mem (List.getElem_mem hlt)
    refine ⟨⟨by omega, by omega⟩, _, hc, _, toFloat64S_ec K _ _ hin (by omega), ?_, fun v K hR => by cases hR.1⟩
    rintro _ K2 ⟨hx, rfl⟩
    cases hx
    have hb2 : (pushL dFlt K es[k].2).blk H.next = some (.cells (flat dSl (fs ++ List.replicate (es.length - k) (none, []))) 1 true) := (push_blk_ne _ _ (by omega)).trans hblk
    have hlen : (fs ++ List.replicate (es.length - k) ((none, []) : SlE)).length = es.length := by simp; omega
    refine ⟨⟨by omega, by omega⟩, ⟨_, _, hb2, by rw [flat_len, hlen]; show 0 + k * 1 + 1 ≤ es.length * 1; omega⟩, ?_⟩
    have hst : (pushL dFlt K es[k].2).stor H.next (0 + k * 1) [.slice (some ⟨K.next, 0, none⟩) es[k].2.length es[k].2.length] = (pushL dFlt K es[k].2).put H.next (.cells (flat dSl ((fs ++ [((some ⟨K.next, 0, none⟩, es[k].2) : SlE)]) ++ List.replicate (es.length - (k + 1)) (none, []))) 1 true) := by
      rw [Heap.stor_put hb2, Nat.zero_add, ← snoc_set fs (none, []) ((some ⟨K.next, 0, none⟩, es[k].2) : SlE) hf hlt, ← flat_over dSl _ k _ (by rw [hlen]; exact hlt)]
      rfl
    have hnx : H.next < (pushL dFlt K es[k].2).next := Nat.lt_succ_of_lt hlo
    refine ⟨es.length - (k + 1), ⟨[(0, sv (some ⟨b, o, none⟩) es), (3, .slice (some ⟨H.next, 0, none⟩) es.length es.length), (4, .int .i64 ((k + 1 : Nat) : Int))], []⟩, by omega, by (refine ⟨?_, ?_⟩ <;> repeat' first | exact trivial | exact congrArg (fun x => some (Value.int .i64 x)) (wrap_nat (by omega)) | exact sv_eq (by simp; done) | exact rfl | refine ⟨?_, ?_⟩ | fail), k + 1, fs ++ [(some ⟨K.next, 0, none⟩, es[k].2)], by omega, rfl, rfl, by simp [hf], ?_, ?_, ?_, ?_⟩
    · rw [List.take_succ_eq_append_getElem hlt]
      simp only [snds, List.map_append, List.map_cons, List.map_nil] at hsn ⊢
      rw [hsn]
    · show ((pushL dFlt K es[k].2).stor H.next (0 + k * 1) [.slice (some ⟨K.next, 0, none⟩) es[k].2.length es[k].2.length]).blk H.next = _
      rw [hst, put_blk _ _ _ _ hnx, if_pos rfl]
    · show Inn ((pushL dFlt K es[k].2).stor H.next (0 + k * 1) [.slice (some ⟨K.next, 0, none⟩) es[k].2.length es[k].2.length]) _ _
      rw [hst]
      refine hinn.snoc (fun x hx hne => ?_) (Nat.le_refl _) hlo ?_
      · rw [put_blk _ _ _ _ hnx, if_neg hne]; exact push_blk_ne _ _ (by omega)
      · rw [put_blk _ _ _ _ hnx, if_neg (by omega)]; exact push_blk _ _
    · exact (hext.push' _).stor (Nat.le_refl _)
  · have hk2 : k = es.length := by simp at hge; omega
    subst hk2
    rw [List.take_of_length_le (Nat.le_refl _)] at hsn
    rw [Nat.sub_self, List.replicate_zero, List.append_nil] at hblk
    exact ⟨fs, ret_sv hf, hsn, hinn.own hblk, hext⟩
structure AtSS (K : Heap) (lo hi : Nat) (a : Option Addr) (es : List SlE) : Prop where
  out : RdAt dSl K lo hi a es
  inn : ∀ e ∈ es, RdAt dFlt K lo hi e.1 e.2
theorem _root_.Go.Am.RdSS.at_ {K : Heap} {a : Option Addr} {es : List SlE} (h : RdSS K a es) : Go.Proofs.Ytanlmmfnpncpbaa.AtSS K 0 K.next a es := ⟨h.out.at (Nat.le_refl _), fun e he => (h.inn e he).at (Nat.le_refl _)⟩
theorem OwnSS.at_ {K : Heap} {lo : Nat} {a : Option Addr} {es : List SlE} (h : OwnSS K lo a es) : AtSS K lo K.next a es := ⟨h.out.atR, fun e he => (h.inn e he).atR⟩
theorem AtSS.out_ {K K' : Heap} {lo hi lo' hi' : Nat} {a : Option Addr} {es : List SlE} (h : AtSS K lo hi a es) (e : Out lo' hi' K K') (hd : hi ≤ lo' ∨ hi' ≤ lo) : AtSS K' lo hi a es := ⟨h.out.out e hd, fun f hf => (h.inn f hf).out e hd⟩
theorem AtSS.mono {K K' : Heap} {lo hi : Nat} {a : Option Addr} {es : List SlE} (h : AtSS K lo hi a es) (e : Ext K K') : AtSS K' lo hi a es := ⟨h.out.mono e, fun f hf => (h.inn f hf).mono e⟩
theorem AtSS.rd {K : Heap} {lo hi : Nat} {a : Option Addr} {es : List SlE} (h : AtSS K lo hi a es) : RdSS K a es := ⟨h.out.rd, fun e he => (h.inn e he).rd⟩
theorem tot_le {n : Nat} : ∀ {es : List SlE}, (∀ e ∈ es, e.2.length ≤ n) → tot es ≤ n * es.length
  | [], _ => by simp [tot]
  | e :: r, h => by
    have := tot_le (es := r) fun f hf => h f (by simp [hf])
    have := h e (by simp)
    simp only [tot, List.length_cons, Nat.mul_add]
    omega
end Go.Proofs.Ytanlmmfnpncpbaa
