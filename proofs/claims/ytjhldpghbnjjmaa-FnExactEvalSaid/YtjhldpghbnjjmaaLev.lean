/- FnExactEval: the walk. Condition: the arguments' slices read. -/
import Derived.Test.YtjhldpghbnjjmaaEvd
import Derived.Test.YtjhldpghbnjjmaaMkg
set_option linter.unusedVariables false
set_option linter.unusedSimpArgs false
namespace Go.Proofs.Ytjhldpghbnjjmaa
open Go.Am

structure AtG (K : Heap) (lo hi : Nat) (p q r : Option Addr) (g : Graph) : Prop where
  i : RdAt dInt K lo hi p g.ins
  s : RdAt dVal K lo hi q g.vals
  o : RdAt dInt K lo hi r g.outs
theorem RdG.at_ {K : Heap} {p q r : Option Addr} {g : Graph} (h : RdG K p q r g) : AtG K 0 K.next p q r g := ⟨h.ins.at (Nat.le_refl _), h.vals.at (Nat.le_refl _), h.outs.at (Nat.le_refl _)⟩
theorem AtG.out {K K' : Heap} {lo hi lo' hi' : Nat} {p q r : Option Addr} {g : Graph} (h : AtG K lo hi p q r g) (e : Out lo' hi' K K') (hd : hi ≤ lo' ∨ hi' ≤ lo) : AtG K' lo hi p q r g := ⟨h.i.out e hd, h.s.out e hd, h.o.out e hd⟩
theorem AtG.mono {K K' : Heap} {lo hi : Nat} {p q r : Option Addr} {g : Graph} (h : AtG K lo hi p q r g) (e : Ext K K') : AtG K' lo hi p q r g := ⟨h.i.mono e, h.s.mono e, h.o.mono e⟩
theorem AtG.rd {K : Heap} {lo hi : Nat} {p q r : Option Addr} {g : Graph} (h : AtG K lo hi p q r g) : RdG K p q r g := ⟨h.i.rd, h.s.rd, h.o.rd⟩
structure AtSS (K : Heap) (lo hi : Nat) (a : Option Addr) (es : List SlE) : Prop where
  out : RdAt dSl K lo hi a es
  inn : ∀ e ∈ es, RdAt dFlt K lo hi e.1 e.2
theorem _root_.Go.Am.RdSS.at_ {K : Heap} {a : Option Addr} {es : List SlE} (h : RdSS K a es) : Go.Proofs.Ytjhldpghbnjjmaa.AtSS K 0 K.next a es := ⟨h.out.at (Nat.le_refl _), fun e he => (h.inn e he).at (Nat.le_refl _)⟩
theorem OwnSS.at_ {K : Heap} {lo : Nat} {a : Option Addr} {es : List SlE} (h : OwnSS K lo a es) : AtSS K lo K.next a es := ⟨h.out.atR, fun e he => (h.inn e he).atR⟩
theorem AtSS.out_ {K K' : Heap} {lo hi lo' hi' : Nat} {a : Option Addr} {es : List SlE} (h : AtSS K lo hi a es) (e : Out lo' hi' K K') (hd : hi ≤ lo' ∨ hi' ≤ lo) : AtSS K' lo hi a es := ⟨h.out.out e hd, fun f hf => (h.inn f hf).out e hd⟩
theorem AtSS.mono {K K' : Heap} {lo hi : Nat} {a : Option Addr} {es : List SlE} (h : AtSS K lo hi a es) (e : Ext K K') : AtSS K' lo hi a es := ⟨h.out.mono e, fun f hf => (h.inn f hf).mono e⟩
theorem AtSS.rd {K : Heap} {lo hi : Nat} {a : Option Addr} {es : List SlE} (h : AtSS K lo hi a es) : RdSS K a es := ⟨h.out.rd, fun e he => (h.inn e he).rd⟩

theorem tot_le {n : Nat} : ∀ {es : List SlE}, (∀ e ∈ es, e.2.length ≤ n) → tot es ≤ n * es.length
  | [], _ => by simp [tot]
  | e :: r, h => by
    have := tot_le (es := r) fun f hf => h f (by simp [hf])
    have := h e (by simp)
    simp only [tot, List.length_cons, Nat.mul_add]
    omega
theorem evP_k {g : Graph} {xss : List (List Nat)} (hg : Vld g) (hx : ∀ xs ∈ xss, xs.length ≤ 1000) : ∀ i, i ≤ g.vals.length → ∀ ys ∈ evP g xss i, ys.length ≤ 1000
  | 0, _, ys, h => by simp [evP] at h
  | i + 1, hi, ys, h => by
    have hlt : i < g.vals.length := by omega
    rw [evP_succ (List.getElem?_eq_getElem hlt)] at h
    rcases List.mem_append.1 h with h | h
    · exact evP_k hg hx i (by omega) ys h
    · simp at h
      subst h
      unfold evOne
      split
      · cases hq : xss[(g.vals[i]).a.toNat]? with
        | none => simp
        | some x => exact hx x (List.mem_of_getElem? hq)
      · have := (hg.len _ (List.getElem_mem hlt)).2
        exact Nat.le_trans kern_len (by omega)
theorem evR_size {g : Graph} {xss : List (List Nat)} {es : List SlE} (h : snds es = (evR g xss).1) : es.length ≤ 50 ∧ tot es ≤ 50000 := by
  unfold evR at h
  split at h
  · rename_i hv
    split at h
    · rename_i hs
      have hV := vld_of hv
      have hle : ∀ xs ∈ xss, xs.length ≤ 1000 := fun xs hx => by
        have hs := of_decide_eq_true hs
        have : (xs.length : Int) ∈ g.ins := by rw [← hs]; exact List.mem_map_of_mem (f := fun x : List Nat => (x.length : Int)) hx
        simp only [validB, Bool.and_eq_true, decide_eq_true_eq] at hv
        have := List.all_eq_true.1 hv.1.1.1.2 _ this
        simp [okLen] at this
        omega
      have hl : es.length = g.outs.length := by have := congrArg List.length h; simpa [evalO] using this
      have ho := hV.outs
      have : ∀ e ∈ es, e.2.length ≤ 1000 := fun e he => by
        have hm : e.2 ∈ evalO g xss := by rw [← show snds es = evalO g xss from h]; exact List.mem_map_of_mem he
        obtain ⟨o, ho, hq⟩ := List.mem_map.1 hm
        rw [← hq]
        cases hz : (evP g xss g.vals.length)[o.toNat]? with
        | none => simp
        | some ys => exact evP_k hV hle _ (Nat.le_refl _) ys (List.mem_of_getElem? hz)
      have := tot_le this
      omega
    · have : es = [] := by simpa using h
      subst this; simp [tot]
  · have : es = [] := by simpa using h
    subst this; simp [tot]
theorem szG_all {g : Graph} {left : Int} (h0 : 0 ≤ left) (h : ¬ szG g left < 0) : (g.ins.length : Int) ≤ left ∧ (g.vals.length : Int) ≤ left ∧ (g.outs.length : Int) ≤ left ∧ szG g left ≤ left := by
  unfold szG at h ⊢
  simp only at h ⊢
  split at h
  · omega
  · rename_i hh; rw [if_neg hh]; omega
theorem mkSS_snds : ∀ (k : Int) (es : List SlE), (mkSS k es).length = es.length := mkSS_len

set_option maxHeartbeats 4000000 in
theorem law_Eval {H : Heap} {p q r a : Option Addr} {g : Graph} {fs : List SlE} (hg : RdG H p q r g) (hin : RdSS H a fs) (h1 : g.ins.length ≤ 9223372036854775807) (h2 : g.vals.length ≤ 9223372036854775807) (h3 : g.outs.length ≤ 9223372036854775807) (hl : fs.length ≤ 9223372036854775807) (hi : ∀ e ∈ fs, e.2.length ≤ 9223372036854775807) :
    EC Try.prog 7 [gV p q r g, sv a fs] H fun e H' => e = .ret (.bool true) := by
  refine EC_fn ctx (fun _ => true) Try.func7 rfl rfl rfl ?_
  refine ⟨_, szGraph_pc H p q r g 1048576 (by omega) (by omega) (by omega) (by omega) (by omega), ?_, fun v K hR => by cases hR.1⟩
  rintro _ H ⟨hx, rfl⟩
  cases hx
  refine ⟨fun h => rfl, fun h => ?_⟩
  have hsz : ¬ szG g 1048576 < 0 := by simp at h; omega
  obtain ⟨z1, z2, z3, z4⟩ := szG_all (by omega) hsz
  refine ⟨_, szFloat64SS_pc a fs (szG g 1048576) H hin (by omega) (by omega) hl hi, ?_, fun v K hR => by cases hR.1⟩
  rintro _ H ⟨hx, rfl⟩
  cases hx
  refine ⟨fun h => rfl, fun h => ?_⟩
  obtain ⟨z5, z6⟩ := szSS_bound (es := fs) (left := szG g 1048576) (by simp at h; omega)
  clear h hi hl h1 h2 h3
  have hA := hg.at_
  have hB := hin.at_
  refine ⟨_, toGraph_ec H p q r g hg (by omega) (by omega) (by omega), ?_, fun v K hR => by cases hR.1⟩
  rintro _ K1 ⟨hx, hK⟩
  cases hx
  obtain ⟨e1, o1, n1⟩ := pushG_own hK
  clear hK
  refine ⟨_, toFloat64SS_ec K1 a fs (hB.mono e1).rd (by omega) (by omega), ?_, fun v K hR => by obtain ⟨_, h, _⟩ := hR; cases h⟩
  rintro _ K2 ⟨f2, hx, s2, o2, e2⟩
  cases hx
  have t2 := tot_snds s2
  have l2 : f2.length = fs.length := by simpa using congrArg List.length s2
  refine ⟨_, specEval_ec K2 _ _ _ _ g f2 (o1.mono e2).rd o2.rd (by omega) (by omega) (by omega) (by omega) (fun e he => by have := tot_mem he; omega), ?_, fun v K hR => by obtain ⟨_, _, h, _⟩ := hR; cases h⟩
  rintro _ K3 ⟨w, ew, hx, sw, e3, ow⟩
  rw [s2] at sw hx
  cases hx
  have eA := (e1.trans e2).trans e3
  have qw := ow.at_
  refine ⟨_, toGraph_ec K3 p q r g (hA.mono eA).rd (by omega) (by omega) (by omega), ?_, fun v K hR => by cases hR.1⟩
  rintro _ K4 ⟨hx, hK⟩
  cases hx
  obtain ⟨e4, o4, n4⟩ := pushG_own hK
  clear hK
  refine ⟨_, toFloat64SS_ec K4 a fs (hB.mono (eA.trans e4)).rd (by omega) (by omega), ?_, fun v K hR => by obtain ⟨_, h, _⟩ := hR; cases h⟩
  rintro _ K5 ⟨f5, hx, s5, o5, e5⟩
  cases hx
  have t5 := tot_snds s5
  have l5 : f5.length = fs.length := by simpa using congrArg List.length s5
  refine ⟨_, implEval_ec K5 _ _ _ _ g f5 (o4.mono e5).rd o5.rd (by omega) (by omega) (by omega) (by omega) (fun e he => by have := tot_mem he; omega), ?_, fun v K hR => by obtain ⟨_, _, h, _⟩ := hR; cases h⟩
  rintro _ K6 ⟨c, ec, hx, sc, e6, oc⟩
  rw [s5] at sc hx
  cases hx
  have hsz1 := evR_size sc
  have hsz2 := evR_size sw
  have hsame : snds ec = snds ew := sc.trans sw.symm
  have e46 := (e4.trans e5).trans e6
  have eB := eA.trans e46
  refine ⟨_, eqFloat64SS_pc K6 _ _ ec ew oc.rd (qw.mono e46).rd (by omega) (by omega), ?_, fun v K hR => by cases hR.1⟩
  rintro _ K6 ⟨hx, rfl⟩
  cases hx
  refine ⟨fun h => by simp [hsame] at h, fun _ => ⟨.leaf [([0, 1], some 2), ([3, 4], none)] [0], by kernel_rfl, ?_⟩⟩
  refine ⟨_, toGraph_ec K6 p q r g (hA.mono eB).rd (by omega) (by omega) (by omega), ?_, fun v K hR => by cases hR.1⟩
  rintro _ K7 ⟨hx, hK⟩
  cases hx
  obtain ⟨e7, o7, n7⟩ := pushG_own hK
  clear hK
  refine ⟨_, eqGraph_pc K7 _ _ _ _ _ _ g g (o4.mono ((e5.trans e6).trans e7)).rd o7.rd (by omega) (by omega) (by omega), fun h => by simp at h, fun _ => ?_⟩
  refine ⟨_, toFloat64SS_ec K7 a fs (hB.mono (eB.trans e7)).rd (by omega) (by omega), ?_, fun v K hR => by obtain ⟨_, h, _⟩ := hR; cases h⟩
  rintro _ K8 ⟨f8, hx, s8, o8, e8⟩
  cases hx
  refine ⟨_, eqFloat64SS_pc K8 _ _ f5 f8 (o5.mono ((e6.trans e7).trans e8)).rd o8.rd (by omega) (by omega), ?_, fun v K hR => by cases hR.1⟩
  rintro _ K8 ⟨hx, rfl⟩
  cases hx
  have h58 : snds f5 = snds f8 := s5.trans s8.symm
  refine ⟨fun h => by simp [h58] at h, fun _ => ?_⟩
  -- marks
  have e78 := e7.trans e8
  have m1 := e1.next
  have m2 := e2.next
  have m3 := e3.next
  have m4 := e4.next
  have m5 := e5.next
  have m6 := e6.next
  have x0 := o4.mono ((e5.trans e6).trans e78)
  have x1 := o5.mono (e6.trans e78)
  have hx1 : ∀ e ∈ f5, ∀ b o, e.1 = some ⟨b, o, none⟩ → b < K5.next := fun e he b o hb => ((o5.inn e he).lt hb).2
  have hc1 : ∀ e ∈ ec, ∀ b o, e.1 = some ⟨b, o, none⟩ → b < K6.next := fun e he b o hb => ((oc.inn e he).lt hb).2
  have qw := qw.mono (e46.trans e78)
  have xc := oc.mono e78
  have qA := hA.mono (eB.trans e78)
  have qB := hB.mono (eB.trans e78)
  refine ⟨_, markGraph_ec K8 _ _ _ _ _ g 1 x0 (by omega) (by omega) (by omega) (by omega) (by omega), ?_, fun v K hR => by cases hR.1⟩
  rintro _ K9 ⟨hx, _, t9⟩
  cases hx
  have hgk : 0 ≤ mkGk 1 g ∧ mkGk 1 g ≤ 10000000 := by unfold mkGk; omega
  have x1 := x1.out_ t9 (by omega)
  have xc := xc.out_ t9 (by omega)
  have qw := qw.out_ t9 (by omega)
  have qA := qA.out t9 (by omega)
  have qB := qB.out_ t9 (by omega)
  refine ⟨_, markFloat64SS_ec K9 _ K5.next _ f5 (mkGk 1 g) x1 hx1 (by omega) (by omega) (by omega) (by omega), ?_, fun v K hR => by cases hR.1⟩
  rintro _ K10 ⟨hx, _, t10⟩
  cases hx
  have xc := xc.out_ t10 (by omega)
  have qw := qw.out_ t10 (by omega)
  have qA := qA.out t10 (by omega)
  have qB := qB.out_ t10 (by omega)
  refine ⟨_, fun _ => eqFloat64SS_pc K10 _ _ ec ew xc.rd qw.rd (by omega) (by omega), fun h => ?_, fun _ => ?_⟩
  · simp [hsame] at h; omega
  refine ⟨_, markFloat64SS_ec K10 _ K6.next _ ec 1 xc hc1 (by omega) (by omega) (by omega) (by omega), ?_, fun v K hR => by cases hR.1⟩
  rintro _ K11 ⟨hx, xc11, t11⟩
  cases hx
  have qw := qw.out_ t11 (by omega)
  have qA := qA.out t11 (by omega)
  have qB := qB.out_ t11 (by omega)
  refine ⟨_, heldFloat64SS_pc K11 _ ec 1 xc11.rd (by omega) (by omega) (by omega) (by omega), ?_, fun v K hR => by cases hR.1⟩
  rintro _ K11 ⟨hx, rfl⟩
  cases hx
  refine ⟨fun h => by simp at h; omega, fun _ => ⟨fun h => by simp at h, fun _ => ?_⟩⟩
  refine ⟨_, toGraph_ec K11 p q r g qA.rd (by omega) (by omega) (by omega), ?_, fun v K hR => by cases hR.1⟩
  rintro _ K12 ⟨hx, hK⟩
  cases hx
  obtain ⟨e12, o12, n12⟩ := pushG_own hK
  clear hK
  refine ⟨_, toFloat64SS_ec K12 a fs (qB.mono e12).rd (by omega) (by omega), ?_, fun v K hR => by obtain ⟨_, h, _⟩ := hR; cases h⟩
  rintro _ K13 ⟨f13, hx, s13, o13, e13⟩
  cases hx
  have t13 := tot_snds s13
  have l13 : f13.length = fs.length := by simpa using congrArg List.length s13
  refine ⟨_, implEval_ec K13 _ _ _ _ g f13 (o12.mono e13).rd o13.rd (by omega) (by omega) (by omega) (by omega) (fun e he => by have := tot_mem he; omega), ?_, fun v K hR => by obtain ⟨_, _, h, _⟩ := hR; cases h⟩
  rintro _ K14 ⟨d, ed, hx, sd, e14, od⟩
  rw [s13] at sd hx
  cases hx
  have hsz3 := evR_size sd
  have eE := (e12.trans e13).trans e14
  have hsame2 : snds ed = snds ew := sd.trans sw.symm
  refine ⟨_, eqFloat64SS_pc K14 _ _ ed ew od.rd (qw.mono eE).rd (by omega) (by omega), ?_, fun v K hR => by cases hR.1⟩
  rintro _ K14 ⟨hx, rfl⟩
  cases hx
  refine ⟨fun h => by simp [hsame2] at h, fun _ => ?_⟩
  refine ⟨_, heldFloat64SS_pc K14 _ ec 1 (xc11.mono eE).rd (by omega) (by omega) (by omega) (by omega), ?_, fun v K hR => by cases hR.1⟩
  rintro _ K14 ⟨hx, rfl⟩
  cases hx
  exact ⟨fun h => by simp at h; omega, fun _ => ⟨fun h => by simp at h, fun _ => rfl⟩⟩
end Go.Proofs.Ytjhldpghbnjjmaa
