/- FnExactRunCode: the walk. Condition: the arguments' slices read. -/
import Derived.Test.YtanlmmfnpncpbaaRni
import Derived.Test.YtanlmmfnpncpbaaMkc
set_option linter.unusedVariables false
set_option linter.unusedSimpArgs false
namespace Go.Proofs.Ytanlmmfnpncpbaa
open Go.Am

theorem runR_size {c : Code'} {xss : List (List Nat)} {es : List SlE} (h : snds es = (runR c xss).1) : es.length ≤ 50 ∧ tot es ≤ 50000 := by
  unfold runR at h
  split at h
  · rename_i hv
    split at h
    · rename_i hs
      have hV := ver_of hv
      have hl : es.length = c.outs.length := by have := congrArg List.length h; simpa [runO] using this
      have ho := hV.outs
      have : ∀ e ∈ es, e.2.length ≤ 1000 := fun e he => by
        have hm : e.2 ∈ runO c xss := by rw [← show snds es = runO c xss from h]; exact List.mem_map_of_mem he
        obtain ⟨o, ho, hq⟩ := List.mem_map.1 hm
        have := hV.out o ho
        rw [← hq, readF_len]
        omega
      have := tot_le this
      omega
    · have : es = [] := by simpa using h
      subst this; simp [tot]
  · have : es = [] := by simpa using h
    subst this; simp [tot]
theorem szC_all {c : Code'} {left : Int} (h0 : 0 ≤ left) (h : ¬ szC c left < 0) : (c.ins.length : Int) ≤ left ∧ (c.steps.length : Int) ≤ left ∧ (c.outs.length : Int) ≤ left ∧ szC c left ≤ left := by
  unfold szC at h ⊢
  simp only at h ⊢
  split at h
  · omega
  · rename_i hh; rw [if_neg hh]; omega
theorem pushC_own {H K : Heap} {c : Code'} (h : K = pushC H c) : Ext H K ∧ OwnC K H.next (H.next + 3) (some ⟨H.next, 0, none⟩) (some ⟨H.next + 1, 0, none⟩) (some ⟨H.next + 2, 0, none⟩) c ∧ K.next = H.next + 3 := by
  subst h
  exact ⟨pushC_ext c, OwnC.push c, rfl⟩

set_option maxHeartbeats 4000000 in
theorem law_RunCode {H : Heap} {p q r a : Option Addr} {c : Code'} {fs : List SlE} (hg : RdC H p q r c) (hin : RdSS H a fs) (h1 : c.ins.length ≤ 9223372036854775807) (h2 : c.steps.length ≤ 9223372036854775807) (h3 : c.outs.length ≤ 9223372036854775807) (hl : fs.length ≤ 9223372036854775807) (hi : ∀ e ∈ fs, e.2.length ≤ 9223372036854775807) :
    EC Try.prog 3 [cV p q r c, sv a fs] H fun e H' => e = .ret (.bool true) := by
  refine EC_fn ctx (fun _ => true) Try.func3 rfl rfl rfl ?_
  refine ⟨_, szCode_pc H p q r c 1048576 (by omega) (by omega) (by omega) (by omega) (by omega), ?_, fun v K hR => by cases hR.1⟩
  rintro _ H ⟨hx, rfl⟩
  cases hx
  refine ⟨fun h => rfl, fun h => ?_⟩
  have hsz : ¬ szC c 1048576 < 0 := by simp at h; omega
  obtain ⟨z1, z2, z3, z4⟩ := szC_all (by omega) hsz
  refine ⟨_, szFloat64SS_pc a fs (szC c 1048576) H hin (by omega) (by omega) hl hi, ?_, fun v K hR => by cases hR.1⟩
  rintro _ H ⟨hx, rfl⟩
  cases hx
  refine ⟨fun h => rfl, fun h => ?_⟩
  obtain ⟨z5, z6⟩ := szSS_bound (es := fs) (left := szC c 1048576) (by simp at h; omega)
  clear h hi hl h1 h2 h3
  have hA := hg.at_
  have hB := hin.at_
  refine ⟨_, toCode_ec H p q r c hg (by omega) (by omega) (by omega), ?_, fun v K hR => by cases hR.1⟩
  rintro _ K1 ⟨hx, hK⟩
  cases hx
  obtain ⟨e1, o1, n1⟩ := pushC_own hK
  clear hK
  refine ⟨_, toFloat64SS_ec K1 a fs (hB.mono e1).rd (by omega) (by omega), ?_, fun v K hR => by obtain ⟨_, h, _⟩ := hR; cases h⟩
  rintro _ K2 ⟨f2, hx, s2, o2, e2⟩
  cases hx
  have t2 := tot_snds s2
  have l2 : f2.length = fs.length := by simpa using congrArg List.length s2
  refine ⟨_, specRun_ec K2 _ _ _ _ c f2 (o1.mono e2).rd o2.rd (by omega) (by omega) (by omega) (by omega) (fun e he => by have := tot_mem he; omega), ?_, fun v K hR => by obtain ⟨_, _, h, _⟩ := hR; cases h⟩
  rintro _ K3 ⟨w, ew, hx, sw, e3, ow⟩
  rw [s2] at sw hx
  cases hx
  have eA := (e1.trans e2).trans e3
  have qw := ow.at_
  refine ⟨_, toCode_ec K3 p q r c (hA.mono eA).rd (by omega) (by omega) (by omega), ?_, fun v K hR => by cases hR.1⟩
  rintro _ K4 ⟨hx, hK⟩
  cases hx
  obtain ⟨e4, o4, n4⟩ := pushC_own hK
  clear hK
  refine ⟨_, toFloat64SS_ec K4 a fs (hB.mono (eA.trans e4)).rd (by omega) (by omega), ?_, fun v K hR => by obtain ⟨_, h, _⟩ := hR; cases h⟩
  rintro _ K5 ⟨f5, hx, s5, o5, e5⟩
  cases hx
  have t5 := tot_snds s5
  have l5 : f5.length = fs.length := by simpa using congrArg List.length s5
  refine ⟨_, implRun_ec K5 _ _ _ _ c f5 (o4.mono e5).rd o5.rd (by omega) (by omega) (by omega) (by omega) (fun e he => by have := tot_mem he; omega), ?_, fun v K hR => by obtain ⟨_, _, h, _⟩ := hR; cases h⟩
  rintro _ K6 ⟨cc, ec, hx, sc, e6, oc⟩
  rw [s5] at sc hx
  cases hx
  have hsz1 := runR_size sc
  have hsz2 := runR_size sw
  have hsame : snds ec = snds ew := sc.trans sw.symm
  have e46 := (e4.trans e5).trans e6
  have eB := eA.trans e46
  refine ⟨_, eqFloat64SS_pc K6 _ _ ec ew oc.rd (qw.mono e46).rd (by omega) (by omega), ?_, fun v K hR => by cases hR.1⟩
  rintro _ K6 ⟨hx, rfl⟩
  cases hx
  refine ⟨fun h => by simp [hsame] at h, fun _ => ⟨.leaf [([0, 1], some 2), ([3, 4], none)] [0], by kernel_rfl, ?_⟩⟩
  refine ⟨_, toCode_ec K6 p q r c (hA.mono eB).rd (by omega) (by omega) (by omega), ?_, fun v K hR => by cases hR.1⟩
  rintro _ K7 ⟨hx, hK⟩
  cases hx
  obtain ⟨e7, o7, n7⟩ := pushC_own hK
  clear hK
  refine ⟨_, eqCode_pc K7 _ _ _ _ _ _ c c (o4.mono ((e5.trans e6).trans e7)).rd o7.rd (by omega) (by omega) (by omega), fun h => by simp at h, fun _ => ?_⟩
  refine ⟨_, toFloat64SS_ec K7 a fs (hB.mono (eB.trans e7)).rd (by omega) (by omega), ?_, fun v K hR => by obtain ⟨_, h, _⟩ := hR; cases h⟩
  rintro _ K8 ⟨f8, hx, s8, o8, e8⟩
  cases hx
  refine ⟨_, eqFloat64SS_pc K8 _ _ f5 f8 (o5.mono ((e6.trans e7).trans e8)).rd o8.rd (by omega) (by omega), ?_, fun v K hR => by cases hR.1⟩
  rintro _ K8 ⟨hx, rfl⟩
  cases hx
  have h58 : snds f5 = snds f8 := s5.trans s8.symm
  refine ⟨fun h => by simp [h58] at h, fun _ => ?_⟩
  -- marks
  have e78 := e7.trans e8
  have m1 := e1.next
  have m2 := e2.next
  have m3 := e3.next
  have m4 := e4.next
  have m5 := e5.next
  have m6 := e6.next
  have x0 := o4.mono ((e5.trans e6).trans e78)
  have x1 := o5.mono (e6.trans e78)
  have hx1 : ∀ e ∈ f5, ∀ b o, e.1 = some ⟨b, o, none⟩ → b < K5.next := fun e he b o hb => ((o5.inn e he).lt hb).2
  have hc1 : ∀ e ∈ ec, ∀ b o, e.1 = some ⟨b, o, none⟩ → b < K6.next := fun e he b o hb => ((oc.inn e he).lt hb).2
  have qw := qw.mono (e46.trans e78)
  have xc := oc.mono e78
  have qA := hA.mono (eB.trans e78)
  have qB := hB.mono (eB.trans e78)
  refine ⟨_, markCode_ec K8 _ _ _ _ _ c 1 x0 (by omega) (by omega) (by omega) (by omega) (by omega), ?_, fun v K hR => by cases hR.1⟩
  rintro _ K9 ⟨hx, _, t9⟩
  cases hx
  have hgk : 0 ≤ mkCk 1 c ∧ mkCk 1 c ≤ 20000000 := by unfold mkCk; omega
  have x1 := x1.out_ t9 (by omega)
  have xc := xc.out_ t9 (by omega)
  have qw := qw.out_ t9 (by omega)
  have qA := qA.out t9 (by omega)
  have qB := qB.out_ t9 (by omega)
  refine ⟨_, markFloat64SS_ec K9 _ K5.next _ f5 (mkCk 1 c) x1 hx1 (by omega) (by omega) (by omega) (by omega), ?_, fun v K hR => by cases hR.1⟩
  rintro _ K10 ⟨hx, _, t10⟩
  cases hx
  have xc := xc.out_ t10 (by omega)
  have qw := qw.out_ t10 (by omega)
  have qA := qA.out t10 (by omega)
  have qB := qB.out_ t10 (by omega)
  refine ⟨_, fun _ => eqFloat64SS_pc K10 _ _ ec ew xc.rd qw.rd (by omega) (by omega), fun h => ?_, fun _ => ?_⟩
  · simp [hsame] at h; omega
  refine ⟨_, markFloat64SS_ec K10 _ K6.next _ ec 1 xc hc1 (by omega) (by omega) (by omega) (by omega), ?_, fun v K hR => by cases hR.1⟩
  rintro _ K11 ⟨hx, xc11, t11⟩
  cases hx
  have qw := qw.out_ t11 (by omega)
  have qA := qA.out t11 (by omega)
  have qB := qB.out_ t11 (by omega)
  refine ⟨_, heldFloat64SS_pc K11 _ ec 1 xc11.rd (by omega) (by omega) (by omega) (by omega), ?_, fun v K hR => by cases hR.1⟩
  rintro _ K11 ⟨hx, rfl⟩
  cases hx
  refine ⟨fun h => by simp at h; omega, fun _ => ⟨fun h => by simp at h, fun _ => ?_⟩⟩
  refine ⟨_, toCode_ec K11 p q r c qA.rd (by omega) (by omega) (by omega), ?_, fun v K hR => by cases hR.1⟩
  rintro _ K12 ⟨hx, hK⟩
  cases hx
  obtain ⟨e12, o12, n12⟩ := pushC_own hK
  clear hK
  refine ⟨_, toFloat64SS_ec K12 a fs (qB.mono e12).rd (by omega) (by omega), ?_, fun v K hR => by obtain ⟨_, h, _⟩ := hR; cases h⟩
  rintro _ K13 ⟨f13, hx, s13, o13, e13⟩
  cases hx
  have t13 := tot_snds s13
  have l13 : f13.length = fs.length := by simpa using congrArg List.length s13
  refine ⟨_, implRun_ec K13 _ _ _ _ c f13 (o12.mono e13).rd o13.rd (by omega) (by omega) (by omega) (by omega) (fun e he => by have := tot_mem he; omega), ?_, fun v K hR => by obtain ⟨_, _, h, _⟩ := hR; cases h⟩
  rintro _ K14 ⟨d, ed, hx, sd, e14, od⟩
  rw [s13] at sd hx
  cases hx
  have hsz3 := runR_size sd
  have eE := (e12.trans e13).trans e14
  have hsame2 : snds ed = snds ew := sd.trans sw.symm
  refine ⟨_, eqFloat64SS_pc K14 _ _ ed ew od.rd (qw.mono eE).rd (by omega) (by omega), ?_, fun v K hR => by cases hR.1⟩
  rintro _ K14 ⟨hx, rfl⟩
  cases hx
  refine ⟨fun h => by simp [hsame2] at h, fun _ => ?_⟩
  refine ⟨_, heldFloat64SS_pc K14 _ ec 1 (xc11.mono eE).rd (by omega) (by omega) (by omega) (by omega), ?_, fun v K hR => by cases hR.1⟩
  rintro _ K14 ⟨hx, rfl⟩
  cases hx
  exact ⟨fun h => by simp at h; omega, fun _ => ⟨fun h => by simp at h, fun _ => rfl⟩⟩
end Go.Proofs.Ytanlmmfnpncpbaa
