/- Kernel, the program's side. Conditions: lists of at most 2^20 elements. -/
import Derived.Test.YtjmobjiaoklfdaaKerb
set_option linter.unusedVariables false
set_option linter.unusedSimpArgs false
namespace Go.Proofs.Ytjmobjiaoklfdaa
open Go.Am

theorem kpre_eq {v : Val} {xs ys zs rs : List Nat} {n : Nat} (h : rs.length = n) (h' : ∀ i (hi : i < n), rs[i]'(by omega) = kel v xs ys zs i) : rs = kpre v xs ys zs n := by
  apply List.ext_getElem
  · simp [h]
  · intro i h1 h2
    rw [h' i (by omega)]
    simp [kpre]
theorem kel_yes {v : Val} (he : eachB v.op = true) (xs ys zs : List Nat) (i : Nat) : kel v xs ys zs i = one v.op ((xs[i]?).getD 0) (if 1 < opnd v.op then (ys[i]?).getD 0 else 0) (if 2 < opnd v.op then (zs[i]?).getD 0 else 0) := by
  unfold kel; rw [if_pos he]
theorem kel_not {v : Val} (he : eachB v.op = false) (xs ys zs : List Nat) (i : Nat) : kel v xs ys zs i = if v.op = 9 then fsum xs else if v.op = 10 then (xs[0]?).getD 0 else if v.op = 11 then (xs[v.c.toNat]?).getD 0 else if v.op = 12 then (if (i : Int) = v.c then (xs[0]?).getD 0 else 0) else v.k := by
  unfold kel; rw [if_neg (by rw [he]; simp)]
theorem Buf.push (H : Heap) (rs : List Nat) : Buf dFlt (H.push (.cells (flat dFlt rs) dFlt.sz true)) H.next (some ⟨H.next, 0, none⟩) rs := .blk (Nat.le_refl _) (push_blk _ _)
theorem filled_ec' (H : Heap) (n : Int) (x : Nat) (h0 : 0 ≤ n) (hn : n ≤ 1048576) :
    EC Try.prog 69 [.int .i64 n, .float .f64 x] H fun r H' => r = .ret (sv (some ⟨H.next, 0, none⟩) (List.replicate n.toNat x)) ∧ H' = H.push (.cells (flat dFlt (List.replicate n.toNat x)) dFlt.sz true) := by
  have := filled_ec H n.toNat x (by omega)
  rw [Int.toNat_of_nonneg h0] at this
  exact this

def KR (H : Heap) (v : Val) (xs ys zs : List Nat) (r : AEnd) (H' : Heap) : Prop := ∃ o, r = .ret (sv o (kern v xs ys zs)) ∧ Ext H H' ∧ Buf dFlt H' H.next o (kern v xs ys zs)
theorem KR.push {H : Heap} {v : Val} {xs ys zs rs : List Nat} (h : kern v xs ys zs = rs) : KR H v xs ys zs (.ret (sv (some ⟨H.next, 0, none⟩) rs)) (H.push (.cells (flat dFlt rs) dFlt.sz true)) := by
  unfold KR
  rw [h]; exact ⟨_, rfl, Ext.push _ _, Buf.push _ _⟩

set_option maxHeartbeats 1000000 in
theorem implKernel_ec (H : Heap) (a b c : Option Addr) (v : Val) (xs ys zs : List Nat) (h : Rd dFlt H a xs) (h' : Rd dFlt H b ys) (h'' : Rd dFlt H c zs) (hl : xs.length ≤ 1048576) (hl' : ys.length ≤ 1048576) (hl'' : zs.length ≤ 1048576) :
    EC Try.prog 70 [valV v, sv a xs, sv b ys, sv c zs] H (KR H v xs ys zs) := by
  refine EC_fn ctx (fun _ => true) Try.func70 rfl rfl rfl ?_
  refine ⟨_, lenOk_pc H _, ?_, fun v K hR => by cases hR.1⟩
  rintro _ K ⟨hx, rfl⟩
  cases hx
  refine ⟨_, fun hq => fits_all K v xs.length ys.length zs.length ?_, fun hf => ?_, fun hf => ?_⟩
  · simp at hq; exact hq.1
  · have hk : kern v xs ys zs = [] := by
      unfold kern kOK
      rw [if_neg]
      intro e
      have e1 := e
      simp only [Bool.and_eq_true] at e
      have e2 : (1 ≤ v.op ∧ v.op ≤ 13) ∧ okLen v.len = true := by simpa [headB] using e.1
      rw [e1, e2.2] at hf
      simp at hf
      omega
    exact ⟨none, by rw [hk]; rfl, Ext.refl _, by rw [hk]; exact .nil⟩
  have hfit : (headB v && fitsB v xs.length ys.length zs.length) = true := by
    cases hq : (headB v && fitsB v xs.length ys.length zs.length) with
    | true => rfl
    | false => rw [hq] at hf; simp at hf
  clear hf
  have hk : kern v xs ys zs = kpre v xs ys zs v.len.toNat := by unfold kern kOK; rw [if_pos hfit]
  rw [Bool.and_eq_true] at hfit
  obtain ⟨hhead, hfit⟩ := hfit
  have hhd : (1 ≤ v.op ∧ v.op ≤ 13) ∧ 1 ≤ v.len ∧ v.len ≤ 1000 := by simpa [headB, okLen] using hhead
  refine ⟨fun h1 => ?_, fun h1 => ⟨fun h6 => ?_, fun h6 => ⟨fun h13 => ?_, fun h13 => ⟨fun h8 => ?_, fun h8 => ⟨fun h9 => ?_, fun h9 => ⟨fun h10 => ?_, fun h10 => ⟨fun h11 => ?_, fun h11 => ⟨fun h12 => ?_, fun h12 => ?_⟩⟩⟩⟩⟩⟩⟩⟩
  · have e1 : v.op = 1 := by simpa using h1
    refine ⟨_, filled_ec' K v.len v.k (by omega) (by omega), ?_, fun v K hR => by cases hR.1⟩
    rintro _ _ ⟨hx, rfl⟩
    cases hx
    refine KR.push (hk.trans (kpre_eq (by simp) fun i hi => ?_).symm)
    have he : eachB v.op = false := by rw [e1]; decide
    rw [kel_not he]; simp [e1]
  · have e6 : v.op = 6 := by simpa using h6
    have he : eachB v.op = true := by rw [e6]; decide
    obtain ⟨q1, _, _⟩ := each_fits he hfit
    refine ⟨_, mapped_ec K a xs _ fneg kerNeg_pc h hl, ?_, fun v K hR => by cases hR.1⟩
    rintro _ _ ⟨hx, rfl⟩
    cases hx
    refine KR.push (hk.trans (kpre_eq (by simp; omega) fun i hi => ?_).symm)
    have hi' : i < xs.length := by omega
    rw [kel_yes he]; simp [hi', e6, one]
  · have e13 : v.op = 13 := by simpa using h13
    have he : eachB v.op = true := by rw [e13]; decide
    obtain ⟨q1, _, _⟩ := each_fits he hfit
    refine ⟨_, mapped_ec K a xs _ expF implExp_pc h hl, ?_, fun v K hR => by cases hR.1⟩
    rintro _ _ ⟨hx, rfl⟩
    cases hx
    refine KR.push (hk.trans (kpre_eq (by simp; omega) fun i hi => ?_).symm)
    have hi' : i < xs.length := by omega
    rw [kel_yes he]; simp [hi', e13, one]
  · have e8 : v.op = 8 := by simpa using h8
    have he : eachB v.op = true := by rw [e8]; decide
    obtain ⟨q1, q2, q3⟩ := each_fits he hfit
    have q2 := q2 (by rw [e8]; decide)
    have q3 := q3 (by rw [e8]; decide)
    have hkl : (kpre v xs ys zs v.len.toNat).length = xs.length := by simp; omega
    refine ⟨_, chosen_ec K a b c xs ys zs h h' h'' hl (by omega) (by omega) (kpre v xs ys zs v.len.toNat) hkl (fun i hi => ?_), ?_, fun v K hR => by cases hR.1⟩
    · have hy : i < ys.length := by omega
      have hz : i < zs.length := by omega
      have o1 : 1 < opnd v.op := by rw [e8]; decide
      have o2 : 2 < opnd v.op := by rw [e8]; decide
      simp [kpre, kel, he, hi, hy, hz, o1, o2]
      simp [one, e8]
    rintro _ _ ⟨hx, rfl⟩
    cases hx
    exact KR.push hk
  · have e9 : v.op = 9 := by simpa using h9
    have he : eachB v.op = false := by rw [e9]; decide
    have hfx : v.len = 1 ∧ (1 ≤ (xs.length : Int) ∧ (xs.length : Int) ≤ 1000) := by rw [fitsB, if_neg (by rw [he]; simp), if_pos e9] at hfit; simpa [okLen] using hfit
    obtain ⟨p, q, rfl, hc⟩ := h.cell (List.getElem?_eq_getElem (show 0 < xs.length by omega))
    have hsub : Rd dFlt K (some ⟨p, q + 1 * dFlt.sz, none⟩) ((xs.drop 1).take (xs.length - 1)) := h.sub (by omega)
    rw [List.take_of_length_le (by simp)] at hsub
    refine ⟨⟨by omega, by omega⟩, _, hc, ⟨by omega, by omega, by omega, h.ez (by omega)⟩, ?_⟩
    refine loop_ind ctx (fun _ => true) (fun m E K' => ∃ k, k ≤ xs.length - 1 ∧ m = xs.length - 1 - k ∧ E = ⟨[(9, .float .f64 (((xs.drop 1).take k).foldl (fop .add) xs[0])), (62, .slice (some ⟨p, q + 1 * 1, none⟩) (xs.length - 1) (xs.length - 1)), (63, .int .i64 ((xs.length - 1 : Nat) : Int)), (64, .int .i64 k)], [vcells v]⟩ ∧ K' = K)
      ⟨0, Nat.zero_le _, rfl, rfl, rfl⟩ (by (refine ⟨?_, ?_⟩ <;> repeat' first | exact trivial | exact congrArg (fun x => some (Value.int .i64 x)) (wrap_nat (by omega)) | exact sv_eq (by simp; done) | exact rfl | refine ⟨?_, ?_⟩ | fail)) ?_
    rintro m E K' ⟨k, hkl, rfl, rfl, rfl⟩
    refine ⟨fun hlt => ?_, fun hge => ?_⟩
    · have hlt : k < xs.length - 1 := by simpa using hlt
      have hdl : k < (xs.drop 1).length := by simp; omega
      obtain ⟨p', q', hq, hcc⟩ := hsub.cell (List.getElem?_eq_getElem hdl)
      cases hq
      refine ⟨⟨by omega, by omega⟩, _, hcc, ?_⟩
      exact ⟨xs.length - 1 - (k + 1), ⟨[(9, .float .f64 (((xs.drop 1).take (k + 1)).foldl (fop .add) xs[0])), (62, .slice (some ⟨p, q + 1 * 1, none⟩) (xs.length - 1) (xs.length - 1)), (63, .int .i64 ((xs.length - 1 : Nat) : Int)), (64, .int .i64 ((k + 1 : Nat) : Int))], [vcells v]⟩, by omega,
        ⟨⟨congrArg (fun x => some (Value.float .f64 x)) (by rw [List.take_succ_eq_append_getElem hdl, List.foldl_append]; rfl), trivial, rfl, trivial, rfl, trivial, congrArg (fun x => some (Value.int .i64 x)) (wrap_nat (by omega)), trivial, trivial⟩, by (refine ⟨?_, ?_⟩ <;> repeat' first | exact trivial | exact congrArg (fun x => some (Value.int .i64 x)) (wrap_nat (by omega)) | exact sv_eq (by simp; done) | exact rfl | refine ⟨?_, ?_⟩ | fail)⟩, k + 1, by omega, rfl, rfl, rfl⟩
    · have hkk : k = xs.length - 1 := by simp at hge; omega
      subst hkk
      rw [List.take_of_length_le (by simp)]
      have hfs : (xs.drop 1).foldl (fop .add) xs[0] = fsum xs := by
        cases xs with
        | nil => simp at hfx
        | cons x r => rfl
      rw [hfs]
      refine KR.push (rs := [fsum xs]) (hk.trans (kpre_eq (by simp; omega) fun i hi => ?_).symm)
      have : i = 0 := by omega
      subst this
      rw [kel_not he]; simp [e9]
  · have e10 : v.op = 10 := by simpa using h10
    have he : eachB v.op = false := by rw [e10]; decide
    have hfx : (xs.length : Int) = 1 := by rw [fitsB, if_neg (by rw [he]; simp), if_neg (by omega), if_neg (by omega), if_pos e10] at hfit; simpa using hfit
    obtain ⟨p, q, rfl, hc⟩ := h.cell (List.getElem?_eq_getElem (show 0 < xs.length by omega))
    refine ⟨.leaf [([0, 1, 2, 3, 4], some 5), ([6], none)] [], by kernel_rfl, ⟨by omega, by omega⟩, _, hc, _, filled_ec' K v.len xs[0] (by omega) (by omega), ?_, fun v K hR => by cases hR.1⟩
    rintro _ _ ⟨hx, rfl⟩
    cases hx
    refine KR.push (hk.trans (kpre_eq (by simp) fun i hi => ?_).symm)
    have hx0 : 0 < xs.length := by omega
    rw [kel_not he]; simp [e10, hx0]
  · have e11 : v.op = 11 := by simpa using h11
    have he : eachB v.op = false := by rw [e11]; decide
    have hfx : (v.len = 1 ∧ 1 ≤ (xs.length : Int) ∧ (xs.length : Int) ≤ 1000) ∧ 0 ≤ v.c ∧ v.c < xs.length := by rw [fitsB, if_neg (by rw [he]; simp), if_neg (by omega), if_pos e11] at hfit; simpa [okLen] using hfit
    have hcl : v.c.toNat < xs.length := by omega
    obtain ⟨p, q, rfl, hc⟩ := h.cell (List.getElem?_eq_getElem hcl)
    refine ⟨⟨by omega, by omega⟩, _, hc, ?_⟩
    refine KR.push (rs := [xs[v.c.toNat]]) (hk.trans (kpre_eq (by simp; omega) fun i hi => ?_).symm)
    have : i = 0 := by omega
    subst this
    rw [kel_not he]; simp [e11, hcl]
  · have e12 : v.op = 12 := by simpa using h12
    have he : eachB v.op = false := by rw [e12]; decide
    have hfx : (xs.length : Int) = 1 ∧ 0 ≤ v.c ∧ v.c < v.len := by rw [fitsB, if_neg (by rw [he]; simp), if_neg (by omega), if_neg (by omega), if_neg (by omega), if_pos e12] at hfit; exact of_decide_eq_true hfit
    refine ⟨_, filled_ec' K v.len 0 (by omega) (by omega), ?_, fun v K hR => by cases hR.1⟩
    rintro _ _ ⟨hx, rfl⟩
    cases hx
    obtain ⟨p, q, rfl, hc⟩ := (h.mono (Ext.push K (.cells (flat dFlt (List.replicate v.len.toNat 0)) dFlt.sz true))).cell (List.getElem?_eq_getElem (show 0 < xs.length by omega))
    have hcl : v.c.toNat < (List.replicate v.len.toNat 0).length := by simp; omega
    have hrl : (List.replicate v.len.toNat 0).length = v.len.toNat := by simp
    refine ⟨.leaf [([0, 1, 2, 3, 4, 5, 6], some 7), ([], none)] [], by kernel_rfl, ⟨by omega, by omega⟩, _, hc, ⟨by omega, by rw [hrl]; omega⟩, stOK_elem dFlt K _ hcl (Nat.zero_add _) rfl, ?_⟩
    have hst := stor_elem dFlt K (List.replicate v.len.toNat 0) xs[0] hcl (o := 0 + v.c.toNat * 1) (l := [.float .f64 xs[0]]) (Nat.zero_add _) rfl
    have hkk : kern v xs ys zs = (List.replicate v.len.toNat 0).set v.c.toNat xs[0] := by
      refine hk.trans (kpre_eq (by simp) fun i hi => ?_).symm
      have hx0 : 0 < xs.length := by omega
      rw [List.getElem_set]
      by_cases hic : v.c.toNat = i
      · subst hic
        have : ((v.c.toNat : Nat) : Int) = v.c := by omega
        rw [kel_not he]; simp [e12, this, hx0]
      · have : ¬ (i : Int) = v.c := by omega
        rw [kel_not he]; simp [e12, this, hic]
    refine ⟨some ⟨K.next, 0, none⟩, ?_, ?_, ?_⟩
    · rw [hkk]; exact ret_sv (by simp)
    · show Ext K ((K.push _).stor K.next (0 + v.c.toNat * 1) [.float .f64 xs[0]])
      rw [hst]; exact Ext.push _ _
    · show Buf dFlt ((K.push _).stor K.next (0 + v.c.toNat * 1) [.float .f64 xs[0]]) _ _ _
      rw [hst, hkk]; exact Buf.push _ _
  · have hop : v.op = 2 ∨ v.op = 3 ∨ v.op = 4 ∨ v.op = 5 ∨ v.op = 7 := by simp at h1 h6 h13 h8 h9 h10 h11 h12; omega
    have he : eachB v.op = true := by simp [eachB]; omega
    obtain ⟨q1, q2, _⟩ := each_fits he hfit
    have ho : opnd v.op = 2 := by simp [opnd]; omega
    have q2 := q2 (by omega)
    have hkl : (kpre v xs ys zs v.len.toNat).length = xs.length := by simp; omega
    refine ⟨_, two_pc v.op K, ?_, fun v K hR => by cases hR.1⟩
    rintro _ K ⟨hx, rfl⟩
    cases hx
    refine ⟨_, zipped_ec K a b xs ys (twoF v.op) (fun x y => one v.op x y 0) (fun x y K => twoF_pc v.op hop x y 0 K) h h' hl (by omega) (kpre v xs ys zs v.len.toNat) hkl (fun i hi => ?_), ?_, fun v K hR => by cases hR.1⟩
    · have hy : i < ys.length := by omega
      simp [kpre, kel, he, hi, hy, ho]
    rintro _ _ ⟨hx, rfl⟩
    cases hx
    exact KR.push hk
end Go.Proofs.Ytjmobjiaoklfdaa
