/- Kernel, both sides. Conditions: lists of at most 2^20 elements. -/
import Derived.Test.YtjmobjiaoklfdaaKeri
set_option linter.unusedVariables false
set_option linter.unusedSimpArgs false
namespace Go.Proofs.Ytjmobjiaoklfdaa
open Go.Am

def kel (v : Val) (xs ys zs : List Nat) (i : Nat) : Nat :=
  if eachB v.op then one v.op ((xs[i]?).getD 0) (if 1 < opnd v.op then (ys[i]?).getD 0 else 0) (if 2 < opnd v.op then (zs[i]?).getD 0 else 0)
  else if v.op = 9 then fsum xs else if v.op = 10 then (xs[0]?).getD 0 else if v.op = 11 then (xs[v.c.toNat]?).getD 0 else if v.op = 12 then (if (i : Int) = v.c then (xs[0]?).getD 0 else 0) else v.k
def kpre (v : Val) (xs ys zs : List Nat) (n : Nat) : List Nat := (List.range n).map (kel v xs ys zs)
@[simp] theorem kpre_len (v : Val) (xs ys zs : List Nat) (n : Nat) : (kpre v xs ys zs n).length = n := by simp [kpre]
theorem kpre_succ (v : Val) (xs ys zs : List Nat) (n : Nat) : kpre v xs ys zs (n + 1) = kpre v xs ys zs n ++ [kel v xs ys zs n] := by simp [kpre, List.range_succ]
def kOK (v : Val) (xs ys zs : List Nat) : Bool := headB v && fitsB v xs.length ys.length zs.length
def kern (v : Val) (xs ys zs : List Nat) : List Nat := if kOK v xs ys zs then kpre v xs ys zs v.len.toNat else []

abbrev kE (a b c : Option Addr) (xs ys zs : List Nat) (v : Val) (o : Option Addr) (k : Nat) : Env := ⟨[(1, sv a xs), (2, sv b ys), (3, sv c zs), (4, .pointer (some ⟨0, 0, some 0⟩)), (9, sv o (kpre v xs ys zs k)), (10, .int .i64 k)], [vcells v]⟩

theorem each_fits {v : Val} {x y z : Int} (he : eachB v.op = true) (h : fitsB v x y z = true) : x = v.len ∧ (2 ≤ opnd v.op → y = v.len) ∧ (3 ≤ opnd v.op → z = v.len) := by
  rw [fitsB, if_pos he] at h; exact of_decide_eq_true h

set_option maxHeartbeats 1000000 in
theorem specKernel_ec (H : Heap) (a b c : Option Addr) (v : Val) (xs ys zs : List Nat) (h : Rd dFlt H a xs) (h' : Rd dFlt H b ys) (h'' : Rd dFlt H c zs) (hl : xs.length ≤ 1048576) (hl' : ys.length ≤ 1048576) (hl'' : zs.length ≤ 1048576) :
    EC Try.prog 60 [valV v, sv a xs, sv b ys, sv c zs] H fun r H' => ∃ o, r = .ret (sv o (kern v xs ys zs)) ∧ Ext H H' ∧ Buf dFlt H' H.next o (kern v xs ys zs) := by
  refine EC_fn ctx (fun _ => true) Try.func60 rfl rfl rfl ?_
  refine ⟨_, l1fits_all H v xs.length ys.length zs.length, ?_, fun v K hR => by cases hR.1⟩
  rintro _ K0 ⟨hx, rfl⟩
  cases hx
  refine ⟨fun hf => ?_, fun hf => ?_⟩
  · have hk : kern v xs ys zs = [] := by unfold kern kOK; rw [if_neg (fun e => by rw [e] at hf; cases hf)]
    rw [hk]
    exact ⟨none, rfl, Ext.refl _, .nil⟩
  have hfit : (headB v && fitsB v xs.length ys.length zs.length) = true := by simpa using hf
  have hk : kern v xs ys zs = kpre v xs ys zs v.len.toNat := by unfold kern kOK; rw [if_pos hfit]
  rw [Bool.and_eq_true] at hfit
  obtain ⟨hhead, hfit⟩ := hfit
  have hhd : (1 ≤ v.op ∧ v.op ≤ 13) ∧ 1 ≤ v.len ∧ v.len ≤ 1000 := by simpa [headB, okLen] using hhead
  rw [hk]
  refine loop_ind ctx (fun _ => true) (fun m E K => ∃ k o, k ≤ v.len.toNat ∧ m = v.len.toNat - k ∧ E = kE a b c xs ys zs v o k ∧ Ext K0 K ∧ Buf dFlt K K0.next o (kpre v xs ys zs k))
    ⟨0, none, Nat.zero_le _, rfl, rfl, Ext.refl _, .nil⟩ (by (refine ⟨?_, ?_⟩ <;> repeat' first | exact trivial | exact congrArg (fun x => some (Value.int .i64 x)) (wrap_nat (by omega)) | exact sv_eq (by simp; done) | exact rfl | refine ⟨?_, ?_⟩ | fail)) ?_
  rintro m E K ⟨k, o, hkl, rfl, rfl, he, hb⟩
  refine ⟨fun hlt => ?_, fun hge => ?_⟩
  · have hlt : k < v.len.toNat := by simp at hlt; omega
    have hbl := kpre_len v xs ys zs k
    have hA := h.mono he
    have hB := h'.mono he
    have hC := h''.mono he
    refine ⟨_, l1each_pc K _, ?_, fun v K hR => by cases hR.1⟩
    rintro _ K ⟨hx, rfl⟩
    cases hx
    refine ⟨fun hea => ?_, fun hea => ⟨fun h9 => ?_, fun h9 => ⟨fun h10 => ?_, fun h10 => ⟨fun h11 => ?_, fun h11 => ⟨fun h12 => ⟨fun hi => ?_, fun hi => ?_⟩, fun h12 => ?_⟩⟩⟩⟩⟩
    · obtain ⟨e1, e2, e3⟩ := each_fits hea hfit
      have hxl : k < xs.length := by omega
      obtain ⟨p, q, rfl, hc⟩ := hA.cell (List.getElem?_eq_getElem hxl)
      refine ⟨⟨by omega, by omega⟩, _, hc, _, l1operands_pc K _, ?_, fun v K hR => by cases hR.1⟩
      rintro _ K ⟨hx, rfl⟩
      cases hx
      refine ⟨fun ho => ?_, fun ho => ?_⟩
      · have ho : 1 < opnd v.op := by simpa using ho
        obtain ⟨p', q', rfl, hc'⟩ := hB.cell (List.getElem?_eq_getElem (show k < ys.length by have := e2 (by omega); omega))
        refine ⟨⟨by omega, by have := e2 (by omega); omega⟩, _, hc', _, l1operands_pc K _, ?_, fun v K hR => by cases hR.1⟩
        rintro _ K ⟨hx, rfl⟩
        cases hx
        refine ⟨fun ho2 => ?_, fun ho2 => ?_⟩
        · have ho2 : 2 < opnd v.op := by simpa using ho2
          have hzl : k < zs.length := by have := e3 (by omega); omega
          obtain ⟨p'', q'', rfl, hc''⟩ := hC.cell (List.getElem?_eq_getElem hzl)
          refine ⟨⟨by omega, by omega⟩, _, hc'', _, l1one_pc _ _ _ _ K, ?_, fun v K hR => by cases hR.1⟩
          rintro _ K ⟨hx, rfl⟩
          cases hx
          have hyl : k < ys.length := by have := e2 (by omega); omega
          have hke : kel v xs ys zs k = one v.op xs[k] ys[k] zs[k] := by unfold kel; rw [if_pos hea, if_pos ho, if_pos ho2]; simp [hxl, hyl, hzl]
          refine ⟨_, run_push _ _ _ _ (by simp), by dsimp only; omega, by dsimp only; omega, _, (hb.mono (Ext.push _ _)).own, ?_⟩
          refine ⟨v.len.toNat - (k + 1), kE _ _ _ xs ys zs v (some ⟨K.next + 1, 0, none⟩) (k + 1), by omega, by (refine ⟨?_, ?_⟩ <;> repeat' first | exact trivial | exact congrArg (fun x => some (Value.int .i64 x)) (wrap_nat (by omega)) | exact sv_eq (by simp; done) | exact rfl | refine ⟨?_, ?_⟩ | fail), k + 1, _, by omega, rfl, rfl, ((hb.mono (Ext.push _ _)).killO (he.push' _) (Nat.le_refl _)).push' _, ?_⟩
          rw [kpre_succ, hke]
          exact (hb.mono (Ext.push _ _)).app rfl (Nat.le_trans he.next (Nat.le_succ _))
        · have ho2 : ¬ 2 < opnd v.op := by simpa using ho2
          refine ⟨_, l1one_pc _ _ _ _ K, ?_, fun v K hR => by cases hR.1⟩
          rintro _ K ⟨hx, rfl⟩
          cases hx
          have hyl : k < ys.length := by have := e2 (by omega); omega
          have hke : kel v xs ys zs k = one v.op xs[k] ys[k] 0 := by unfold kel; rw [if_pos hea, if_pos ho, if_neg ho2]; simp [hxl, hyl]
          refine ⟨_, run_push _ _ _ _ (by simp), by dsimp only; omega, by dsimp only; omega, _, (hb.mono (Ext.push _ _)).own, ?_⟩
          refine ⟨v.len.toNat - (k + 1), kE _ _ _ xs ys zs v (some ⟨K.next + 1, 0, none⟩) (k + 1), by omega, by (refine ⟨?_, ?_⟩ <;> repeat' first | exact trivial | exact congrArg (fun x => some (Value.int .i64 x)) (wrap_nat (by omega)) | exact sv_eq (by simp; done) | exact rfl | refine ⟨?_, ?_⟩ | fail), k + 1, _, by omega, rfl, rfl, ((hb.mono (Ext.push _ _)).killO (he.push' _) (Nat.le_refl _)).push' _, ?_⟩
          rw [kpre_succ, hke]
          exact (hb.mono (Ext.push _ _)).app rfl (Nat.le_trans he.next (Nat.le_succ _))
      · have ho : ¬ 1 < opnd v.op := by simpa using ho
        refine ⟨_, l1operands_pc K _, ?_, fun v K hR => by cases hR.1⟩
        rintro _ K ⟨hx, rfl⟩
        cases hx
        refine ⟨fun ho2 => ?_, fun ho2 => ?_⟩
        · have ho2 : 2 < opnd v.op := by simpa using ho2
          omega
        refine ⟨_, l1one_pc _ _ _ _ K, ?_, fun v K hR => by cases hR.1⟩
        rintro _ K ⟨hx, rfl⟩
        cases hx
        have hke : kel v xs ys zs k = one v.op xs[k] 0 0 := by unfold kel; rw [if_pos hea, if_neg ho, if_neg (by omega)]; simp [hxl]
        refine ⟨_, run_push _ _ _ _ (by simp), by dsimp only; omega, by dsimp only; omega, _, (hb.mono (Ext.push _ _)).own, ?_⟩
        refine ⟨v.len.toNat - (k + 1), kE _ _ _ xs ys zs v (some ⟨K.next + 1, 0, none⟩) (k + 1), by omega, by (refine ⟨?_, ?_⟩ <;> repeat' first | exact trivial | exact congrArg (fun x => some (Value.int .i64 x)) (wrap_nat (by omega)) | exact sv_eq (by simp; done) | exact rfl | refine ⟨?_, ?_⟩ | fail), k + 1, _, by omega, rfl, rfl, ((hb.mono (Ext.push _ _)).killO (he.push' _) (Nat.le_refl _)).push' _, ?_⟩
        rw [kpre_succ, hke]
        exact (hb.mono (Ext.push _ _)).app rfl (Nat.le_trans he.next (Nat.le_succ _))
    · have e9 : v.op = 9 := by simpa using h9
      have hne : eachB v.op = false := hea
      have hfx : v.len = 1 ∧ (1 ≤ (xs.length : Int) ∧ (xs.length : Int) ≤ 1000) := by rw [fitsB, if_neg (by rw [hne]; simp), if_pos e9] at hfit; simpa [okLen] using hfit
      refine ⟨_, l1sum_pc (xs.length - 1) _ xs K (by omega) hl hA, ?_, fun v K hR => by cases hR.1⟩
      rintro _ K ⟨hx, rfl⟩
      cases hx
      have hke : kel v xs ys zs k = fsum xs := by unfold kel; rw [if_neg (by rw [hne]; simp), if_pos e9]
      refine ⟨_, run_push _ _ _ _ (by simp), by dsimp only; omega, by dsimp only; omega, _, (hb.mono (Ext.push _ _)).own, ?_⟩
      refine ⟨v.len.toNat - (k + 1), kE _ _ _ xs ys zs v (some ⟨K.next + 1, 0, none⟩) (k + 1), by omega, by (refine ⟨?_, ?_⟩ <;> repeat' first | exact trivial | exact congrArg (fun x => some (Value.int .i64 x)) (wrap_nat (by omega)) | exact sv_eq (by simp; done) | exact rfl | refine ⟨?_, ?_⟩ | fail), k + 1, _, by omega, rfl, rfl, ((hb.mono (Ext.push _ _)).killO (he.push' _) (Nat.le_refl _)).push' _, ?_⟩
      rw [kpre_succ, hke]
      exact (hb.mono (Ext.push _ _)).app rfl (Nat.le_trans he.next (Nat.le_succ _))
    · have e9 : ¬ v.op = 9 := by simpa using h9
      have e10 : v.op = 10 := by simpa using h10
      have hne : eachB v.op = false := hea
      have hfx : (xs.length : Int) = 1 := by rw [fitsB, if_neg (by rw [hne]; simp), if_neg e9, if_neg (by omega), if_pos e10] at hfit; simpa using hfit
      obtain ⟨p, q, rfl, hc⟩ := hA.cell (List.getElem?_eq_getElem (show 0 < xs.length by omega))
      refine ⟨⟨by omega, by omega⟩, _, hc, ?_⟩
      have hke : kel v xs ys zs k = xs[0] := by unfold kel; rw [if_neg (by rw [hne]; simp), if_neg e9, if_pos e10, List.getElem?_eq_getElem (by omega)]; rfl
      refine ⟨_, run_push _ _ _ _ (by simp), by dsimp only; omega, by dsimp only; omega, _, (hb.mono (Ext.push _ _)).own, ?_⟩
      refine ⟨v.len.toNat - (k + 1), kE _ _ _ xs ys zs v (some ⟨K.next + 1, 0, none⟩) (k + 1), by omega, by (refine ⟨?_, ?_⟩ <;> repeat' first | exact trivial | exact congrArg (fun x => some (Value.int .i64 x)) (wrap_nat (by omega)) | exact sv_eq (by simp; done) | exact rfl | refine ⟨?_, ?_⟩ | fail), k + 1, _, by omega, rfl, rfl, ((hb.mono (Ext.push _ _)).killO (he.push' _) (Nat.le_refl _)).push' _, ?_⟩
      rw [kpre_succ, hke]
      exact (hb.mono (Ext.push _ _)).app rfl (Nat.le_trans he.next (Nat.le_succ _))
    · have e9 : ¬ v.op = 9 := by simpa using h9
      have e10 : ¬ v.op = 10 := by simpa using h10
      have e11 : v.op = 11 := by simpa using h11
      have hne : eachB v.op = false := hea
      have hfx : (v.len = 1 ∧ 1 ≤ (xs.length : Int) ∧ (xs.length : Int) ≤ 1000) ∧ 0 ≤ v.c ∧ v.c < xs.length := by rw [fitsB, if_neg (by rw [hne]; simp), if_neg e9, if_pos e11] at hfit; simpa [okLen] using hfit
      have hcl : v.c.toNat < xs.length := by omega
      obtain ⟨p, q, rfl, hc⟩ := hA.cell (List.getElem?_eq_getElem hcl)
      refine ⟨⟨by omega, by omega⟩, _, hc, ?_⟩
      have hke : kel v xs ys zs k = xs[v.c.toNat] := by unfold kel; rw [if_neg (by rw [hne]; simp), if_neg e9, if_neg e10, if_pos e11, List.getElem?_eq_getElem hcl]; rfl
      refine ⟨_, run_push _ _ _ _ (by simp), by dsimp only; omega, by dsimp only; omega, _, (hb.mono (Ext.push _ _)).own, ?_⟩
      refine ⟨v.len.toNat - (k + 1), kE _ _ _ xs ys zs v (some ⟨K.next + 1, 0, none⟩) (k + 1), by omega, by (refine ⟨?_, ?_⟩ <;> repeat' first | exact trivial | exact congrArg (fun x => some (Value.int .i64 x)) (wrap_nat (by omega)) | exact sv_eq (by simp; done) | exact rfl | refine ⟨?_, ?_⟩ | fail), k + 1, _, by omega, rfl, rfl, ((hb.mono (Ext.push _ _)).killO (he.push' _) (Nat.le_refl _)).push' _, ?_⟩
      rw [kpre_succ, hke]
      exact (hb.mono (Ext.push _ _)).app rfl (Nat.le_trans he.next (Nat.le_succ _))
    · have e9 : ¬ v.op = 9 := by simpa using h9
      have e10 : ¬ v.op = 10 := by simpa using h10
      have e11 : ¬ v.op = 11 := by simpa using h11
      have e12 : v.op = 12 := by simpa using h12
      have hne : eachB v.op = false := hea
      have hi : (k : Int) = v.c := by simpa using hi
      have hfx : (xs.length : Int) = 1 ∧ 0 ≤ v.c ∧ v.c < v.len := by rw [fitsB, if_neg (by rw [hne]; simp), if_neg e9, if_neg e11, if_neg e10, if_pos e12] at hfit; exact of_decide_eq_true hfit
      obtain ⟨p, q, rfl, hc⟩ := hA.cell (List.getElem?_eq_getElem (show 0 < xs.length by omega))
      refine ⟨⟨by omega, by omega⟩, _, hc, ?_⟩
      have hke : kel v xs ys zs k = xs[0] := by unfold kel; rw [if_neg (by rw [hne]; simp), if_neg e9, if_neg e10, if_neg e11, if_pos e12, if_pos hi, List.getElem?_eq_getElem (by omega)]; rfl
      refine ⟨_, run_push _ _ _ _ (by simp), by dsimp only; omega, by dsimp only; omega, _, (hb.mono (Ext.push _ _)).own, ?_⟩
      refine ⟨v.len.toNat - (k + 1), kE _ _ _ xs ys zs v (some ⟨K.next + 1, 0, none⟩) (k + 1), by omega, by (refine ⟨?_, ?_⟩ <;> repeat' first | exact trivial | exact congrArg (fun x => some (Value.int .i64 x)) (wrap_nat (by omega)) | exact sv_eq (by simp; done) | exact rfl | refine ⟨?_, ?_⟩ | fail), k + 1, _, by omega, rfl, rfl, ((hb.mono (Ext.push _ _)).killO (he.push' _) (Nat.le_refl _)).push' _, ?_⟩
      rw [kpre_succ, hke]
      exact (hb.mono (Ext.push _ _)).app rfl (Nat.le_trans he.next (Nat.le_succ _))
    · have e9 : ¬ v.op = 9 := by simpa using h9
      have e10 : ¬ v.op = 10 := by simpa using h10
      have e11 : ¬ v.op = 11 := by simpa using h11
      have e12 : v.op = 12 := by simpa using h12
      have hne : eachB v.op = false := hea
      have hi : ¬ (k : Int) = v.c := by simpa using hi
      have hke : kel v xs ys zs k = 0 := by unfold kel; rw [if_neg (by rw [hne]; simp), if_neg e9, if_neg e10, if_neg e11, if_pos e12, if_neg hi]
      refine ⟨_, run_push _ _ _ _ (by simp), by dsimp only; omega, by dsimp only; omega, _, (hb.mono (Ext.push _ _)).own, ?_⟩
      refine ⟨v.len.toNat - (k + 1), kE _ _ _ xs ys zs v (some ⟨K.next + 1, 0, none⟩) (k + 1), by omega, by (refine ⟨?_, ?_⟩ <;> repeat' first | exact trivial | exact congrArg (fun x => some (Value.int .i64 x)) (wrap_nat (by omega)) | exact sv_eq (by simp; done) | exact rfl | refine ⟨?_, ?_⟩ | fail), k + 1, _, by omega, rfl, rfl, ((hb.mono (Ext.push _ _)).killO (he.push' _) (Nat.le_refl _)).push' _, ?_⟩
      rw [kpre_succ, hke]
      exact (hb.mono (Ext.push _ _)).app rfl (Nat.le_trans he.next (Nat.le_succ _))
    · have e9 : ¬ v.op = 9 := by simpa using h9
      have e10 : ¬ v.op = 10 := by simpa using h10
      have e11 : ¬ v.op = 11 := by simpa using h11
      have e12 : ¬ v.op = 12 := by simpa using h12
      have hne : eachB v.op = false := hea
      have hke : kel v xs ys zs k = v.k := by unfold kel; rw [if_neg (by rw [hne]; simp), if_neg e9, if_neg e10, if_neg e11, if_neg e12]
      refine ⟨_, run_push _ _ _ _ (by simp), by dsimp only; omega, by dsimp only; omega, _, (hb.mono (Ext.push _ _)).own, ?_⟩
      refine ⟨v.len.toNat - (k + 1), kE _ _ _ xs ys zs v (some ⟨K.next + 1, 0, none⟩) (k + 1), by omega, by (refine ⟨?_, ?_⟩ <;> repeat' first | exact trivial | exact congrArg (fun x => some (Value.int .i64 x)) (wrap_nat (by omega)) | exact sv_eq (by simp; done) | exact rfl | refine ⟨?_, ?_⟩ | fail), k + 1, _, by omega, rfl, rfl, ((hb.mono (Ext.push _ _)).killO (he.push' _) (Nat.le_refl _)).push' _, ?_⟩
      rw [kpre_succ, hke]
      exact (hb.mono (Ext.push _ _)).app rfl (Nat.le_trans he.next (Nat.le_succ _))
  · have hk : k = v.len.toNat := by simp at hge; omega
    subst hk
    exact ⟨o, rfl, he, hb⟩
end Go.Proofs.Ytjmobjiaoklfdaa
