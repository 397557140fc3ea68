/- Kernels, the program's side: helpers over two and three lists, and the functions that it picks. Conditions: lists of one length, at most 2^20. -/
import Derived.Test.YtjmobjiaoklfdaaKer
set_option linter.unusedVariables false
set_option linter.unusedSimpArgs false
namespace Go.Proofs.Ytjmobjiaoklfdaa
open Go.Am

theorem chosen_ec (H : Heap) (a b c : Option Addr) (xs ys zs : List Nat) (h : Rd dFlt H a xs) (h' : Rd dFlt H b ys) (h'' : Rd dFlt H c zs) (hl : xs.length ≤ 1048576) (hy : ys.length = xs.length) (hz : zs.length = xs.length) (rs : List Nat) (hr : rs.length = xs.length)
    (hrs : ∀ k (h : k < xs.length), rs[k]'(by omega) = if gtF xs[k] 0 then ys[k]'(by omega) else zs[k]'(by omega)) :
    EC Try.prog 84 [sv a xs, sv b ys, sv c zs] H fun r H' => r = .ret (sv (some ⟨H.next, 0, none⟩) rs) ∧ H' = H.push (.cells (flat dFlt rs) dFlt.sz true) := by
  refine EC_fn ctx (fun _ => true) Try.func84 rfl rfl rfl ?_
  refine ⟨⟨by omega, by omega, by omega, by dsimp only; omega⟩, ?_⟩
  refine loop_ind ctx (fun _ => true) (fun m E K => ∃ k, k ≤ xs.length ∧ m = xs.length - k ∧ E = ⟨[(0, sv a xs), (1, sv b ys), (2, sv c zs), (7, .slice (some ⟨H.next, 0, none⟩) xs.length xs.length), (13, .int .i64 xs.length), (14, .int .i64 k)], []⟩ ∧ K = H.push (.cells (flat dFlt (rs.take k ++ List.replicate (rs.length - k) 0)) dFlt.sz true))
    ⟨0, Nat.zero_le _, rfl, rfl, ?_⟩ (by (refine ⟨?_, ?_⟩ <;> repeat' first | exact trivial | exact congrArg (fun x => some (Value.int .i64 x)) (wrap_nat (by omega)) | exact sv_eq (by simp; done) | exact rfl | refine ⟨?_, ?_⟩ | fail)) ?_
  · congr 2; rw [hr]; exact flat_rep dFlt 0 [.float .f64 0] rfl xs.length
  · rintro m E K ⟨k, hk, rfl, rfl, hK⟩
    refine ⟨fun hlt => ?_, fun hge => ?_⟩
    · have hlt : k < xs.length := by simpa using hlt
      have h : Rd dFlt K a xs := by subst hK; exact h.mono (Ext.push _ _)
      have h' : Rd dFlt K b ys := by subst hK; exact h'.mono (Ext.push _ _)
      have h'' : Rd dFlt K c zs := by subst hK; exact h''.mono (Ext.push _ _)
      have hlt' : k < (rs.take k ++ List.replicate (rs.length - k) 0).length := by simp; omega
      obtain ⟨p, o, rfl, hc⟩ := h.cell (List.getElem?_eq_getElem hlt)
      obtain ⟨p', o', rfl, hc'⟩ := h'.cell (List.getElem?_eq_getElem (show k < ys.length by omega))
      obtain ⟨p'', o'', rfl, hc''⟩ := h''.cell (List.getElem?_eq_getElem (show k < zs.length by omega))
      subst hK
      have hset := take_set rs 0 (show k < rs.length by omega)
      refine ⟨⟨by omega, by omega⟩, _, hc, fun hg => ?_, fun hg => ?_⟩
      · have hg : gtF xs[k] 0 = true := hg
        refine ⟨⟨by omega, by omega⟩, _, hc', ⟨by omega, by omega⟩, stOK_elem dFlt H _ hlt' (Nat.zero_add _) rfl, ?_⟩
        refine ⟨xs.length - (k + 1), ⟨[(0, sv (some ⟨p, o, none⟩) xs), (1, sv (some ⟨p', o', none⟩) ys), (2, sv (some ⟨p'', o'', none⟩) zs), (7, .slice (some ⟨H.next, 0, none⟩) xs.length xs.length), (13, .int .i64 xs.length), (14, .int .i64 ((k + 1 : Nat) : Int))], []⟩, by omega, by (refine ⟨?_, ?_⟩ <;> repeat' first | exact trivial | exact congrArg (fun x => some (Value.int .i64 x)) (wrap_nat (by omega)) | exact sv_eq (by simp; done) | exact rfl | refine ⟨?_, ?_⟩ | fail), k + 1, by omega, rfl, rfl, ?_⟩
        refine (stor_elem dFlt H _ _ hlt' (Nat.zero_add _) rfl).trans ?_
        rw [← hset, hrs k hlt, if_pos hg]
      · have hg : gtF xs[k] 0 = false := hg
        refine ⟨⟨by omega, by omega⟩, _, hc'', ⟨by omega, by omega⟩, stOK_elem dFlt H _ hlt' (Nat.zero_add _) rfl, ?_⟩
        refine ⟨xs.length - (k + 1), ⟨[(0, sv (some ⟨p, o, none⟩) xs), (1, sv (some ⟨p', o', none⟩) ys), (2, sv (some ⟨p'', o'', none⟩) zs), (7, .slice (some ⟨H.next, 0, none⟩) xs.length xs.length), (13, .int .i64 xs.length), (14, .int .i64 ((k + 1 : Nat) : Int))], []⟩, by omega, by (refine ⟨?_, ?_⟩ <;> repeat' first | exact trivial | exact congrArg (fun x => some (Value.int .i64 x)) (wrap_nat (by omega)) | exact sv_eq (by simp; done) | exact rfl | refine ⟨?_, ?_⟩ | fail), k + 1, by omega, rfl, rfl, ?_⟩
        refine (stor_elem dFlt H _ _ hlt' (Nat.zero_add _) rfl).trans ?_
        rw [← hset, hrs k hlt, if_neg (by simp [hg])]
    · have hge : k = xs.length := by simp at hge; omega
      subst hge
      exact ⟨ret_sv hr, by rw [hK, List.take_of_length_le (Nat.le_of_eq hr), hr, Nat.sub_self]; simp⟩
theorem zipped_ec (H : Heap) (a b : Option Addr) (xs ys : List Nat) (f : FuncId) (g : Nat → Nat → Nat) (hf : ∀ x y K, PC Try.prog f [.float .f64 x, .float .f64 y] K (.float .f64 (g x y))) (h : Rd dFlt H a xs) (h' : Rd dFlt H b ys) (hl : xs.length ≤ 1048576) (hy : ys.length = xs.length) (rs : List Nat) (hr : rs.length = xs.length)
    (hrs : ∀ k (h : k < xs.length), rs[k]'(by omega) = g xs[k] (ys[k]'(by omega))) :
    EC Try.prog 85 [sv a xs, sv b ys, .func (.func f) #[] #[]] H fun r H' => r = .ret (sv (some ⟨H.next, 0, none⟩) rs) ∧ H' = H.push (.cells (flat dFlt rs) dFlt.sz true) := by
  refine EC_fn ctx (fun _ => true) Try.func85 rfl rfl rfl ?_
  refine ⟨⟨by omega, by omega, by omega, by dsimp only; omega⟩, ?_⟩
  refine loop_ind ctx (fun _ => true) (fun m E K => ∃ k, k ≤ xs.length ∧ m = xs.length - k ∧ E = ⟨[(0, sv a xs), (1, sv b ys), (2, .func (.func f) #[] #[]), (7, .slice (some ⟨H.next, 0, none⟩) xs.length xs.length), (13, .int .i64 xs.length), (14, .int .i64 k)], []⟩ ∧ K = H.push (.cells (flat dFlt (rs.take k ++ List.replicate (rs.length - k) 0)) dFlt.sz true))
    ⟨0, Nat.zero_le _, rfl, rfl, ?_⟩ (by (refine ⟨?_, ?_⟩ <;> repeat' first | exact trivial | exact congrArg (fun x => some (Value.int .i64 x)) (wrap_nat (by omega)) | exact sv_eq (by simp; done) | exact rfl | refine ⟨?_, ?_⟩ | fail)) ?_
  · congr 2; rw [hr]; exact flat_rep dFlt 0 [.float .f64 0] rfl xs.length
  · rintro m E K ⟨k, hk, rfl, rfl, hK⟩
    refine ⟨fun hlt => ?_, fun hge => ?_⟩
    · have hlt : k < xs.length := by simpa using hlt
      have h : Rd dFlt K a xs := by subst hK; exact h.mono (Ext.push _ _)
      have h' : Rd dFlt K b ys := by subst hK; exact h'.mono (Ext.push _ _)
      have hlt' : k < (rs.take k ++ List.replicate (rs.length - k) 0).length := by simp; omega
      obtain ⟨p, o, rfl, hc⟩ := h.cell (List.getElem?_eq_getElem hlt)
      obtain ⟨p', o', rfl, hc'⟩ := h'.cell (List.getElem?_eq_getElem (show k < ys.length by omega))
      subst hK
      have hset := take_set rs 0 (show k < rs.length by omega)
      refine ⟨.leaf [([0, 1, 2, 3, 4, 5, 6, 7, 8, 9, 10, 11, 12], some 13), ([], none)] [], by kernel_rfl, ⟨by omega, by omega⟩, _, hc, ⟨by omega, by omega⟩, _, hc', _, hf _ _ _, ⟨by omega, by omega⟩, stOK_elem dFlt H _ hlt' (Nat.zero_add _) rfl, ?_⟩
      refine ⟨xs.length - (k + 1), ⟨[(0, sv (some ⟨p, o, none⟩) xs), (1, sv (some ⟨p', o', none⟩) ys), (2, .func (.func f) #[] #[]), (7, .slice (some ⟨H.next, 0, none⟩) xs.length xs.length), (13, .int .i64 xs.length), (14, .int .i64 ((k + 1 : Nat) : Int))], []⟩, by omega, by (refine ⟨?_, ?_⟩ <;> repeat' first | exact trivial | exact congrArg (fun x => some (Value.int .i64 x)) (wrap_nat (by omega)) | exact sv_eq (by simp; done) | exact rfl | refine ⟨?_, ?_⟩ | fail), k + 1, by omega, rfl, rfl, ?_⟩
      refine (stor_elem dFlt H _ _ hlt' (Nat.zero_add _) rfl).trans ?_
      rw [← hset, hrs k hlt]
    · have hge : k = xs.length := by simp at hge; omega
      subst hge
      exact ⟨ret_sv hr, by rw [hK, List.take_of_length_le (Nat.le_of_eq hr), hr, Nat.sub_self]; simp⟩
theorem kerNeg_pc (x : Nat) (H : Heap) : PC Try.prog 82 [.float .f64 x] H (.float .f64 (fneg x)) := by
  refine EC_fn ctx (fun _ => true) Try.func82 rfl rfl rfl ?_
  exact pflt rfl
theorem two1_pc (x y : Nat) (H : Heap) : PC Try.prog 92 [.float .f64 x, .float .f64 y] H (.float .f64 (fop .add x y)) := by
  refine EC_fn ctx (fun _ => true) Try.func92 rfl rfl rfl ?_
  exact pflt rfl
theorem two2_pc (x y : Nat) (H : Heap) : PC Try.prog 93 [.float .f64 x, .float .f64 y] H (.float .f64 (fop .sub x y)) := by
  refine EC_fn ctx (fun _ => true) Try.func93 rfl rfl rfl ?_
  exact pflt rfl
theorem two3_pc (x y : Nat) (H : Heap) : PC Try.prog 94 [.float .f64 x, .float .f64 y] H (.float .f64 (fop .mul x y)) := by
  refine EC_fn ctx (fun _ => true) Try.func94 rfl rfl rfl ?_
  exact pflt rfl
theorem two4_pc (x y : Nat) (H : Heap) : PC Try.prog 95 [.float .f64 x, .float .f64 y] H (.float .f64 (fop .quo x y)) := by
  refine EC_fn ctx (fun _ => true) Try.func95 rfl rfl rfl ?_
  exact pflt rfl
theorem two5_pc (x y : Nat) (H : Heap) : PC Try.prog 96 [.float .f64 x, .float .f64 y] H (.float .f64 (if gtF x y then x else y)) := by
  refine EC_fn ctx (fun _ => true) Try.func96 rfl rfl rfl ?_
  refine ⟨fun g => pflt ?_, fun g => pflt ?_⟩
  · have g : gtF x y = true := g
    rw [if_pos g]
  · have g : gtF x y = false := g
    rw [if_neg (by simp [g])]
/-- Which function of two floats the program picks. -/
def twoF (op : Int) : FuncId := if op = 2 then 92 else if op = 3 then 93 else if op = 4 then 94 else if op = 5 then 95 else 96
theorem two_pc (op : Int) (H : Heap) : PC Try.prog 86 [.int .i64 op] H (.func (.func (twoF op)) #[] #[]) := by
  refine EC_fn ctx (fun _ => true) Try.func86 rfl rfl rfl ?_
  refine ⟨fun h => pret ?_, fun h2 => ⟨fun h => pret ?_, fun h3 => ⟨fun h => pret ?_, fun h4 => ⟨fun h => pret ?_, fun h5 => pret ?_⟩⟩⟩⟩
  · simp at h; simp [twoF, h]; rfl
  · simp at h; simp [twoF, h]; rfl
  · simp at h; simp [twoF, h]; rfl
  · simp at h; simp [twoF, h]; rfl
  · simp at h2 h3 h4 h5; simp [twoF, h2, h3, h4, h5]; rfl
theorem twoF_pc (op : Int) (h : op = 2 ∨ op = 3 ∨ op = 4 ∨ op = 5 ∨ op = 7) (x y : Nat) (z : Nat) (H : Heap) : PC Try.prog (twoF op) [.float .f64 x, .float .f64 y] H (.float .f64 (one op x y z)) := by
  rcases h with rfl | rfl | rfl | rfl | rfl
  · exact two1_pc x y H
  · exact two2_pc x y H
  · exact two3_pc x y H
  · exact two4_pc x y H
  · exact two5_pc x y H
end Go.Proofs.Ytjmobjiaoklfdaa
