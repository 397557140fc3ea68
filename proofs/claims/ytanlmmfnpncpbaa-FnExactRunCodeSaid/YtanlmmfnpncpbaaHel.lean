/- The laws' helpers over floats: copies, equality, marks. Conditions: lists of at most 2^20 elements. -/
import Derived.Test.YtanlmmfnpncpbaaDat
import Derived.Test.YtanlmmfnpncpbaaFi
set_option linter.unusedVariables false
set_option linter.unusedSimpArgs false
namespace Go.Proofs.Ytanlmmfnpncpbaa
open Go.Am

theorem toFloat64S_ec (H : Heap) (a : Option Addr) (xs : List Nat) (h : Rd dFlt H a xs) (hl : xs.length ≤ 1048576) :
    EC Try.prog 25 [sv a xs] H fun r H' => r = .ret (sv (some ⟨H.next, 0, none⟩) xs) ∧ H' = pushL dFlt H xs := by
  refine EC_fn ctx (fun _ => true) Try.func25 rfl rfl rfl ?_
  refine ⟨⟨by omega, by omega, by omega, by dsimp only; omega⟩, ?_⟩
  refine loop_ind ctx (fun _ => true) (fun m E K => ∃ k, k ≤ xs.length ∧ m = xs.length - k ∧ E = ⟨[(0, sv a xs), (3, sv (some ⟨H.next, 0, none⟩) xs), (4, .int .i64 k)], []⟩ ∧ K = H.push (.cells (flat dFlt (xs.take k ++ List.replicate (xs.length - k) 0)) dFlt.sz true))
    ⟨0, Nat.zero_le _, rfl, rfl, ?_⟩ (by (refine ⟨?_, ?_⟩ <;> repeat' first | exact trivial | exact congrArg (fun x => some (Value.int .i64 x)) (wrap_nat (by omega)) | exact sv_eq (by simp; done) | exact rfl | refine ⟨?_, ?_⟩ | fail)) ?_
  · congr 2; exact flat_rep dFlt 0 [.float .f64 0] rfl xs.length
  · rintro m E K ⟨k, hk, rfl, rfl, hK⟩
    have h : Rd dFlt K a xs := by subst hK; exact h.mono (Ext.push _ _)
    refine ⟨fun hlt => ?_, fun hge => ?_⟩
    · have hlt : k < xs.length := by simpa using hlt
      have hlt' : k < (xs.take k ++ List.replicate (xs.length - k) 0).length := by simp; omega
      obtain ⟨b, off, rfl, hc⟩ := h.cell (List.getElem?_eq_getElem hlt)
      subst hK
      refine ⟨⟨by omega, by omega⟩, _, hc, ⟨by omega, by omega⟩, stOK_elem dFlt H _ hlt' (Nat.zero_add _) rfl, ?_⟩
      refine ⟨xs.length - (k + 1), ⟨[(0, sv (some ⟨b, off, none⟩) xs), (3, sv (some ⟨H.next, 0, none⟩) xs), (4, .int .i64 ((k + 1 : Nat) : Int))], []⟩, by omega, by (refine ⟨?_, ?_⟩ <;> repeat' first | exact trivial | exact congrArg (fun x => some (Value.int .i64 x)) (wrap_nat (by omega)) | exact sv_eq (by simp; done) | exact rfl | refine ⟨?_, ?_⟩ | fail), k + 1, by omega, rfl, rfl, ?_⟩
      refine (stor_elem dFlt H _ xs[k] hlt' (Nat.zero_add _) rfl).trans ?_
      rw [take_set xs 0 hlt]
    · have hge : k = xs.length := by simp at hge; omega
      subst hge
      exact ⟨rfl, by simp [hK, pushL]⟩
theorem eqFloat64S_pc (H : Heap) (a b : Option Addr) (xs ys : List Nat) (h : Rd dFlt H a xs) (h' : Rd dFlt H b ys) (hl : xs.length < 9223372036854775807) :
    PC Try.prog 29 [sv a xs, sv b ys] H (.bool (decide (xs = ys))) := by
  refine EC_fn ctx (fun _ => true) Try.func29 rfl rfl rfl ?_
  refine ⟨fun hne => pbool ?_, fun heq => ?_⟩
  · have : xs ≠ ys := fun e => by subst e; simp at hne
    simp [this]
  · have hlen : xs.length = ys.length := by simp at heq; omega
    refine loop_ind ctx (fun _ => true) (fun m E K => ∃ k, k ≤ xs.length ∧ m = xs.length - k ∧ E = ⟨[(0, sv a xs), (1, sv b ys), (5, .int .i64 k)], []⟩ ∧ K = H ∧ xs.take k = ys.take k)
      ⟨0, Nat.zero_le _, rfl, rfl, rfl, by simp⟩ (by (refine ⟨?_, ?_⟩ <;> repeat' first | exact trivial | exact congrArg (fun x => some (Value.int .i64 x)) (wrap_nat (by omega)) | exact sv_eq (by simp; done) | exact rfl | refine ⟨?_, ?_⟩ | fail)) ?_
    rintro m E K ⟨k, hk, rfl, rfl, rfl, ht⟩
    refine ⟨fun hlt => ?_, fun hge => ?_⟩
    · have hlt : k < xs.length := by simpa using hlt
      obtain ⟨p, o, rfl, hc⟩ := h.cell (List.getElem?_eq_getElem hlt)
      obtain ⟨p', o', rfl, hc'⟩ := h'.cell (List.getElem?_eq_getElem (show k < ys.length by omega))
      refine ⟨.leaf [([0, 1, 2, 3, 4, 5, 6, 7, 8, 9], none)] [], by kernel_rfl, ⟨by omega, by omega⟩, _, hc, ⟨by omega, by omega⟩, _, hc', _, sameFloat_pc xs[k] ys[k] K, fun hne => pbool ?_, fun heq => ?_⟩
      · have : xs ≠ ys := fun e => by subst e; simp at hne
        simp [this]
      · refine ⟨xs.length - (k + 1), ⟨[(0, sv (some ⟨p, o, none⟩) xs), (1, sv (some ⟨p', o', none⟩) ys), (5, .int .i64 ((k + 1 : Nat) : Int))], []⟩, by omega, by (refine ⟨?_, ?_⟩ <;> repeat' first | exact trivial | exact congrArg (fun x => some (Value.int .i64 x)) (wrap_nat (by omega)) | exact sv_eq (by simp; done) | exact rfl | refine ⟨?_, ?_⟩ | fail), k + 1, by omega, rfl, rfl, rfl, ?_⟩
        rw [List.take_succ_eq_append_getElem hlt, List.take_succ_eq_append_getElem (show k < ys.length by omega), ht]
        simp at heq
        rw [heq]
    · refine pbool ?_
      have hk : k = xs.length := by simp at hge; omega
      subst hk
      rw [List.take_of_length_le (Nat.le_refl _), List.take_of_length_le (by omega)] at ht
      simp [ht]

/-! marks -/
def markL (k : Int) (n : Nat) : List Nat := (List.range n).map fun i : Nat => fI (k + i)
@[simp] theorem markL_len (k : Int) (n : Nat) : (markL k n).length = n := by simp [markL]
theorem markL_succ (k : Int) (n : Nat) : markL k (n + 1) = markL k n ++ [fI (k + n)] := by simp [markL, List.range_succ]

theorem stor_but {α : Type} (d : Enc α) {H : Heap} {b : Nat} {xs : List α} (h : H.blk b = some (.cells (flat d xs) d.sz true)) {i o : Nat} {l : List Value} (y : α) (hi : i < xs.length) (ho : o = i * d.sz) (hl : l = d.enc y) :
    (H.stor b o l).blk b = some (.cells (flat d (xs.set i y)) d.sz true) ∧ But (some ⟨b, 0, none⟩) H (H.stor b o l) := by
  subst ho; subst hl
  rw [Heap.stor_put h]
  have hb := H.lt _ _ h
  refine ⟨by rw [put_blk _ _ _ _ hb, if_pos rfl, flat_over d xs i y hi], rfl, fun x c hx hc => ?_⟩
  have hne : x ≠ b := fun e => hx 0 (by rw [e])
  rw [put_blk _ _ _ _ hb, if_neg hne]; exact hc

theorem mark_ec (H : Heap) (a : Option Addr) (base : Nat) (xs : List Nat) (k : Int) (h : Buf dFlt H base a xs) (hl : xs.length ≤ 1048576) (hk0 : 0 ≤ k) (hk : k ≤ 1000000000) :
    EC Try.prog 36 [sv a xs, .int .i64 k] H fun r H' => r = .ret (.int .i64 (k + xs.length)) ∧ Buf dFlt H' base a (markL k xs.length) ∧ But a H H' := by
  refine EC_fn ctx (fun _ => true) Try.func36 rfl rfl rfl ?_
  refine loop_ind ctx (fun _ => true) (fun m E K => ∃ i : Nat, i ≤ xs.length ∧ m = xs.length - i ∧ E = ⟨[(0, sv a xs), (1, .int .i64 (k + i)), (5, .int .i64 i)], []⟩ ∧ Buf dFlt K base a (markL k i ++ xs.drop i) ∧ But a H K)
    (E0 := ⟨[(0, sv a xs), (1, .int .i64 k), (5, .int .i64 ((0 : Nat) : Int))], []⟩) ⟨0, Nat.zero_le _, rfl, ?_, ?_, rfl, fun x c _ hc => hc⟩ (by (refine ⟨?_, ?_⟩ <;> repeat' first | exact trivial | exact congrArg (fun x => some (Value.int .i64 x)) (wrap_nat (by omega)) | exact sv_eq (by simp; done) | exact rfl | refine ⟨?_, ?_⟩ | fail)) ?_
  · simp
  · simpa [markL] using h
  rintro m E K ⟨i, hi, rfl, rfl, hb, hbut⟩
  refine ⟨fun hlt => ?_, fun hge => ?_⟩
  · have hlt : i < xs.length := by simpa using hlt
    generalize hys : markL k i ++ xs.drop i = ys at hb
    have hyl : ys.length = xs.length := by rw [← hys]; simp; omega
    cases hb with
    | nil => simp at hyl; omega
    | @blk b _ hbase hblk =>
      have hst := stor_but dFlt hblk (i := i) (o := 0 + i * 1) (l := [.float .f64 (fI (k + i))]) (fI (k + i)) (by omega) (Nat.zero_add _) rfl
      refine ⟨⟨by omega, by omega⟩, ⟨_, _, hblk, by rw [flat_len]; show 0 + i * 1 + 1 ≤ ys.length * 1; omega⟩, ?_⟩
      have hw : IntKind.i64.wrap (k + i + 1) = k + ((i + 1 : Nat) : Int) := by rw [wrap_i64 (by omega) (by omega)]; omega
      refine ⟨xs.length - (i + 1), ⟨[(0, sv (some ⟨b, 0, none⟩) xs), (1, .int .i64 (k + ((i + 1 : Nat) : Int))), (5, .int .i64 ((i + 1 : Nat) : Int))], []⟩, by omega, ⟨⟨rfl, trivial, congrArg (fun x => some (Value.int .i64 x)) hw, trivial, congrArg (fun x => some (Value.int .i64 x)) (wrap_nat (by omega)), trivial, trivial⟩, trivial⟩, i + 1, by omega, rfl, rfl, ?_, hst.2.next.trans hbut.next, fun x c hx hc => hst.2.same x c hx (hbut.same x c hx hc)⟩
      have hset : ys.set i (fI (k + i)) = markL k (i + 1) ++ xs.drop (i + 1) := by
        rw [← hys, markL_succ, List.set_append, if_neg (by simp), markL_len, Nat.sub_self, List.drop_eq_getElem_cons hlt, List.set_cons_zero, List.append_assoc]
        rfl
      rw [← hset]
      exact .blk hbase hst.1
  · have hi : i = xs.length := by simp at hge; omega
    subst hi
    refine ⟨rfl, ?_, hbut⟩
    rw [List.drop_of_length_le (Nat.le_refl _), List.append_nil] at hb
    exact hb
theorem held_pc (H : Heap) (a : Option Addr) (k : Int) (n : Nat) (h : Rd dFlt H a (markL k n)) (hl : n ≤ 1048576) (hk0 : 0 ≤ k) (hk : k ≤ 1000000000) :
    PC Try.prog 37 [sv a (markL k n), .int .i64 k] H (.int .i64 (k + n)) := by
  refine EC_fn ctx (fun _ => true) Try.func37 rfl rfl rfl ?_
  have hml := markL_len k n
  refine loop_ind ctx (fun _ => true) (fun m E K => ∃ i : Nat, i ≤ n ∧ m = n - i ∧ E = ⟨[(0, sv a (markL k n)), (1, .int .i64 (k + i)), (5, .int .i64 i)], []⟩ ∧ K = H)
    (E0 := ⟨[(0, sv a (markL k n)), (1, .int .i64 k), (5, .int .i64 ((0 : Nat) : Int))], []⟩) ⟨0, Nat.zero_le _, rfl, ?_, rfl⟩ (by (refine ⟨?_, ?_⟩ <;> repeat' first | exact trivial | exact congrArg (fun x => some (Value.int .i64 x)) (wrap_nat (by omega)) | exact sv_eq (by simp; done) | exact rfl | refine ⟨?_, ?_⟩ | fail)) ?_
  · simp
  rintro m E K ⟨i, hi, rfl, rfl, rfl⟩
  refine ⟨fun hlt => ?_, fun hge => ?_⟩
  · have hlt : i < n := by simp at hlt; omega
    obtain ⟨p, o, rfl, hc⟩ := h.cell (List.getElem?_eq_getElem (show i < (markL k n).length by omega))
    have hge : (markL k n)[i]'(by omega) = fI (k + i) := by simp [markL]
    rw [hge] at hc
    refine ⟨⟨by omega, by omega⟩, _, hc, fun hne => ?_, fun _ => ?_⟩
    · have hne : (ordF (fI (k + i)) (fI (k + i)) != some .eq) = true := hne
      rw [fI_ne] at hne; cases hne
    · have hw : IntKind.i64.wrap (k + i + 1) = k + ((i + 1 : Nat) : Int) := by rw [wrap_i64 (by omega) (by omega)]; omega
      exact ⟨n - (i + 1), ⟨[(0, sv (some ⟨p, o, none⟩) (markL k n)), (1, .int .i64 (k + ((i + 1 : Nat) : Int))), (5, .int .i64 ((i + 1 : Nat) : Int))], []⟩, by omega, ⟨⟨rfl, trivial, congrArg (fun x => some (Value.int .i64 x)) hw, trivial, congrArg (fun x => some (Value.int .i64 x)) (wrap_nat (by omega)), trivial, trivial⟩, trivial⟩, i + 1, by omega, rfl, rfl, rfl⟩
  · have hi : i = n := by simp at hge; omega
    subst hi
    exact pint rfl
end Go.Proofs.Ytanlmmfnpncpbaa
