/- The laws' marks over slices. Written by wip/am/genmark.py. Conditions: lists of at most 2^20 elements. -/
import Derived.Test.YtlcocgoaphpjkaaDat
import Derived.Test.YtlcocgoaphpjkaaMrki
set_option linter.unusedVariables false
set_option linter.unusedSimpArgs false
namespace Go.Proofs.Ytlcocgoaphpjkaa
open Go.Am

def mkVal1 (k : Int) : Val := ⟨k, (k + 1), (k + 2), (k + 3), (k + 4), fI (k + 5)⟩
def mkVal (k : Int) (n : Nat) : List Val := (List.range n).map fun i : Nat => mkVal1 (k + 6 * (i : Int))
@[simp] theorem mkVal_len (k : Int) (n : Nat) : (mkVal k n).length = n := by simp [mkVal]
theorem mkVal_succ (k : Int) (n : Nat) : mkVal k (n + 1) = mkVal k n ++ [mkVal1 (k + 6 * (n : Int))] := by simp [mkVal, List.range_succ]
set_option maxHeartbeats 2000000 in
theorem markValS_ec (H : Heap) (a : Option Addr) (base : Nat) (xs : List Val) (k : Int) (h : Buf dVal H base a xs) (hl : xs.length ≤ 1048576) (hk0 : 0 ≤ k) (hk : k ≤ 1000000000) :
    EC Try.prog 24 [sv a xs, .int .i64 k] H fun r H' => r = .ret (.int .i64 (k + 6 * (xs.length : Int))) ∧ Buf dVal H' base a (mkVal k xs.length) ∧ But a H H' := by
  refine EC_fn ctx (fun _ => true) Try.func24 rfl rfl rfl ?_
  refine loop_ind ctx (fun _ => true) (fun m E K => ∃ i : Nat, i ≤ xs.length ∧ m = xs.length - i ∧ E = ⟨[(0, sv a xs), (1, .int .i64 (k + 6 * (i : Int))), (5, .int .i64 (i : Int))], []⟩ ∧ Buf dVal K base a (mkVal k i ++ xs.drop i) ∧ But a H K)
    (E0 := ⟨[(0, sv a xs), (1, .int .i64 k), (5, .int .i64 ((0 : Nat) : Int))], []⟩) ⟨0, Nat.zero_le _, rfl, ?_, ?_, But.refl _ _⟩ (by (refine ⟨?_, ?_⟩ <;> repeat' first | exact trivial | exact congrArg (fun x => some (Value.int .i64 x)) (wrap_nat (by omega)) | exact sv_eq (by simp; done) | exact rfl | refine ⟨?_, ?_⟩ | fail)) ?_
  · simp
  · simpa [mkVal] using h
  rintro m E K ⟨i, hi, rfl, rfl, hb, hbut⟩
  refine ⟨fun hlt => ?_, fun hge => ?_⟩
  · have hlt : i < xs.length := by simpa using hlt
    generalize hys : mkVal k i ++ xs.drop i = ys at hb
    have hyl : ys.length = xs.length := by rw [← hys]; simp; omega
    have hiy : i < ys.length := by omega
    have e1 : (IntKind.i64.wrap ((k + 6 * (i : Int)) + 1)) = k + 6 * (i : Int) + 1 := by rw [wrap_i64 (by omega) (by omega)]
    have e2 : (IntKind.i64.wrap ((IntKind.i64.wrap ((k + 6 * (i : Int)) + 1)) + 1)) = k + 6 * (i : Int) + 2 := by rw [e1]; rw [wrap_i64 (by omega) (by omega)]; omega
    have e3 : (IntKind.i64.wrap ((IntKind.i64.wrap ((IntKind.i64.wrap ((k + 6 * (i : Int)) + 1)) + 1)) + 1)) = k + 6 * (i : Int) + 3 := by rw [e2]; rw [wrap_i64 (by omega) (by omega)]; omega
    have e4 : (IntKind.i64.wrap ((IntKind.i64.wrap ((IntKind.i64.wrap ((IntKind.i64.wrap ((k + 6 * (i : Int)) + 1)) + 1)) + 1)) + 1)) = k + 6 * (i : Int) + 4 := by rw [e3]; rw [wrap_i64 (by omega) (by omega)]; omega
    have e5 : (IntKind.i64.wrap ((IntKind.i64.wrap ((IntKind.i64.wrap ((IntKind.i64.wrap ((IntKind.i64.wrap ((k + 6 * (i : Int)) + 1)) + 1)) + 1)) + 1)) + 1)) = k + 6 * (i : Int) + 5 := by rw [e4]; rw [wrap_i64 (by omega) (by omega)]; omega
    have e6 : (IntKind.i64.wrap ((IntKind.i64.wrap ((IntKind.i64.wrap ((IntKind.i64.wrap ((IntKind.i64.wrap ((IntKind.i64.wrap ((k + 6 * (i : Int)) + 1)) + 1)) + 1)) + 1)) + 1)) + 1)) = k + 6 * (i : Int) + 6 := by rw [e5]; rw [wrap_i64 (by omega) (by omega)]; omega
    cases hb with
    | nil => simp at hyl; omega
    | @blk b _ hbase hblk =>
      have s : K.blk b = some (.cells (flat dVal (ys.set i ys[i])) (dVal).sz true) := by rw [List.set_getElem_self]; exact hblk
      have s0 := stor_fld dVal (s) hiy (f := 0) (o := 0 + i * 6 + 0) (by show _ = i * 6 + 0; omega) (by decide) ((⟨(k + 6 * (i : Int)), (ys[i]).len, (ys[i]).a, (ys[i]).b, (ys[i]).c, (ys[i]).k⟩ : Val)) (v := .int .i64 (k + 6 * (i : Int))) rfl
      have s1 := stor_fld dVal (s0.1) hiy (f := 1) (o := 0 + i * 6 + 1) (by show _ = i * 6 + 1; omega) (by decide) ((⟨(k + 6 * (i : Int)), (IntKind.i64.wrap ((k + 6 * (i : Int)) + 1)), (ys[i]).a, (ys[i]).b, (ys[i]).c, (ys[i]).k⟩ : Val)) (v := .int .i64 (IntKind.i64.wrap ((k + 6 * (i : Int)) + 1))) rfl
      have s2 := stor_fld dVal (s1.1) hiy (f := 2) (o := 0 + i * 6 + 2) (by show _ = i * 6 + 2; omega) (by decide) ((⟨(k + 6 * (i : Int)), (IntKind.i64.wrap ((k + 6 * (i : Int)) + 1)), (IntKind.i64.wrap ((IntKind.i64.wrap ((k + 6 * (i : Int)) + 1)) + 1)), (ys[i]).b, (ys[i]).c, (ys[i]).k⟩ : Val)) (v := .int .i64 (IntKind.i64.wrap ((IntKind.i64.wrap ((k + 6 * (i : Int)) + 1)) + 1))) rfl
      have s3 := stor_fld dVal (s2.1) hiy (f := 3) (o := 0 + i * 6 + 3) (by show _ = i * 6 + 3; omega) (by decide) ((⟨(k + 6 * (i : Int)), (IntKind.i64.wrap ((k + 6 * (i : Int)) + 1)), (IntKind.i64.wrap ((IntKind.i64.wrap ((k + 6 * (i : Int)) + 1)) + 1)), (IntKind.i64.wrap ((IntKind.i64.wrap ((IntKind.i64.wrap ((k + 6 * (i : Int)) + 1)) + 1)) + 1)), (ys[i]).c, (ys[i]).k⟩ : Val)) (v := .int .i64 (IntKind.i64.wrap ((IntKind.i64.wrap ((IntKind.i64.wrap ((k + 6 * (i : Int)) + 1)) + 1)) + 1))) rfl
      have s4 := stor_fld dVal (s3.1) hiy (f := 4) (o := 0 + i * 6 + 4) (by show _ = i * 6 + 4; omega) (by decide) ((⟨(k + 6 * (i : Int)), (IntKind.i64.wrap ((k + 6 * (i : Int)) + 1)), (IntKind.i64.wrap ((IntKind.i64.wrap ((k + 6 * (i : Int)) + 1)) + 1)), (IntKind.i64.wrap ((IntKind.i64.wrap ((IntKind.i64.wrap ((k + 6 * (i : Int)) + 1)) + 1)) + 1)), (IntKind.i64.wrap ((IntKind.i64.wrap ((IntKind.i64.wrap ((IntKind.i64.wrap ((k + 6 * (i : Int)) + 1)) + 1)) + 1)) + 1)), (ys[i]).k⟩ : Val)) (v := .int .i64 (IntKind.i64.wrap ((IntKind.i64.wrap ((IntKind.i64.wrap ((IntKind.i64.wrap ((k + 6 * (i : Int)) + 1)) + 1)) + 1)) + 1))) rfl
      have s5 := stor_fld dVal (s4.1) hiy (f := 5) (o := 0 + i * 6 + 5) (by show _ = i * 6 + 5; omega) (by decide) ((⟨(k + 6 * (i : Int)), (IntKind.i64.wrap ((k + 6 * (i : Int)) + 1)), (IntKind.i64.wrap ((IntKind.i64.wrap ((k + 6 * (i : Int)) + 1)) + 1)), (IntKind.i64.wrap ((IntKind.i64.wrap ((IntKind.i64.wrap ((k + 6 * (i : Int)) + 1)) + 1)) + 1)), (IntKind.i64.wrap ((IntKind.i64.wrap ((IntKind.i64.wrap ((IntKind.i64.wrap ((k + 6 * (i : Int)) + 1)) + 1)) + 1)) + 1)), fI (IntKind.i64.wrap ((IntKind.i64.wrap ((IntKind.i64.wrap ((IntKind.i64.wrap ((IntKind.i64.wrap ((k + 6 * (i : Int)) + 1)) + 1)) + 1)) + 1)) + 1))⟩ : Val)) (v := .float .f64 (fI (IntKind.i64.wrap ((IntKind.i64.wrap ((IntKind.i64.wrap ((IntKind.i64.wrap ((IntKind.i64.wrap ((k + 6 * (i : Int)) + 1)) + 1)) + 1)) + 1)) + 1)))) rfl
      refine ⟨⟨by omega, by omega⟩, s0.2.2, ⟨by omega, by omega⟩, s1.2.2, ⟨by omega, by omega⟩, s2.2.2, ⟨by omega, by omega⟩, s3.2.2, ⟨by omega, by omega⟩, s4.2.2, ⟨by omega, by omega⟩, s5.2.2, ?_⟩
      refine ⟨xs.length - (i + 1), ⟨[(0, sv (some ⟨b, 0, none⟩) xs), (1, .int .i64 (k + 6 * ((i + 1 : Nat) : Int))), (5, .int .i64 ((i + 1 : Nat) : Int))], []⟩, by omega, ⟨⟨rfl, trivial, congrArg (fun x => some (Value.int .i64 x)) (show (IntKind.i64.wrap ((IntKind.i64.wrap ((IntKind.i64.wrap ((IntKind.i64.wrap ((IntKind.i64.wrap ((IntKind.i64.wrap ((k + 6 * (i : Int)) + 1)) + 1)) + 1)) + 1)) + 1)) + 1)) = k + 6 * ((i + 1 : Nat) : Int) by rw [e6]; omega), trivial, congrArg (fun x => some (Value.int .i64 x)) (wrap_nat (by omega)), trivial, trivial⟩, trivial⟩, i + 1, by omega, rfl, rfl, ?_, hbut.trans (((((s0.2.1.trans s1.2.1).trans s2.2.1).trans s3.2.1).trans s4.2.1).trans s5.2.1)⟩
      have hset : ys.set i (⟨(k + 6 * (i : Int)), (IntKind.i64.wrap ((k + 6 * (i : Int)) + 1)), (IntKind.i64.wrap ((IntKind.i64.wrap ((k + 6 * (i : Int)) + 1)) + 1)), (IntKind.i64.wrap ((IntKind.i64.wrap ((IntKind.i64.wrap ((k + 6 * (i : Int)) + 1)) + 1)) + 1)), (IntKind.i64.wrap ((IntKind.i64.wrap ((IntKind.i64.wrap ((IntKind.i64.wrap ((k + 6 * (i : Int)) + 1)) + 1)) + 1)) + 1)), fI (IntKind.i64.wrap ((IntKind.i64.wrap ((IntKind.i64.wrap ((IntKind.i64.wrap ((IntKind.i64.wrap ((k + 6 * (i : Int)) + 1)) + 1)) + 1)) + 1)) + 1))⟩) = mkVal k (i + 1) ++ xs.drop (i + 1) := by
        rw [e5, e4, e3, e2, e1]
        rw [← hys, mkVal_succ, List.set_append, if_neg (by simp), mkVal_len, Nat.sub_self, List.drop_eq_getElem_cons hlt, List.set_cons_zero, List.append_assoc]
        rfl
      rw [← hset]
      exact .blk hbase s5.1
  · have hi : i = xs.length := by simp at hge; omega
    subst hi
    refine ⟨rfl, ?_, hbut⟩
    rw [List.drop_of_length_le (Nat.le_refl _), List.append_nil] at hb
    exact hb
set_option maxHeartbeats 2000000 in
theorem heldValS_pc (H : Heap) (a : Option Addr) (k : Int) (n : Nat) (h : Rd dVal H a (mkVal k n)) (hl : n ≤ 1048576) (hk0 : 0 ≤ k) (hk : k ≤ 1000000000) :
    PC Try.prog 26 [.slice a n n, .int .i64 k] H (.int .i64 (k + 6 * (n : Int))) := by
  refine EC_fn ctx (fun _ => true) Try.func26 rfl rfl rfl ?_
  have hml := mkVal_len k n
  refine loop_ind ctx (fun _ => true) (fun m E K => ∃ i : Nat, i ≤ n ∧ m = n - i ∧ E = ⟨[(0, .slice a n n), (1, .int .i64 (k + 6 * (i : Int))), (5, .int .i64 (i : Int))], []⟩ ∧ K = H)
    (E0 := ⟨[(0, .slice a n n), (1, .int .i64 k), (5, .int .i64 ((0 : Nat) : Int))], []⟩) ⟨0, Nat.zero_le _, rfl, ?_, rfl⟩ (by (refine ⟨?_, ?_⟩ <;> repeat' first | exact trivial | exact congrArg (fun x => some (Value.int .i64 x)) (wrap_nat (by omega)) | exact sv_eq (by simp; done) | exact rfl | refine ⟨?_, ?_⟩ | fail)) ?_
  · simp
  rintro m E K ⟨i, hi, rfl, rfl, rfl⟩
  refine ⟨fun hlt => ?_, fun hge => ?_⟩
  · have hlt : i < n := by simpa using hlt
    have hge : (mkVal k n)[i]? = some (mkVal1 (k + 6 * (i : Int))) := by simp [mkVal, hlt]
    have e1 : (IntKind.i64.wrap ((k + 6 * (i : Int)) + 1)) = k + 6 * (i : Int) + 1 := by rw [wrap_i64 (by omega) (by omega)]
    have e2 : (IntKind.i64.wrap ((IntKind.i64.wrap ((k + 6 * (i : Int)) + 1)) + 1)) = k + 6 * (i : Int) + 2 := by rw [e1]; rw [wrap_i64 (by omega) (by omega)]; omega
    have e3 : (IntKind.i64.wrap ((IntKind.i64.wrap ((IntKind.i64.wrap ((k + 6 * (i : Int)) + 1)) + 1)) + 1)) = k + 6 * (i : Int) + 3 := by rw [e2]; rw [wrap_i64 (by omega) (by omega)]; omega
    have e4 : (IntKind.i64.wrap ((IntKind.i64.wrap ((IntKind.i64.wrap ((IntKind.i64.wrap ((k + 6 * (i : Int)) + 1)) + 1)) + 1)) + 1)) = k + 6 * (i : Int) + 4 := by rw [e3]; rw [wrap_i64 (by omega) (by omega)]; omega
    have e5 : (IntKind.i64.wrap ((IntKind.i64.wrap ((IntKind.i64.wrap ((IntKind.i64.wrap ((IntKind.i64.wrap ((k + 6 * (i : Int)) + 1)) + 1)) + 1)) + 1)) + 1)) = k + 6 * (i : Int) + 5 := by rw [e4]; rw [wrap_i64 (by omega) (by omega)]; omega
    have e6 : (IntKind.i64.wrap ((IntKind.i64.wrap ((IntKind.i64.wrap ((IntKind.i64.wrap ((IntKind.i64.wrap ((IntKind.i64.wrap ((k + 6 * (i : Int)) + 1)) + 1)) + 1)) + 1)) + 1)) + 1)) = k + 6 * (i : Int) + 6 := by rw [e5]; rw [wrap_i64 (by omega) (by omega)]; omega
    obtain ⟨b, o, rfl, c0, c1, c2, c3, c4, c5⟩ := h.valF hge
    refine ⟨⟨by omega, by omega⟩, _, c0, fun hne => ?_, fun _ => ?_⟩
    · have hne : ((k + 6 * (i : Int)) != (k + 6 * (i : Int))) = true := hne
      simp at hne
    refine ⟨⟨by omega, by omega⟩, _, c1, fun hne => ?_, fun _ => ?_⟩
    · have hne : ((k + 6 * (i : Int) + 1) != (IntKind.i64.wrap ((k + 6 * (i : Int)) + 1))) = true := hne
      rw [e1] at hne
      simp at hne
    refine ⟨⟨by omega, by omega⟩, _, c2, fun hne => ?_, fun _ => ?_⟩
    · have hne : ((k + 6 * (i : Int) + 2) != (IntKind.i64.wrap ((IntKind.i64.wrap ((k + 6 * (i : Int)) + 1)) + 1))) = true := hne
      rw [e2] at hne
      simp at hne
    refine ⟨⟨by omega, by omega⟩, _, c3, fun hne => ?_, fun _ => ?_⟩
    · have hne : ((k + 6 * (i : Int) + 3) != (IntKind.i64.wrap ((IntKind.i64.wrap ((IntKind.i64.wrap ((k + 6 * (i : Int)) + 1)) + 1)) + 1))) = true := hne
      rw [e3] at hne
      simp at hne
    refine ⟨⟨by omega, by omega⟩, _, c4, fun hne => ?_, fun _ => ?_⟩
    · have hne : ((k + 6 * (i : Int) + 4) != (IntKind.i64.wrap ((IntKind.i64.wrap ((IntKind.i64.wrap ((IntKind.i64.wrap ((k + 6 * (i : Int)) + 1)) + 1)) + 1)) + 1))) = true := hne
      rw [e4] at hne
      simp at hne
    refine ⟨⟨by omega, by omega⟩, _, c5, fun hne => ?_, fun _ => ?_⟩
    · have hne : (ordF (fI (k + 6 * (i : Int) + 5)) (fI (IntKind.i64.wrap ((IntKind.i64.wrap ((IntKind.i64.wrap ((IntKind.i64.wrap ((IntKind.i64.wrap ((k + 6 * (i : Int)) + 1)) + 1)) + 1)) + 1)) + 1))) != some .eq) = true := hne
      rw [e5] at hne
      rw [fI_ne] at hne; cases hne
    exact ⟨n - (i + 1), ⟨[(0, .slice (some ⟨b, o, none⟩) n n), (1, .int .i64 (k + 6 * ((i + 1 : Nat) : Int))), (5, .int .i64 ((i + 1 : Nat) : Int))], []⟩, by omega, ⟨⟨rfl, trivial, congrArg (fun x => some (Value.int .i64 x)) (show (IntKind.i64.wrap ((IntKind.i64.wrap ((IntKind.i64.wrap ((IntKind.i64.wrap ((IntKind.i64.wrap ((IntKind.i64.wrap ((k + 6 * (i : Int)) + 1)) + 1)) + 1)) + 1)) + 1)) + 1)) = k + 6 * ((i + 1 : Nat) : Int) by rw [e6]; omega), trivial, congrArg (fun x => some (Value.int .i64 x)) (wrap_nat (by omega)), trivial, trivial⟩, trivial⟩, i + 1, by omega, rfl, rfl, rfl⟩
  · have hi : i = n := by simp at hge; omega
    subst hi
    exact pint rfl
end Go.Proofs.Ytlcocgoaphpjkaa
