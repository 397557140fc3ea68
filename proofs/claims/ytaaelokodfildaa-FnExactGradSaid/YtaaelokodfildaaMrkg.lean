/- Numbers as floats. No condition. The laws' marks over slices. Written by wip/am/genmark.py. Conditions: lists of at most 2^20 elements. The laws' marks over slices. Written by wip/am/genmark.py. Conditions: lists of at most 2^20 elements. -/
import Derived.Test.YtaaelokodfildaaAmMark
import Derived.Test.YtaaelokodfildaaDat
set_option linter.unusedVariables false
set_option linter.unusedSimpArgs false
namespace Go.Proofs.Ytaaelokodfildaa
open Go.Am

/-- A number as a float. -/
def fI (n : Int) : Nat := FloatKind.f64.nearest n
theorem fI_ne (n : Int) : (ordF (fI n) (fI n) != some .eq) = false := by
  have h := nan_ne (fI n) (nearest_is n).lt
  have h2 : FlCore.isNan (fI n) = false := by
    have e : fI n = Ieee.double.write (.number (decide (n < 0)) n.natAbs 0) := rfl
    rw [e]; exact write_notNan _ rfl
  rw [h2] at h
  exact h
end Go.Proofs.Ytaaelokodfildaa

set_option linter.unusedVariables false
namespace Go.Proofs.Ytaaelokodfildaa
open Go.Am

def mkInt1 (k : Int) : Int := k
def mkInt (k : Int) (n : Nat) : List Int := (List.range n).map fun i : Nat => mkInt1 (k + 1 * (i : Int))
@[simp] theorem mkInt_len (k : Int) (n : Nat) : (mkInt k n).length = n := by simp [mkInt]
theorem mkInt_succ (k : Int) (n : Nat) : mkInt k (n + 1) = mkInt k n ++ [mkInt1 (k + 1 * (n : Int))] := by simp [mkInt, List.range_succ]
set_option maxHeartbeats 2000000 in
theorem markIntS_ec (H : Heap) (a : Option Addr) (base : Nat) (xs : List Int) (k : Int) (h : Buf dInt H base a xs) (hl : xs.length ≤ 1048576) (hk0 : 0 ≤ k) (hk : k ≤ 1000000000) :
    EC Try.prog 26 [sv a xs, .int .i64 k] H fun r H' => r = .ret (.int .i64 (k + 1 * (xs.length : Int))) ∧ Buf dInt H' base a (mkInt k xs.length) ∧ But a H H' := by
  refine EC_fn ctx (fun _ => true) Try.func26 rfl rfl rfl ?_
  refine loop_ind ctx (fun _ => true) (fun m E K => ∃ i : Nat, i ≤ xs.length ∧ m = xs.length - i ∧ E = ⟨[(0, sv a xs), (1, .int .i64 (k + 1 * (i : Int))), (5, .int .i64 (i : Int))], []⟩ ∧ Buf dInt K base a (mkInt k i ++ xs.drop i) ∧ But a H K)
    (E0 := ⟨[(0, sv a xs), (1, .int .i64 k), (5, .int .i64 ((0 : Nat) : Int))], []⟩) ⟨0, Nat.zero_le _, rfl, ?_, ?_, But.refl _ _⟩ (by (refine ⟨?_, ?_⟩ <;> repeat' first | exact trivial | exact congrArg (fun x => some (Value.int .i64 x)) (wrap_nat (by omega)) | exact sv_eq (by simp; done) | exact rfl | refine ⟨?_, ?_⟩ | fail)) ?_
  · simp
  · simpa [mkInt] using h
  rintro m E K ⟨i, hi, rfl, rfl, hb, hbut⟩
  refine ⟨fun hlt => ?_, fun hge => ?_⟩
  · have hlt : i < xs.length := by simpa using hlt
    generalize hys : mkInt k i ++ xs.drop i = ys at hb
    have hyl : ys.length = xs.length := by rw [← hys]; simp; omega
    have hiy : i < ys.length := by omega
    have e1 : (IntKind.i64.wrap ((k + 1 * (i : Int)) + 1)) = k + 1 * (i : Int) + 1 := by rw [wrap_i64 (by omega) (by omega)]
    cases hb with
    | nil => simp at hyl; omega
    | @blk b _ hbase hblk =>
      have s : K.blk b = some (.cells (flat dInt (ys.set i ys[i])) (dInt).sz true) := by rw [List.set_getElem_self]; exact hblk
      have s0 := stor_fld dInt (s) hiy (f := 0) (o := 0 + i * 1) (by show _ = i * 1 + 0; omega) (by decide) ((k + 1 * (i : Int))) (v := .int .i64 (k + 1 * (i : Int))) rfl
      refine ⟨⟨by omega, by omega⟩, s0.2.2, ?_⟩
      refine ⟨xs.length - (i + 1), ⟨[(0, sv (some ⟨b, 0, none⟩) xs), (1, .int .i64 (k + 1 * ((i + 1 : Nat) : Int))), (5, .int .i64 ((i + 1 : Nat) : Int))], []⟩, by omega, ⟨⟨rfl, trivial, congrArg (fun x => some (Value.int .i64 x)) (show (IntKind.i64.wrap ((k + 1 * (i : Int)) + 1)) = k + 1 * ((i + 1 : Nat) : Int) by rw [e1]; omega), trivial, congrArg (fun x => some (Value.int .i64 x)) (wrap_nat (by omega)), trivial, trivial⟩, trivial⟩, i + 1, by omega, rfl, rfl, ?_, hbut.trans s0.2.1⟩
      have hset : ys.set i ((k + 1 * (i : Int))) = mkInt k (i + 1) ++ xs.drop (i + 1) := by
        rw [← hys, mkInt_succ, List.set_append, if_neg (by simp), mkInt_len, Nat.sub_self, List.drop_eq_getElem_cons hlt, List.set_cons_zero, List.append_assoc]
        rfl
      rw [← hset]
      exact .blk hbase s0.1
  · have hi : i = xs.length := by simp at hge; omega
    subst hi
    refine ⟨rfl, ?_, hbut⟩
    rw [List.drop_of_length_le (Nat.le_refl _), List.append_nil] at hb
    exact hb
set_option maxHeartbeats 2000000 in
theorem heldIntS_pc (H : Heap) (a : Option Addr) (k : Int) (n : Nat) (h : Rd dInt H a (mkInt k n)) (hl : n ≤ 1048576) (hk0 : 0 ≤ k) (hk : k ≤ 1000000000) :
    PC Try.prog 28 [.slice a n n, .int .i64 k] H (.int .i64 (k + 1 * (n : Int))) := by
  refine EC_fn ctx (fun _ => true) Try.func28 rfl rfl rfl ?_
  have hml := mkInt_len k n
  refine loop_ind ctx (fun _ => true) (fun m E K => ∃ i : Nat, i ≤ n ∧ m = n - i ∧ E = ⟨[(0, .slice a n n), (1, .int .i64 (k + 1 * (i : Int))), (5, .int .i64 (i : Int))], []⟩ ∧ K = H)
    (E0 := ⟨[(0, .slice a n n), (1, .int .i64 k), (5, .int .i64 ((0 : Nat) : Int))], []⟩) ⟨0, Nat.zero_le _, rfl, ?_, rfl⟩ (by (refine ⟨?_, ?_⟩ <;> repeat' first | exact trivial | exact congrArg (fun x => some (Value.int .i64 x)) (wrap_nat (by omega)) | exact sv_eq (by simp; done) | exact rfl | refine ⟨?_, ?_⟩ | fail)) ?_
  · simp
  rintro m E K ⟨i, hi, rfl, rfl, rfl⟩
  refine ⟨fun hlt => ?_, fun hge => ?_⟩
  · have hlt : i < n := by simpa using hlt
    have hge : (mkInt k n)[i]? = some (mkInt1 (k + 1 * (i : Int))) := by simp [mkInt, hlt]
    have e1 : (IntKind.i64.wrap ((k + 1 * (i : Int)) + 1)) = k + 1 * (i : Int) + 1 := by rw [wrap_i64 (by omega) (by omega)]
    obtain ⟨b, o, rfl, c0⟩ := h.cell hge
    refine ⟨⟨by omega, by omega⟩, _, c0, fun hne => ?_, fun _ => ?_⟩
    · have hne : ((k + 1 * (i : Int)) != (k + 1 * (i : Int))) = true := hne
      simp at hne
    exact ⟨n - (i + 1), ⟨[(0, .slice (some ⟨b, o, none⟩) n n), (1, .int .i64 (k + 1 * ((i + 1 : Nat) : Int))), (5, .int .i64 ((i + 1 : Nat) : Int))], []⟩, by omega, ⟨⟨rfl, trivial, congrArg (fun x => some (Value.int .i64 x)) (show (IntKind.i64.wrap ((k + 1 * (i : Int)) + 1)) = k + 1 * ((i + 1 : Nat) : Int) by rw [e1]; omega), trivial, congrArg (fun x => some (Value.int .i64 x)) (wrap_nat (by omega)), trivial, trivial⟩, trivial⟩, i + 1, by omega, rfl, rfl, rfl⟩
  · have hi : i = n := by simp at hge; omega
    subst hi
    exact pint rfl
def mkByte1 (k : Int) : Int := IntKind.u8.wrap k
def mkByte (k : Int) (n : Nat) : List Int := (List.range n).map fun i : Nat => mkByte1 (k + 1 * (i : Int))
@[simp] theorem mkByte_len (k : Int) (n : Nat) : (mkByte k n).length = n := by simp [mkByte]
theorem mkByte_succ (k : Int) (n : Nat) : mkByte k (n + 1) = mkByte k n ++ [mkByte1 (k + 1 * (n : Int))] := by simp [mkByte, List.range_succ]
end Go.Proofs.Ytaaelokodfildaa

set_option linter.unusedVariables false
namespace Go.Proofs.Ytaaelokodfildaa
open Go.Am

def mkVal1 (k : Int) : Val := ⟨k, (k + 1), (k + 2), (k + 3), (k + 4), fI (k + 5)⟩
def mkVal (k : Int) (n : Nat) : List Val := (List.range n).map fun i : Nat => mkVal1 (k + 6 * (i : Int))
@[simp] theorem mkVal_len (k : Int) (n : Nat) : (mkVal k n).length = n := by simp [mkVal]
theorem mkVal_succ (k : Int) (n : Nat) : mkVal k (n + 1) = mkVal k n ++ [mkVal1 (k + 6 * (n : Int))] := by simp [mkVal, List.range_succ]
set_option maxHeartbeats 2000000 in
theorem markValS_ec (H : Heap) (a : Option Addr) (base : Nat) (xs : List Val) (k : Int) (h : Buf dVal H base a xs) (hl : xs.length ≤ 1048576) (hk0 : 0 ≤ k) (hk : k ≤ 1000000000) :
    EC Try.prog 27 [sv a xs, .int .i64 k] H fun r H' => r = .ret (.int .i64 (k + 6 * (xs.length : Int))) ∧ Buf dVal H' base a (mkVal k xs.length) ∧ But a H H' := by
  refine EC_fn ctx (fun _ => true) Try.func27 rfl rfl rfl ?_
  refine loop_ind ctx (fun _ => true) (fun m E K => ∃ i : Nat, i ≤ xs.length ∧ m = xs.length - i ∧ E = ⟨[(0, sv a xs), (1, .int .i64 (k + 6 * (i : Int))), (5, .int .i64 (i : Int))], []⟩ ∧ Buf dVal K base a (mkVal k i ++ xs.drop i) ∧ But a H K)
    (E0 := ⟨[(0, sv a xs), (1, .int .i64 k), (5, .int .i64 ((0 : Nat) : Int))], []⟩) ⟨0, Nat.zero_le _, rfl, ?_, ?_, But.refl _ _⟩ (by (refine ⟨?_, ?_⟩ <;> repeat' first | exact trivial | exact congrArg (fun x => some (Value.int .i64 x)) (wrap_nat (by omega)) | exact sv_eq (by simp; done) | exact rfl | refine ⟨?_, ?_⟩ | fail)) ?_
  · simp
  · simpa [mkVal] using h
  rintro m E K ⟨i, hi, rfl, rfl, hb, hbut⟩
  refine ⟨fun hlt => ?_, fun hge => ?_⟩
  · have hlt : i < xs.length := by simpa using hlt
    generalize hys : mkVal k i ++ xs.drop i = ys at hb
    have hyl : ys.length = xs.length := by rw [← hys]; simp; omega
    have hiy : i < ys.length := by omega
    have e1 : (IntKind.i64.wrap ((k + 6 * (i : Int)) + 1)) = k + 6 * (i : Int) + 1 := by rw [wrap_i64 (by omega) (by omega)]
    have e2 : (IntKind.i64.wrap ((IntKind.i64.wrap ((k + 6 * (i : Int)) + 1)) + 1)) = k + 6 * (i : Int) + 2 := by rw [e1]; rw [wrap_i64 (by omega) (by omega)]; omega
    have e3 : (IntKind.i64.wrap ((IntKind.i64.wrap ((IntKind.i64.wrap ((k + 6 * (i : Int)) + 1)) + 1)) + 1)) = k + 6 * (i : Int) + 3 := by rw [e2]; rw [wrap_i64 (by omega) (by omega)]; omega
    have e4 : (IntKind.i64.wrap ((IntKind.i64.wrap ((IntKind.i64.wrap ((IntKind.i64.wrap ((k + 6 * (i : Int)) + 1)) + 1)) + 1)) + 1)) = k + 6 * (i : Int) + 4 := by rw [e3]; rw [wrap_i64 (by omega) (by omega)]; omega
    have e5 : (IntKind.i64.wrap ((IntKind.i64.wrap ((IntKind.i64.wrap ((IntKind.i64.wrap ((IntKind.i64.wrap ((k + 6 * (i : Int)) + 1)) + 1)) + 1)) + 1)) + 1)) = k + 6 * (i : Int) + 5 := by rw [e4]; rw [wrap_i64 (by omega) (by omega)]; omega
    have e6 : (IntKind.i64.wrap ((IntKind.i64.wrap ((IntKind.i64.wrap ((IntKind.i64.wrap ((IntKind.i64.wrap ((IntKind.i64.wrap ((k + 6 * (i : Int)) + 1)) + 1)) + 1)) + 1)) + 1)) + 1)) = k + 6 * (i : Int) + 6 := by rw [e5]; rw [wrap_i64 (by omega) (by omega)]; omega
    cases hb with
    | nil => simp at hyl; omega
    | @blk b _ hbase hblk =>
      have s : K.blk b = some (.cells (flat dVal (ys.set i ys[i])) (dVal).sz true) := by rw [List.set_getElem_self]; exact hblk
      have s0 := stor_fld dVal (s) hiy (f := 0) (o := 0 + i * 6 + 0) (by show _ = i * 6 + 0; omega) (by decide) ((⟨(k + 6 * (i : Int)), (ys[i]).len, (ys[i]).a, (ys[i]).b, (ys[i]).c, (ys[i]).k⟩ : Val)) (v := .int .i64 (k + 6 * (i : Int))) rfl
      have s1 := stor_fld dVal (s0.1) hiy (f := 1) (o := 0 + i * 6 + 1) (by show _ = i * 6 + 1; omega) (by decide) ((⟨(k + 6 * (i : Int)), (IntKind.i64.wrap ((k + 6 * (i : Int)) + 1)), (ys[i]).a, (ys[i]).b, (ys[i]).c, (ys[i]).k⟩ : Val)) (v := .int .i64 (IntKind.i64.wrap ((k + 6 * (i : Int)) + 1))) rfl
      have s2 := stor_fld dVal (s1.1) hiy (f := 2) (o := 0 + i * 6 + 2) (by show _ = i * 6 + 2; omega) (by decide) ((⟨(k + 6 * (i : Int)), (IntKind.i64.wrap ((k + 6 * (i : Int)) + 1)), (IntKind.i64.wrap ((IntKind.i64.wrap ((k + 6 * (i : Int)) + 1)) + 1)), (ys[i]).b, (ys[i]).c, (ys[i]).k⟩ : Val)) (v := .int .i64 (IntKind.i64.wrap ((IntKind.i64.wrap ((k + 6 * (i : Int)) + 1)) + 1))) rfl
      have s3 := stor_fld dVal (s2.1) hiy (f := 3) (o := 0 + i * 6 + 3) (by show _ = i * 6 + 3; omega) (by decide) ((⟨(k + 6 * (i : Int)), (IntKind.i64.wrap ((k + 6 * (i : Int)) + 1)), (IntKind.i64.wrap ((IntKind.i64.wrap ((k + 6 * (i : Int)) + 1)) + 1)), (IntKind.i64.wrap ((IntKind.i64.wrap ((IntKind.i64.wrap ((k + 6 * (i : Int)) + 1)) + 1)) + 1)), (ys[i]).c, (ys[i]).k⟩ : Val)) (v := .int .i64 (IntKind.i64.wrap ((IntKind.i64.wrap ((IntKind.i64.wrap ((k + 6 * (i : Int)) + 1)) + 1)) + 1))) rfl
      have s4 := stor_fld dVal (s3.1) hiy (f := 4) (o := 0 + i * 6 + 4) (by show _ = i * 6 + 4; omega) (by decide) ((⟨(k + 6 * (i : Int)), (IntKind.i64.wrap ((k + 6 * (i : Int)) + 1)), (IntKind.i64.wrap ((IntKind.i64.wrap ((k + 6 * (i : Int)) + 1)) + 1)), (IntKind.i64.wrap ((IntKind.i64.wrap ((IntKind.i64.wrap ((k + 6 * (i : Int)) + 1)) + 1)) + 1)), (IntKind.i64.wrap ((IntKind.i64.wrap ((IntKind.i64.wrap ((IntKind.i64.wrap ((k + 6 * (i : Int)) + 1)) + 1)) + 1)) + 1)), (ys[i]).k⟩ : Val)) (v := .int .i64 (IntKind.i64.wrap ((IntKind.i64.wrap ((IntKind.i64.wrap ((IntKind.i64.wrap ((k + 6 * (i : Int)) + 1)) + 1)) + 1)) + 1))) rfl
      have s5 := stor_fld dVal (s4.1) hiy (f := 5) (o := 0 + i * 6 + 5) (by show _ = i * 6 + 5; omega) (by decide) ((⟨(k + 6 * (i : Int)), (IntKind.i64.wrap ((k + 6 * (i : Int)) + 1)), (IntKind.i64.wrap ((IntKind.i64.wrap ((k + 6 * (i : Int)) + 1)) + 1)), (IntKind.i64.wrap ((IntKind.i64.wrap ((IntKind.i64.wrap ((k + 6 * (i : Int)) + 1)) + 1)) + 1)), (IntKind.i64.wrap ((IntKind.i64.wrap ((IntKind.i64.wrap ((IntKind.i64.wrap ((k + 6 * (i : Int)) + 1)) + 1)) + 1)) + 1)), fI (IntKind.i64.wrap ((IntKind.i64.wrap ((IntKind.i64.wrap ((IntKind.i64.wrap ((IntKind.i64.wrap ((k + 6 * (i : Int)) + 1)) + 1)) + 1)) + 1)) + 1))⟩ : Val)) (v := .float .f64 (fI (IntKind.i64.wrap ((IntKind.i64.wrap ((IntKind.i64.wrap ((IntKind.i64.wrap ((IntKind.i64.wrap ((k + 6 * (i : Int)) + 1)) + 1)) + 1)) + 1)) + 1)))) rfl
      refine ⟨⟨by omega, by omega⟩, s0.2.2, ⟨by omega, by omega⟩, s1.2.2, ⟨by omega, by omega⟩, s2.2.2, ⟨by omega, by omega⟩, s3.2.2, ⟨by omega, by omega⟩, s4.2.2, ⟨by omega, by omega⟩, s5.2.2, ?_⟩
      refine ⟨xs.length - (i + 1), ⟨[(0, sv (some ⟨b, 0, none⟩) xs), (1, .int .i64 (k + 6 * ((i + 1 : Nat) : Int))), (5, .int .i64 ((i + 1 : Nat) : Int))], []⟩, by omega, ⟨⟨rfl, trivial, congrArg (fun x => some (Value.int .i64 x)) (show (IntKind.i64.wrap ((IntKind.i64.wrap ((IntKind.i64.wrap ((IntKind.i64.wrap ((IntKind.i64.wrap ((IntKind.i64.wrap ((k + 6 * (i : Int)) + 1)) + 1)) + 1)) + 1)) + 1)) + 1)) = k + 6 * ((i + 1 : Nat) : Int) by rw [e6]; omega), trivial, congrArg (fun x => some (Value.int .i64 x)) (wrap_nat (by omega)), trivial, trivial⟩, trivial⟩, i + 1, by omega, rfl, rfl, ?_, hbut.trans (((((s0.2.1.trans s1.2.1).trans s2.2.1).trans s3.2.1).trans s4.2.1).trans s5.2.1)⟩
      have hset : ys.set i (⟨(k + 6 * (i : Int)), (IntKind.i64.wrap ((k + 6 * (i : Int)) + 1)), (IntKind.i64.wrap ((IntKind.i64.wrap ((k + 6 * (i : Int)) + 1)) + 1)), (IntKind.i64.wrap ((IntKind.i64.wrap ((IntKind.i64.wrap ((k + 6 * (i : Int)) + 1)) + 1)) + 1)), (IntKind.i64.wrap ((IntKind.i64.wrap ((IntKind.i64.wrap ((IntKind.i64.wrap ((k + 6 * (i : Int)) + 1)) + 1)) + 1)) + 1)), fI (IntKind.i64.wrap ((IntKind.i64.wrap ((IntKind.i64.wrap ((IntKind.i64.wrap ((IntKind.i64.wrap ((k + 6 * (i : Int)) + 1)) + 1)) + 1)) + 1)) + 1))⟩) = mkVal k (i + 1) ++ xs.drop (i + 1) := by
        rw [e5, e4, e3, e2, e1]
        rw [← hys, mkVal_succ, List.set_append, if_neg (by simp), mkVal_len, Nat.sub_self, List.drop_eq_getElem_cons hlt, List.set_cons_zero, List.append_assoc]
        rfl
      rw [← hset]
      exact .blk hbase s5.1
  · have hi : i = xs.length := by simp at hge; omega
    subst hi
    refine ⟨rfl, ?_, hbut⟩
    rw [List.drop_of_length_le (Nat.le_refl _), List.append_nil] at hb
    exact hb
set_option maxHeartbeats 2000000 in
theorem heldValS_pc (H : Heap) (a : Option Addr) (k : Int) (n : Nat) (h : Rd dVal H a (mkVal k n)) (hl : n ≤ 1048576) (hk0 : 0 ≤ k) (hk : k ≤ 1000000000) :
    PC Try.prog 29 [.slice a n n, .int .i64 k] H (.int .i64 (k + 6 * (n : Int))) := by
  refine EC_fn ctx (fun _ => true) Try.func29 rfl rfl rfl ?_
  have hml := mkVal_len k n
  refine loop_ind ctx (fun _ => true) (fun m E K => ∃ i : Nat, i ≤ n ∧ m = n - i ∧ E = ⟨[(0, .slice a n n), (1, .int .i64 (k + 6 * (i : Int))), (5, .int .i64 (i : Int))], []⟩ ∧ K = H)
    (E0 := ⟨[(0, .slice a n n), (1, .int .i64 k), (5, .int .i64 ((0 : Nat) : Int))], []⟩) ⟨0, Nat.zero_le _, rfl, ?_, rfl⟩ (by (refine ⟨?_, ?_⟩ <;> repeat' first | exact trivial | exact congrArg (fun x => some (Value.int .i64 x)) (wrap_nat (by omega)) | exact sv_eq (by simp; done) | exact rfl | refine ⟨?_, ?_⟩ | fail)) ?_
  · simp
  rintro m E K ⟨i, hi, rfl, rfl, rfl⟩
  refine ⟨fun hlt => ?_, fun hge => ?_⟩
  · have hlt : i < n := by simpa using hlt
    have hge : (mkVal k n)[i]? = some (mkVal1 (k + 6 * (i : Int))) := by simp [mkVal, hlt]
    have e1 : (IntKind.i64.wrap ((k + 6 * (i : Int)) + 1)) = k + 6 * (i : Int) + 1 := by rw [wrap_i64 (by omega) (by omega)]
    have e2 : (IntKind.i64.wrap ((IntKind.i64.wrap ((k + 6 * (i : Int)) + 1)) + 1)) = k + 6 * (i : Int) + 2 := by rw [e1]; rw [wrap_i64 (by omega) (by omega)]; omega
    have e3 : (IntKind.i64.wrap ((IntKind.i64.wrap ((IntKind.i64.wrap ((k + 6 * (i : Int)) + 1)) + 1)) + 1)) = k + 6 * (i : Int) + 3 := by rw [e2]; rw [wrap_i64 (by omega) (by omega)]; omega
    have e4 : (IntKind.i64.wrap ((IntKind.i64.wrap ((IntKind.i64.wrap ((IntKind.i64.wrap ((k + 6 * (i : Int)) + 1)) + 1)) + 1)) + 1)) = k + 6 * (i : Int) + 4 := by rw [e3]; rw [wrap_i64 (by omega) (by omega)]; omega
    have e5 : (IntKind.i64.wrap ((IntKind.i64.wrap ((IntKind.i64.wrap ((IntKind.i64.wrap ((IntKind.i64.wrap ((k + 6 * (i : Int)) + 1)) + 1)) + 1)) + 1)) + 1)) = k + 6 * (i : Int) + 5 := by rw [e4]; rw [wrap_i64 (by omega) (by omega)]; omega
    have e6 : (IntKind.i64.wrap ((IntKind.i64.wrap ((IntKind.i64.wrap ((IntKind.i64.wrap ((IntKind.i64.wrap ((IntKind.i64.wrap ((k + 6 * (i : Int)) + 1)) + 1)) + 1)) + 1)) + 1)) + 1)) = k + 6 * (i : Int) + 6 := by rw [e5]; rw [wrap_i64 (by omega) (by omega)]; omega
    obtain ⟨b, o, rfl, c0, c1, c2, c3, c4, c5⟩ := h.valF hge
    refine ⟨⟨by omega, by omega⟩, _, c0, fun hne => ?_, fun _ => ?_⟩
    · have hne : ((k + 6 * (i : Int)) != (k + 6 * (i : Int))) = true := hne
      simp at hne
    refine ⟨⟨by omega, by omega⟩, _, c1, fun hne => ?_, fun _ => ?_⟩
    · have hne : ((k + 6 * (i : Int) + 1) != (IntKind.i64.wrap ((k + 6 * (i : Int)) + 1))) = true := hne
      rw [e1] at hne
      simp at hne
    refine ⟨⟨by omega, by omega⟩, _, c2, fun hne => ?_, fun _ => ?_⟩
    · have hne : ((k + 6 * (i : Int) + 2) != (IntKind.i64.wrap ((IntKind.i64.wrap ((k + 6 * (i : Int)) + 1)) + 1))) = true := hne
      rw [e2] at hne
      simp at hne
    refine ⟨⟨by omega, by omega⟩, _, c3, fun hne => ?_, fun _ => ?_⟩
    · have hne : ((k + 6 * (i : Int) + 3) != (IntKind.i64.wrap ((IntKind.i64.wrap ((IntKind.i64.wrap ((k + 6 * (i : Int)) + 1)) + 1)) + 1))) = true := hne
      rw [e3] at hne
      simp at hne
    refine ⟨⟨by omega, by omega⟩, _, c4, fun hne => ?_, fun _ => ?_⟩
    · have hne : ((k + 6 * (i : Int) + 4) != (IntKind.i64.wrap ((IntKind.i64.wrap ((IntKind.i64.wrap ((IntKind.i64.wrap ((k + 6 * (i : Int)) + 1)) + 1)) + 1)) + 1))) = true := hne
      rw [e4] at hne
      simp at hne
    refine ⟨⟨by omega, by omega⟩, _, c5, fun hne => ?_, fun _ => ?_⟩
    · have hne : (ordF (fI (k + 6 * (i : Int) + 5)) (fI (IntKind.i64.wrap ((IntKind.i64.wrap ((IntKind.i64.wrap ((IntKind.i64.wrap ((IntKind.i64.wrap ((k + 6 * (i : Int)) + 1)) + 1)) + 1)) + 1)) + 1))) != some .eq) = true := hne
      rw [e5] at hne
      rw [fI_ne] at hne; cases hne
    exact ⟨n - (i + 1), ⟨[(0, .slice (some ⟨b, o, none⟩) n n), (1, .int .i64 (k + 6 * ((i + 1 : Nat) : Int))), (5, .int .i64 ((i + 1 : Nat) : Int))], []⟩, by omega, ⟨⟨rfl, trivial, congrArg (fun x => some (Value.int .i64 x)) (show (IntKind.i64.wrap ((IntKind.i64.wrap ((IntKind.i64.wrap ((IntKind.i64.wrap ((IntKind.i64.wrap ((IntKind.i64.wrap ((k + 6 * (i : Int)) + 1)) + 1)) + 1)) + 1)) + 1)) + 1)) = k + 6 * ((i + 1 : Nat) : Int) by rw [e6]; omega), trivial, congrArg (fun x => some (Value.int .i64 x)) (wrap_nat (by omega)), trivial, trivial⟩, trivial⟩, i + 1, by omega, rfl, rfl, rfl⟩
  · have hi : i = n := by simp at hge; omega
    subst hi
    exact pint rfl
end Go.Proofs.Ytaaelokodfildaa
