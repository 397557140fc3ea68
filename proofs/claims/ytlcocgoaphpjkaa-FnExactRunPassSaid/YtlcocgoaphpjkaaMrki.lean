/- The laws' marks over slices. Written by wip/am/genmark.py. Conditions: lists of at most 2^20 elements. -/
import Derived.Test.YtlcocgoaphpjkaaDat
import Derived.Test.YtlcocgoaphpjkaaFi
set_option linter.unusedVariables false
set_option linter.unusedSimpArgs false
namespace Go.Proofs.Ytlcocgoaphpjkaa
open Go.Am

def mkInt1 (k : Int) : Int := k
def mkInt (k : Int) (n : Nat) : List Int := (List.range n).map fun i : Nat => mkInt1 (k + 1 * (i : Int))
@[simp] theorem mkInt_len (k : Int) (n : Nat) : (mkInt k n).length = n := by simp [mkInt]
theorem mkInt_succ (k : Int) (n : Nat) : mkInt k (n + 1) = mkInt k n ++ [mkInt1 (k + 1 * (n : Int))] := by simp [mkInt, List.range_succ]
set_option maxHeartbeats 2000000 in
theorem markIntS_ec (H : Heap) (a : Option Addr) (base : Nat) (xs : List Int) (k : Int) (h : Buf dInt H base a xs) (hl : xs.length ≤ 1048576) (hk0 : 0 ≤ k) (hk : k ≤ 1000000000) :
    EC Try.prog 23 [sv a xs, .int .i64 k] H fun r H' => r = .ret (.int .i64 (k + 1 * (xs.length : Int))) ∧ Buf dInt H' base a (mkInt k xs.length) ∧ But a H H' := by
  refine EC_fn ctx (fun _ => true) Try.func23 rfl rfl rfl ?_
  refine loop_ind ctx (fun _ => true) (fun m E K => ∃ i : Nat, i ≤ xs.length ∧ m = xs.length - i ∧ E = ⟨[(0, sv a xs), (1, .int .i64 (k + 1 * (i : Int))), (5, .int .i64 (i : Int))], []⟩ ∧ Buf dInt K base a (mkInt k i ++ xs.drop i) ∧ But a H K)
    (E0 := ⟨[(0, sv a xs), (1, .int .i64 k), (5, .int .i64 ((0 : Nat) : Int))], []⟩) ⟨0, Nat.zero_le _, rfl, ?_, ?_, But.refl _ _⟩ (by (refine ⟨?_, ?_⟩ <;> repeat' first | exact trivial | exact congrArg (fun x => some (Value.int .i64 x)) (wrap_nat (by omega)) | exact sv_eq (by simp; done) | exact rfl | refine ⟨?_, ?_⟩ | fail)) ?_
  · simp
  · simpa [mkInt] using h
  rintro m E K ⟨i, hi, rfl, rfl, hb, hbut⟩
  refine ⟨fun hlt => ?_, fun hge => ?_⟩
  · have hlt : i < xs.length := by simpa using hlt
    generalize hys : mkInt k i ++ xs.drop i = ys at hb
    have hyl : ys.length = xs.length := by rw [← hys]; simp; omega
    have hiy : i < ys.length := by omega
    have e1 : (IntKind.i64.wrap ((k + 1 * (i : Int)) + 1)) = k + 1 * (i : Int) + 1 := by rw [wrap_i64 (by omega) (by omega)]
    cases hb with
    | nil => simp at hyl; omega
    | @blk b _ hbase hblk =>
      have s : K.blk b = some (.cells (flat dInt (ys.set i ys[i])) (dInt).sz true) := by rw [List.set_getElem_self]; exact hblk
      have s0 := stor_fld dInt (s) hiy (f := 0) (o := 0 + i * 1) (by show _ = i * 1 + 0; omega) (by decide) ((k + 1 * (i : Int))) (v := .int .i64 (k + 1 * (i : Int))) rfl
      refine ⟨⟨by omega, by omega⟩, s0.2.2, ?_⟩
      refine ⟨xs.length - (i + 1), ⟨[(0, sv (some ⟨b, 0, none⟩) xs), (1, .int .i64 (k + 1 * ((i + 1 : Nat) : Int))), (5, .int .i64 ((i + 1 : Nat) : Int))], []⟩, by omega, ⟨⟨rfl, trivial, congrArg (fun x => some (Value.int .i64 x)) (show (IntKind.i64.wrap ((k + 1 * (i : Int)) + 1)) = k + 1 * ((i + 1 : Nat) : Int) by rw [e1]; omega), trivial, congrArg (fun x => some (Value.int .i64 x)) (wrap_nat (by omega)), trivial, trivial⟩, trivial⟩, i + 1, by omega, rfl, rfl, ?_, hbut.trans s0.2.1⟩
      have hset : ys.set i ((k + 1 * (i : Int))) = mkInt k (i + 1) ++ xs.drop (i + 1) := by
        rw [← hys, mkInt_succ, List.set_append, if_neg (by simp), mkInt_len, Nat.sub_self, List.drop_eq_getElem_cons hlt, List.set_cons_zero, List.append_assoc]
        rfl
      rw [← hset]
      exact .blk hbase s0.1
  · have hi : i = xs.length := by simp at hge; omega
    subst hi
    refine ⟨rfl, ?_, hbut⟩
    rw [List.drop_of_length_le (Nat.le_refl _), List.append_nil] at hb
    exact hb
set_option maxHeartbeats 2000000 in
theorem heldIntS_pc (H : Heap) (a : Option Addr) (k : Int) (n : Nat) (h : Rd dInt H a (mkInt k n)) (hl : n ≤ 1048576) (hk0 : 0 ≤ k) (hk : k ≤ 1000000000) :
    PC Try.prog 25 [.slice a n n, .int .i64 k] H (.int .i64 (k + 1 * (n : Int))) := by
  refine EC_fn ctx (fun _ => true) Try.func25 rfl rfl rfl ?_
  have hml := mkInt_len k n
  refine loop_ind ctx (fun _ => true) (fun m E K => ∃ i : Nat, i ≤ n ∧ m = n - i ∧ E = ⟨[(0, .slice a n n), (1, .int .i64 (k + 1 * (i : Int))), (5, .int .i64 (i : Int))], []⟩ ∧ K = H)
    (E0 := ⟨[(0, .slice a n n), (1, .int .i64 k), (5, .int .i64 ((0 : Nat) : Int))], []⟩) ⟨0, Nat.zero_le _, rfl, ?_, rfl⟩ (by (refine ⟨?_, ?_⟩ <;> repeat' first | exact trivial | exact congrArg (fun x => some (Value.int .i64 x)) (wrap_nat (by omega)) | exact sv_eq (by simp; done) | exact rfl | refine ⟨?_, ?_⟩ | fail)) ?_
  · simp
  rintro m E K ⟨i, hi, rfl, rfl, rfl⟩
  refine ⟨fun hlt => ?_, fun hge => ?_⟩
  · have hlt : i < n := by simpa using hlt
    have hge : (mkInt k n)[i]? = some (mkInt1 (k + 1 * (i : Int))) := by simp [mkInt, hlt]
    have e1 : (IntKind.i64.wrap ((k + 1 * (i : Int)) + 1)) = k + 1 * (i : Int) + 1 := by rw [wrap_i64 (by omega) (by omega)]
    obtain ⟨b, o, rfl, c0⟩ := h.cell hge
    refine ⟨⟨by omega, by omega⟩, _, c0, fun hne => ?_, fun _ => ?_⟩
    · have hne : ((k + 1 * (i : Int)) != (k + 1 * (i : Int))) = true := hne
      simp at hne
    exact ⟨n - (i + 1), ⟨[(0, .slice (some ⟨b, o, none⟩) n n), (1, .int .i64 (k + 1 * ((i + 1 : Nat) : Int))), (5, .int .i64 ((i + 1 : Nat) : Int))], []⟩, by omega, ⟨⟨rfl, trivial, congrArg (fun x => some (Value.int .i64 x)) (show (IntKind.i64.wrap ((k + 1 * (i : Int)) + 1)) = k + 1 * ((i + 1 : Nat) : Int) by rw [e1]; omega), trivial, congrArg (fun x => some (Value.int .i64 x)) (wrap_nat (by omega)), trivial, trivial⟩, trivial⟩, i + 1, by omega, rfl, rfl, rfl⟩
  · have hi : i = n := by simp at hge; omega
    subst hi
    exact pint rfl
def mkByte1 (k : Int) : Int := IntKind.u8.wrap k
def mkByte (k : Int) (n : Nat) : List Int := (List.range n).map fun i : Nat => mkByte1 (k + 1 * (i : Int))
@[simp] theorem mkByte_len (k : Int) (n : Nat) : (mkByte k n).length = n := by simp [mkByte]
theorem mkByte_succ (k : Int) (n : Nat) : mkByte k (n + 1) = mkByte k n ++ [mkByte1 (k + 1 * (n : Int))] := by simp [mkByte, List.range_succ]
end Go.Proofs.Ytlcocgoaphpjkaa
