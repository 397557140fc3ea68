/- foldPass: the program's, walked. Conditions: those of each. -/
import Derived.Test.YtlcocgoaphpjkaaPsn
import Derived.Test.YtlcocgoaphpjkaaPsl
set_option linter.unusedVariables false
set_option linter.unusedSimpArgs false
namespace Go.Proofs.Ytlcocgoaphpjkaa
open Go.Am
open FlCore (canon isNan)

def slAt (es : List SlE) (i : Nat) : Value := match es[i]? with
  | some e => .slice e.1 e.2.length e.2.length
  | none => .slice none 0 0
theorem slAt_def (es : List SlE) (i : Nat) : slAt es i = match es[i]? with
  | some e => .slice e.1 e.2.length e.2.length
  | none => .slice none 0 0 := rfl
set_option maxHeartbeats 2000000 in
theorem foldPass_ec (H : Heap) (lo hi : Nat) (p q r : Option Addr) (g : Graph) (hv : validB g = true) (og : OwnG H lo hi p q r g) (hlo : lo ≤ hi) (hn : hi ≤ H.next) :
    EC Try.prog 38 [gV p q r g] H (PR H lo hi (foldG g)) := by
  obtain ⟨h1, h2, h3⟩ := valid_lens hv
  have hops := valid_ops hv
  refine EC_fn ctx (fun _ => true) Try.func38 rfl rfl rfl ?_
  refine loop_ind ctx (fun _ => true) (fun m E K => ∃ k : Nat, k ≤ g.vals.length ∧ m = g.vals.length - k ∧ E = ⟨[(1, .pointer (some ⟨0, 0, some 0⟩)), (2, .pointer (some ⟨1, 0, some 0⟩)), (15, .slice q g.vals.length g.vals.length), (16, .int .i64 (g.vals.length : Int)), (17, .int .i64 ((k : Nat) : Int))], [[sv p g.ins, .slice q g.vals.length g.vals.length, sv r g.outs], [.slice none 0 0, .slice none 0 0, .slice none 0 0]]⟩ ∧ OwnG K lo hi p q r ⟨g.ins, curF g.vals k, g.outs⟩ ∧ Out lo hi H K)
    (E0 := ⟨[(1, .pointer (some ⟨0, 0, some 0⟩)), (2, .pointer (some ⟨1, 0, some 0⟩)), (15, .slice q g.vals.length g.vals.length), (16, .int .i64 (g.vals.length : Int)), (17, .int .i64 ((0 : Nat) : Int))], [[sv p g.ins, .slice q g.vals.length g.vals.length, sv r g.outs], [.slice none 0 0, .slice none 0 0, .slice none 0 0]]⟩) ⟨0, Nat.zero_le _, rfl, rfl, by rw [curF_zero]; exact og, Out.of_ext (Ext.refl _)⟩ (by (refine ⟨?_, ?_⟩ <;> repeat' first | exact trivial | exact congrArg (fun x => some (Value.int .i64 x)) (wrap_nat (by omega)) | exact sv_eq (by simp; done) | exact rfl | refine ⟨?_, ?_⟩ | fail)) ?_
  clear og
  rintro m E K ⟨k, hk, rfl, rfl, og, o⟩
  have hcl := curF_len (vals := g.vals) hk
  refine ⟨fun hlt => ?_, fun hge => ?_⟩
  · have hlt : k < g.vals.length := by simpa using hlt
    obtain ⟨bq, rfl⟩ := bufV_some og.s (by show 0 < (curF g.vals k).length; omega)
    have hva := (valF_at og.s.rd (i := (k : Int)) (by omega) (by show _ < ((curF g.vals k).length : Int); omega)).2.2.2.2
    rw [show (⟨g.ins, curF g.vals k, g.outs⟩ : Graph).vals = curF g.vals k from rfl, curF_get hlt] at hva
    have hxv := List.getElem?_eq_getElem hlt
    have hin : OpsIn g.vals[k] k := hops k _ hxv
    have hvl := valid_len hv hxv
    have hwk := wrap_nat (k := k) (by omega)
    have h3o := opnd3 g.vals[k].op
    have hal := argsL_len g.vals[k]
    have hargs := args_in hin
    refine ⟨⟨by omega, by omega⟩, valV g.vals[k], hva, _, operandsOf2_ec K g.vals[k], ?_, fun v K hR => by cases hR.1⟩
    obtain ⟨Ka, rfl⟩ : ∃ Ka, Ka = K := ⟨K, rfl⟩
    rintro _ K1 ⟨hx, rfl⟩
    cases hx
    have hra := args_rd Ka g.vals[k]
    have hal0 : decide (((argsL g.vals[k]).length : Int) > 0) = (decide (0 < opnd g.vals[k].op) && ((argsL g.vals[k]).take 0).all fun o => decide ((vAtI (fl g.vals k) o).op = 1)) := by simp [hal]; omega
    refine loop_ind ctx (fun _ => true) (fun m E K => ∃ (j : Nat) (es : List SlE), j ≤ (argsL g.vals[k]).length ∧ m = (argsL g.vals[k]).length - j ∧ E = ⟨[(1, .pointer (some ⟨0, 0, some 0⟩)), (2, .pointer (some ⟨1, 0, some 0⟩)), (15, .slice (some ⟨bq, 0, none⟩) g.vals.length g.vals.length), (16, .int .i64 (g.vals.length : Int)), (17, .int .i64 (k : Int)), (3, .int .i64 (k : Int)), (4, .pointer (some ⟨2, 0, some 0⟩)), (6, .pointer (some ⟨3, 0, some 0⟩)), (7, .bool (decide (0 < opnd g.vals[k].op) && ((argsL g.vals[k]).take j).all fun o => decide ((vAtI (fl g.vals k) o).op = 1))), (28, .slice (some ⟨Ka.next, 0, none⟩) (argsL g.vals[k]).length (argsL g.vals[k]).length), (29, .int .i64 ((argsL g.vals[k]).length : Int)), (30, .int .i64 ((j : Nat) : Int))], [[sv p g.ins, .slice (some ⟨bq, 0, none⟩) g.vals.length g.vals.length, sv r g.outs], [.slice none 0 0, .slice none 0 0, .slice none 0 0], vcells g.vals[k], [slAt es 0, slAt es 1, slAt es 2]]⟩ ∧ snds es = ((List.range j).map fun j : Nat => partF (fl g.vals k) g.vals[k] j) ∧ (∀ e ∈ es, Rd dFlt K e.1 e.2) ∧ Ext (Ka.push (.cells (flat dInt [g.vals[k].a, g.vals[k].b, g.vals[k].c]) 1 true)) K)
      (E0 := ⟨[(1, .pointer (some ⟨0, 0, some 0⟩)), (2, .pointer (some ⟨1, 0, some 0⟩)), (15, .slice (some ⟨bq, 0, none⟩) g.vals.length g.vals.length), (16, .int .i64 (g.vals.length : Int)), (17, .int .i64 (k : Int)), (3, .int .i64 (k : Int)), (4, .pointer (some ⟨2, 0, some 0⟩)), (6, .pointer (some ⟨3, 0, some 0⟩)), (7, .bool (decide (0 < opnd g.vals[k].op) && ((argsL g.vals[k]).take 0).all fun o => decide ((vAtI (fl g.vals k) o).op = 1))), (28, .slice (some ⟨Ka.next, 0, none⟩) (argsL g.vals[k]).length (argsL g.vals[k]).length), (29, .int .i64 ((argsL g.vals[k]).length : Int)), (30, .int .i64 ((0 : Nat) : Int))], [[sv p g.ins, .slice (some ⟨bq, 0, none⟩) g.vals.length g.vals.length, sv r g.outs], [.slice none 0 0, .slice none 0 0, .slice none 0 0], vcells g.vals[k], [.slice none 0 0, .slice none 0 0, .slice none 0 0]]⟩) ⟨0, [], Nat.zero_le _, rfl, rfl, rfl, (fun e h => by cases h), Ext.refl _⟩ (by rw [← hal0]; (refine ⟨?_, ?_⟩ <;> repeat' first | exact trivial | exact congrArg (fun x => some (Value.int .i64 x)) (wrap_nat (by omega)) | exact sv_eq (by simp; done) | exact rfl | refine ⟨?_, ?_⟩ | fail)) ?_
    rintro m E K2 ⟨j, es, hj, rfl, rfl, hsn, hes, eKa⟩
    have hel : es.length = j := by have := congrArg List.length hsn; simpa [snds] using this
    have eK2 : Ext Ka K2 := (Ext.push _ _).trans eKa
    have og2 := og.mono eK2
    have o2 := o.trans (Out.of_ext eK2)
    refine ⟨fun hlt2 => ?_, fun hge2 => ?_⟩
    · have hjl : j < (argsL g.vals[k]).length := by simpa using hlt2
      have hjo : (j : Int) < opnd g.vals[k].op := by omega
      have hwj := wrap_nat (k := j) (by omega)
      have hPT : ((List.range (j + 1)).map fun j : Nat => partF (fl g.vals k) g.vals[k] j) = ((List.range j).map fun j : Nat => partF (fl g.vals k) g.vals[k] j) ++ [partF (fl g.vals k) g.vals[k] j] := by rw [List.range_succ, List.map_append]; rfl
      have hf := hargs _ (field_arg hjo)
      have c1 := at_cellI (hra.mono eKa) (j := (j : Int)) (by omega) (by omega)
      have hat : atV (argsL g.vals[k]) (j : Int) = fieldV g.vals[k] j := by unfold atV; rw [show ((j : Int)).toNat = j from rfl, argsL_get (by omega)]; rfl
      have hcA := valF_at og2.s.rd (i := fieldV g.vals[k] j) hf.1 (by show _ < ((curF g.vals k).length : Int); omega)
      rw [show (⟨g.ins, curF g.vals k, g.outs⟩ : Graph).vals = curF g.vals k from rfl, curF_at hf.1 hf.2] at hcA
      have hok := (fl_okLen hv (i := k) (by omega) hf.1 hf.2).2
      have hal1 : (decide (0 < opnd g.vals[k].op) && ((argsL g.vals[k]).take (j + 1)).all fun o => decide ((vAtI (fl g.vals k) o).op = 1)) = ((decide (0 < opnd g.vals[k].op) && ((argsL g.vals[k]).take j).all fun o => decide ((vAtI (fl g.vals k) o).op = 1)) && decide ((vAtI (fl g.vals k) (fieldV g.vals[k] j)).op = 1)) := by
        rw [args_take hjo, List.all_append, Bool.and_assoc]; simp
      have hpt : partF (fl g.vals k) g.vals[k] j = List.replicate (vAtI (fl g.vals k) (fieldV g.vals[k] j)).len.toNat (vAtI (fl g.vals k) (fieldV g.vals[k] j)).k := by unfold partF; rw [if_pos hjo]
      generalize fieldV g.vals[k] (j : Int) = x at *
      generalize vAtI (fl g.vals k) x = c at *
      have h3j : j = 0 ∨ j = 1 ∨ j = 2 := by omega
      rcases h3j with rfl | rfl | rfl
      · obtain rfl : es = [] := List.eq_nil_of_length_eq_zero hel
        refine ⟨⟨by omega, by omega⟩, .int .i64 x, by rw [← hat]; exact c1, fun _ => ⟨hf.1, by omega⟩, .int .i64 c.op, fun _ => hcA.1, ?_⟩
        refine ⟨.leaf [([0, 1, 2, 3, 4, 5, 6, 7, 8, 9, 10, 11, 12], some 13), ([14], some 15), ([], none)] [0], by kernel_rfl, ⟨hf.1, by omega⟩, .int .i64 c.len, hcA.2.1, ⟨hf.1, by omega⟩, .float .f64 c.k, hcA.2.2.2.1, ?_⟩
        refine ⟨_, filled_ec' K2 c.len c.k (by simp [okLen] at hok; omega) (by simp [okLen] at hok; omega), ?_, fun v K hR => by cases hR.1⟩
        rintro _ K3 ⟨hx, rfl⟩
        cases hx
        rw [← hpt]
        refine ⟨⟨by omega, by omega⟩, ?_⟩
        refine ⟨(argsL g.vals[k]).length - (0 + 1), ⟨[(1, .pointer (some ⟨0, 0, some 0⟩)), (2, .pointer (some ⟨1, 0, some 0⟩)), (15, .slice (some ⟨bq, 0, none⟩) g.vals.length g.vals.length), (16, .int .i64 (g.vals.length : Int)), (17, .int .i64 (k : Int)), (3, .int .i64 (k : Int)), (4, .pointer (some ⟨2, 0, some 0⟩)), (6, .pointer (some ⟨3, 0, some 0⟩)), (7, .bool (decide (0 < opnd g.vals[k].op) && ((argsL g.vals[k]).take (0 + 1)).all fun o => decide ((vAtI (fl g.vals k) o).op = 1))), (28, .slice (some ⟨Ka.next, 0, none⟩) (argsL g.vals[k]).length (argsL g.vals[k]).length), (29, .int .i64 ((argsL g.vals[k]).length : Int)), (30, .int .i64 ((0 + 1 : Nat) : Int))], [[sv p g.ins, .slice (some ⟨bq, 0, none⟩) g.vals.length g.vals.length, sv r g.outs], [.slice none 0 0, .slice none 0 0, .slice none 0 0], vcells g.vals[k], [slAt [(some ⟨K2.next, 0, none⟩, partF (fl g.vals k) g.vals[k] 0)] 0, slAt [(some ⟨K2.next, 0, none⟩, partF (fl g.vals k) g.vals[k] 0)] 1, slAt [(some ⟨K2.next, 0, none⟩, partF (fl g.vals k) g.vals[k] 0)] 2]]⟩, by omega, ?_, 0 + 1, [(some ⟨K2.next, 0, none⟩, partF (fl g.vals k) g.vals[k] 0)], by omega, rfl, rfl, by rw [hPT, ← hsn]; simp [snds], fun e he => ?_, eKa.trans (Ext.push _ _)⟩
        · rw [hal1, ← bif_and]
          exact (by (refine ⟨?_, ?_⟩ <;> repeat' first | exact trivial | exact congrArg (fun x => some (Value.int .i64 x)) hwj | exact rfl | refine ⟨?_, ?_⟩ | fail))
        · simp only [List.mem_cons, List.not_mem_nil, or_false] at he
          rcases he with rfl
          · exact Rd.push _ _
      · obtain ⟨e0, rfl⟩ := List.length_eq_one_iff.1 hel
        refine ⟨⟨by omega, by omega⟩, .int .i64 x, by rw [← hat]; exact c1, fun _ => ⟨hf.1, by omega⟩, .int .i64 c.op, fun _ => hcA.1, ?_⟩
        refine ⟨.leaf [([0, 1, 2, 3, 4, 5, 6, 7, 8, 9, 10, 11, 12], some 13), ([14], some 15), ([], none)] [0], by kernel_rfl, ⟨hf.1, by omega⟩, .int .i64 c.len, hcA.2.1, ⟨hf.1, by omega⟩, .float .f64 c.k, hcA.2.2.2.1, ?_⟩
        refine ⟨_, filled_ec' K2 c.len c.k (by simp [okLen] at hok; omega) (by simp [okLen] at hok; omega), ?_, fun v K hR => by cases hR.1⟩
        rintro _ K3 ⟨hx, rfl⟩
        cases hx
        rw [← hpt]
        refine ⟨⟨by omega, by omega⟩, ?_⟩
        refine ⟨(argsL g.vals[k]).length - (1 + 1), ⟨[(1, .pointer (some ⟨0, 0, some 0⟩)), (2, .pointer (some ⟨1, 0, some 0⟩)), (15, .slice (some ⟨bq, 0, none⟩) g.vals.length g.vals.length), (16, .int .i64 (g.vals.length : Int)), (17, .int .i64 (k : Int)), (3, .int .i64 (k : Int)), (4, .pointer (some ⟨2, 0, some 0⟩)), (6, .pointer (some ⟨3, 0, some 0⟩)), (7, .bool (decide (0 < opnd g.vals[k].op) && ((argsL g.vals[k]).take (1 + 1)).all fun o => decide ((vAtI (fl g.vals k) o).op = 1))), (28, .slice (some ⟨Ka.next, 0, none⟩) (argsL g.vals[k]).length (argsL g.vals[k]).length), (29, .int .i64 ((argsL g.vals[k]).length : Int)), (30, .int .i64 ((1 + 1 : Nat) : Int))], [[sv p g.ins, .slice (some ⟨bq, 0, none⟩) g.vals.length g.vals.length, sv r g.outs], [.slice none 0 0, .slice none 0 0, .slice none 0 0], vcells g.vals[k], [slAt [e0, (some ⟨K2.next, 0, none⟩, partF (fl g.vals k) g.vals[k] 1)] 0, slAt [e0, (some ⟨K2.next, 0, none⟩, partF (fl g.vals k) g.vals[k] 1)] 1, slAt [e0, (some ⟨K2.next, 0, none⟩, partF (fl g.vals k) g.vals[k] 1)] 2]]⟩, by omega, ?_, 1 + 1, [e0, (some ⟨K2.next, 0, none⟩, partF (fl g.vals k) g.vals[k] 1)], by omega, rfl, rfl, by rw [hPT, ← hsn]; simp [snds], fun e he => ?_, eKa.trans (Ext.push _ _)⟩
        · rw [hal1, ← bif_and]
          exact (by (refine ⟨?_, ?_⟩ <;> repeat' first | exact trivial | exact congrArg (fun x => some (Value.int .i64 x)) hwj | exact rfl | refine ⟨?_, ?_⟩ | fail))
        · simp only [List.mem_cons, List.not_mem_nil, or_false] at he
          rcases he with rfl | rfl
          · exact (hes _ (by simp)).mono (Ext.push _ _)
          · exact Rd.push _ _
      · obtain ⟨e0, e1, rfl⟩ : ∃ e0 e1, es = [e0, e1] := by match es, hel with | [x0, x1], _ => exact ⟨x0, x1, rfl⟩
        refine ⟨⟨by omega, by omega⟩, .int .i64 x, by rw [← hat]; exact c1, fun _ => ⟨hf.1, by omega⟩, .int .i64 c.op, fun _ => hcA.1, ?_⟩
        refine ⟨.leaf [([0, 1, 2, 3, 4, 5, 6, 7, 8, 9, 10, 11, 12], some 13), ([14], some 15), ([], none)] [0], by kernel_rfl, ⟨hf.1, by omega⟩, .int .i64 c.len, hcA.2.1, ⟨hf.1, by omega⟩, .float .f64 c.k, hcA.2.2.2.1, ?_⟩
        refine ⟨_, filled_ec' K2 c.len c.k (by simp [okLen] at hok; omega) (by simp [okLen] at hok; omega), ?_, fun v K hR => by cases hR.1⟩
        rintro _ K3 ⟨hx, rfl⟩
        cases hx
        rw [← hpt]
        refine ⟨⟨by omega, by omega⟩, ?_⟩
        refine ⟨(argsL g.vals[k]).length - (2 + 1), ⟨[(1, .pointer (some ⟨0, 0, some 0⟩)), (2, .pointer (some ⟨1, 0, some 0⟩)), (15, .slice (some ⟨bq, 0, none⟩) g.vals.length g.vals.length), (16, .int .i64 (g.vals.length : Int)), (17, .int .i64 (k : Int)), (3, .int .i64 (k : Int)), (4, .pointer (some ⟨2, 0, some 0⟩)), (6, .pointer (some ⟨3, 0, some 0⟩)), (7, .bool (decide (0 < opnd g.vals[k].op) && ((argsL g.vals[k]).take (2 + 1)).all fun o => decide ((vAtI (fl g.vals k) o).op = 1))), (28, .slice (some ⟨Ka.next, 0, none⟩) (argsL g.vals[k]).length (argsL g.vals[k]).length), (29, .int .i64 ((argsL g.vals[k]).length : Int)), (30, .int .i64 ((2 + 1 : Nat) : Int))], [[sv p g.ins, .slice (some ⟨bq, 0, none⟩) g.vals.length g.vals.length, sv r g.outs], [.slice none 0 0, .slice none 0 0, .slice none 0 0], vcells g.vals[k], [slAt [e0, e1, (some ⟨K2.next, 0, none⟩, partF (fl g.vals k) g.vals[k] 2)] 0, slAt [e0, e1, (some ⟨K2.next, 0, none⟩, partF (fl g.vals k) g.vals[k] 2)] 1, slAt [e0, e1, (some ⟨K2.next, 0, none⟩, partF (fl g.vals k) g.vals[k] 2)] 2]]⟩, by omega, ?_, 2 + 1, [e0, e1, (some ⟨K2.next, 0, none⟩, partF (fl g.vals k) g.vals[k] 2)], by omega, rfl, rfl, by rw [hPT, ← hsn]; simp [snds], fun e he => ?_, eKa.trans (Ext.push _ _)⟩
        · rw [hal1, ← bif_and]
          exact (by (refine ⟨?_, ?_⟩ <;> repeat' first | exact trivial | exact congrArg (fun x => some (Value.int .i64 x)) hwj | exact rfl | refine ⟨?_, ?_⟩ | fail))
        · simp only [List.mem_cons, List.not_mem_nil, or_false] at he
          rcases he with rfl | rfl | rfl
          · exact (hes _ (by simp)).mono (Ext.push _ _)
          · exact (hes _ (by simp)).mono (Ext.push _ _)
          · exact Rd.push _ _
    · have hj3 : j = (argsL g.vals[k]).length := by simp at hge2; omega
      subst hj3
      have hall : (decide (0 < opnd g.vals[k].op) && ((argsL g.vals[k]).take (argsL g.vals[k]).length).all fun o => decide ((vAtI (fl g.vals k) o).op = 1)) = allC (fl g.vals k) g.vals[k] := by
        unfold allC; rw [List.take_of_length_le (Nat.le_refl _)]
      rw [hall]
      refine ⟨fun hno => ?_, fun hyes => ?_⟩
      · have hno : allC (fl g.vals k) g.vals[k] = false := by simpa using hno
        have hfv : foldV (fl g.vals k) g.vals[k] = g.vals[k] := by unfold foldV; rw [hno]; rfl
        rw [← curF_same hlt hfv] at og2
        exact ⟨g.vals.length - (k + 1), ⟨[(1, .pointer (some ⟨0, 0, some 0⟩)), (2, .pointer (some ⟨1, 0, some 0⟩)), (15, .slice (some ⟨bq, 0, none⟩) g.vals.length g.vals.length), (16, .int .i64 (g.vals.length : Int)), (17, .int .i64 ((k + 1 : Nat) : Int))], [[sv p g.ins, .slice (some ⟨bq, 0, none⟩) g.vals.length g.vals.length, sv r g.outs], [.slice none 0 0, .slice none 0 0, .slice none 0 0]]⟩, by omega, (by (refine ⟨?_, ?_⟩ <;> repeat' first | exact trivial | exact congrArg (fun x => some (Value.int .i64 x)) hwk | exact rfl | refine ⟨?_, ?_⟩ | fail)), k + 1, by omega, rfl, rfl, og2, o2⟩
      · have hyes : allC (fl g.vals k) g.vals[k] = true := by simpa using hyes
        have ho0 : 0 < opnd g.vals[k].op := by
          unfold allC at hyes
          simp only [Bool.and_eq_true, decide_eq_true_eq] at hyes
          exact hyes.1
        have hget : ∀ i, i < 3 → ∃ a, slAt es i = sv a (partF (fl g.vals k) g.vals[k] i) ∧ Rd dFlt K2 a (partF (fl g.vals k) g.vals[k] i) := fun i hi => by
          by_cases hio : i < es.length
          · refine ⟨es[i].1, ?_, ?_⟩
            · have h5 : es[i].2 = partF (fl g.vals k) g.vals[k] i := by
                have h6 : (snds es)[i]? = some (partF (fl g.vals k) g.vals[k] i) := by rw [hsn, List.getElem?_map, List.getElem?_range (by omega)]; rfl
                rw [List.getElem?_eq_getElem (by simpa [snds] using hio)] at h6
                simpa [snds] using h6
              rw [slAt_def, List.getElem?_eq_getElem hio]
              show Value.slice es[i].1 es[i].2.length es[i].2.length = _
              rw [h5]
            · have h5 : es[i].2 = partF (fl g.vals k) g.vals[k] i := by
                have h6 : (snds es)[i]? = some (partF (fl g.vals k) g.vals[k] i) := by rw [hsn, List.getElem?_map, List.getElem?_range (by omega)]; rfl
                rw [List.getElem?_eq_getElem (by simpa [snds] using hio)] at h6
                simpa [snds] using h6
              rw [← h5]; exact hes _ (List.getElem_mem hio)
          · have h5 : partF (fl g.vals k) g.vals[k] i = [] := by unfold partF; rw [if_neg (by omega)]
            refine ⟨none, ?_, by rw [h5]; exact Rd.nil⟩
            rw [slAt_def, List.getElem?_eq_none (by omega), h5]; rfl
        obtain ⟨a0, s0, r0⟩ := hget 0 (by omega)
        obtain ⟨a1, s1, r1⟩ := hget 1 (by omega)
        obtain ⟨a2, s2, r2⟩ := hget 2 (by omega)
        rw [s0, s1, s2]
        have hpl : ∀ j, (partF (fl g.vals k) g.vals[k] j).length ≤ 1048576 := fun j => by
          unfold partF
          split
          · rename_i hjo
            have hf := hargs _ (field_arg hjo)
            have := (fl_okLen hv (i := k) (by omega) hf.1 hf.2).2
            simp [okLen] at this
            simp; omega
          · simp
        have hke := implKernel_ec K2 a0 a1 a2 g.vals[k] _ _ _ r0 r1 r2 (hpl 0) (hpl 1) (hpl 2)
        refine ⟨⟨by omega, by omega⟩, ⟨by omega, by omega⟩, ⟨by omega, by omega⟩, ?_⟩
        refine ⟨_, hke, ?_, fun v K hR => by obtain ⟨_, h, _⟩ := hR; cases h⟩
        rintro _ K3 ⟨oo, hx, e3, bo⟩
        cases hx
        have og3 := og2.mono e3
        have o3 := o2.trans (Out.of_ext e3)
        change Buf dFlt K3 K2.next oo (resF (fl g.vals k) g.vals[k]) at bo
        have hpos := fold_pos hv hxv ho0
        have hrl : (resF (fl g.vals k) g.vals[k]).length ≤ 1000 := by
          simp [okLen] at hvl
          unfold resF kern
          split
          · simp; omega
          · simp
        have hr0 : (resF (fl g.vals k) g.vals[k])[0]? = some (((resF (fl g.vals k) g.vals[k])[0]?).getD 0) := by rw [List.getElem?_eq_getElem hpos]; rfl
        obtain ⟨bo_, oo_, hoo, cr⟩ := bo.rd.cell hr0
        refine loop_ind ctx (fun _ => true) (fun m E KX => ∃ i : Nat, i ≤ (resF (fl g.vals k) g.vals[k]).length ∧ m = (resF (fl g.vals k) g.vals[k]).length - i ∧ E = ⟨[(1, .pointer (some ⟨0, 0, some 0⟩)), (2, .pointer (some ⟨1, 0, some 0⟩)), (15, .slice (some ⟨bq, 0, none⟩) g.vals.length g.vals.length), (16, .int .i64 (g.vals.length : Int)), (17, .int .i64 (k : Int)), (3, .int .i64 (k : Int)), (4, .pointer (some ⟨2, 0, some 0⟩)), (10, sv oo (resF (fl g.vals k) g.vals[k])), (11, .bool (((resF (fl g.vals k) g.vals[k]).take i).all fun x => x == ((resF (fl g.vals k) g.vals[k])[0]?).getD 0)), (71, sv oo (resF (fl g.vals k) g.vals[k])), (72, .int .i64 ((resF (fl g.vals k) g.vals[k]).length : Int)), (73, .int .i64 ((i : Nat) : Int))], [[sv p g.ins, .slice (some ⟨bq, 0, none⟩) g.vals.length g.vals.length, sv r g.outs], [.slice none 0 0, .slice none 0 0, .slice none 0 0], vcells g.vals[k]]⟩ ∧ KX = K3)
          (E0 := ⟨[(1, .pointer (some ⟨0, 0, some 0⟩)), (2, .pointer (some ⟨1, 0, some 0⟩)), (15, .slice (some ⟨bq, 0, none⟩) g.vals.length g.vals.length), (16, .int .i64 (g.vals.length : Int)), (17, .int .i64 (k : Int)), (3, .int .i64 (k : Int)), (4, .pointer (some ⟨2, 0, some 0⟩)), (10, sv oo (resF (fl g.vals k) g.vals[k])), (11, .bool (((resF (fl g.vals k) g.vals[k]).take 0).all fun x => x == ((resF (fl g.vals k) g.vals[k])[0]?).getD 0)), (71, sv oo (resF (fl g.vals k) g.vals[k])), (72, .int .i64 ((resF (fl g.vals k) g.vals[k]).length : Int)), (73, .int .i64 ((0 : Nat) : Int))], [[sv p g.ins, .slice (some ⟨bq, 0, none⟩) g.vals.length g.vals.length, sv r g.outs], [.slice none 0 0, .slice none 0 0, .slice none 0 0], vcells g.vals[k]]⟩) ⟨0, Nat.zero_le _, rfl, rfl, rfl⟩ (by (refine ⟨?_, ?_⟩ <;> repeat' first | exact trivial | exact congrArg (fun x => some (Value.int .i64 x)) (wrap_nat (by omega)) | exact sv_eq (by simp; done) | exact rfl | refine ⟨?_, ?_⟩ | fail)) ?_
        rintro m E KX ⟨i, hii, rfl, rfl, rfl⟩
        subst hoo
        refine ⟨fun hlt3 => ?_, fun hge3 => ?_⟩
        · have hil : i < (resF (fl g.vals k) g.vals[k]).length := by simpa using hlt3
          obtain ⟨_, _, e9, ci⟩ := bo.rd.cell (List.getElem?_eq_getElem hil)
          cases e9
          have hwi := wrap_nat (k := i) (by omega)
          refine ⟨⟨by omega, by omega⟩, _, ci, fun _ => ⟨by omega, by omega⟩, .float .f64 (((resF (fl g.vals k) g.vals[k])[0]?).getD 0), fun _ => cr, .bool ((resF (fl g.vals k) g.vals[k])[i] == ((resF (fl g.vals k) g.vals[k])[0]?).getD 0), fun _ => implSame_pc _ _ _, ?_⟩
          refine ⟨(resF (fl g.vals k) g.vals[k]).length - (i + 1), ⟨[(1, .pointer (some ⟨0, 0, some 0⟩)), (2, .pointer (some ⟨1, 0, some 0⟩)), (15, .slice (some ⟨bq, 0, none⟩) g.vals.length g.vals.length), (16, .int .i64 (g.vals.length : Int)), (17, .int .i64 (k : Int)), (3, .int .i64 (k : Int)), (4, .pointer (some ⟨2, 0, some 0⟩)), (10, sv (some ⟨bo_, oo_, none⟩) (resF (fl g.vals k) g.vals[k])), (11, .bool (((resF (fl g.vals k) g.vals[k]).take (i + 1)).all fun x => x == ((resF (fl g.vals k) g.vals[k])[0]?).getD 0)), (71, sv (some ⟨bo_, oo_, none⟩) (resF (fl g.vals k) g.vals[k])), (72, .int .i64 ((resF (fl g.vals k) g.vals[k]).length : Int)), (73, .int .i64 ((i + 1 : Nat) : Int))], [[sv p g.ins, .slice (some ⟨bq, 0, none⟩) g.vals.length g.vals.length, sv r g.outs], [.slice none 0 0, .slice none 0 0, .slice none 0 0], vcells g.vals[k]]⟩, by omega, ?_, i + 1, by omega, rfl, rfl, rfl⟩
          have hsu : (((resF (fl g.vals k) g.vals[k]).take (i + 1)).all fun x => x == ((resF (fl g.vals k) g.vals[k])[0]?).getD 0) = ((((resF (fl g.vals k) g.vals[k]).take i).all fun x => x == ((resF (fl g.vals k) g.vals[k])[0]?).getD 0) && ((resF (fl g.vals k) g.vals[k])[i] == ((resF (fl g.vals k) g.vals[k])[0]?).getD 0)) := by
            rw [List.take_succ_eq_append_getElem hil, List.all_append]; simp
          rw [hsu, ← bif_and]
          exact (by (refine ⟨?_, ?_⟩ <;> repeat' first | exact trivial | exact congrArg (fun x => some (Value.int .i64 x)) hwi | exact rfl | refine ⟨?_, ?_⟩ | fail))
        · have hi3 : i = (resF (fl g.vals k) g.vals[k]).length := by simp at hge3; omega
          subst hi3
          rw [List.take_of_length_le (Nat.le_refl _)]
          have huni : uniB (resF (fl g.vals k) g.vals[k]) = (resF (fl g.vals k) g.vals[k]).all fun x => x == ((resF (fl g.vals k) g.vals[k])[0]?).getD 0 := by unfold uniB; simp [hpos]
          rw [← huni]
          refine ⟨fun hu => ?_, fun hu => ?_⟩
          · have hfv : foldV (fl g.vals k) g.vals[k] = ⟨1, g.vals[k].len, 0, 0, 0, ((resF (fl g.vals k) g.vals[k])[0]?).getD 0⟩ := by
              unfold foldV; rw [hyes, hu]; rfl
            obtain ⟨og4, hst, hbut⟩ := og3.setV rfl (i := k) (v := ⟨1, g.vals[k].len, 0, 0, 0, ((resF (fl g.vals k) g.vals[k])[0]?).getD 0⟩) (by show k < (curF g.vals k).length; omega) (off := 0 + k * 6) rfl rfl
            have hset : (curF g.vals k).set k ⟨1, g.vals[k].len, 0, 0, 0, ((resF (fl g.vals k) g.vals[k])[0]?).getD 0⟩ = curF g.vals (k + 1) := by rw [← hfv]; exact curF_set hlt
            simp only [hset] at og4
            have ol := hbut.out (lo := lo) (hi := hi) (fun b o e => by cases e; exact ⟨(og3.s.lt rfl).1, og3.hi_.2.1 _ _ rfl⟩)
            refine ⟨.leaf [([0, 1, 2, 3, 4, 5, 6, 7, 8, 9], some 10), ([], none)] [], by kernel_rfl, ⟨by omega, by omega⟩, _, cr, ⟨by omega, by omega⟩, hst, ?_⟩
            exact ⟨g.vals.length - (k + 1), ⟨[(1, .pointer (some ⟨0, 0, some 0⟩)), (2, .pointer (some ⟨1, 0, some 0⟩)), (15, .slice (some ⟨bq, 0, none⟩) g.vals.length g.vals.length), (16, .int .i64 (g.vals.length : Int)), (17, .int .i64 ((k + 1 : Nat) : Int))], [[sv p g.ins, .slice (some ⟨bq, 0, none⟩) g.vals.length g.vals.length, sv r g.outs], [.slice none 0 0, .slice none 0 0, .slice none 0 0]]⟩, by omega, (by (refine ⟨?_, ?_⟩ <;> repeat' first | exact trivial | exact congrArg (fun x => some (Value.int .i64 x)) hwk | exact rfl | refine ⟨?_, ?_⟩ | fail)), k + 1, by omega, rfl, rfl, og4, o3.trans ol⟩
          · have hfv : foldV (fl g.vals k) g.vals[k] = g.vals[k] := by unfold foldV; rw [hu]; simp
            rw [← curF_same hlt hfv] at og3
            exact ⟨g.vals.length - (k + 1), ⟨[(1, .pointer (some ⟨0, 0, some 0⟩)), (2, .pointer (some ⟨1, 0, some 0⟩)), (15, .slice (some ⟨bq, 0, none⟩) g.vals.length g.vals.length), (16, .int .i64 (g.vals.length : Int)), (17, .int .i64 ((k + 1 : Nat) : Int))], [[sv p g.ins, .slice (some ⟨bq, 0, none⟩) g.vals.length g.vals.length, sv r g.outs], [.slice none 0 0, .slice none 0 0, .slice none 0 0]]⟩, by omega, (by (refine ⟨?_, ?_⟩ <;> repeat' first | exact trivial | exact congrArg (fun x => some (Value.int .i64 x)) hwk | exact rfl | refine ⟨?_, ?_⟩ | fail)), k + 1, by omega, rfl, rfl, og3, o3⟩
  · have hk' : k = g.vals.length := by simp at hge; omega
    subst hk'
    rw [fl_all] at og
    refine ⟨p, q, r, ?_, og.upX (Nat.le_trans hn o.next), o.wide (Nat.le_refl _) hn⟩
    show AEnd.ret (.agg #[sv p g.ins, .slice q g.vals.length g.vals.length, sv r g.outs]) = .ret (.agg #[sv p g.ins, .slice q (fl g.vals g.vals.length).length (fl g.vals g.vals.length).length, sv r g.outs])
    rw [fl_len]
end Go.Proofs.Ytlcocgoaphpjkaa
