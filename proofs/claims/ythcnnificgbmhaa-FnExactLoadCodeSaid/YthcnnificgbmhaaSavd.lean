/- Saved code: what the program makes of a code. Written by wip/tpl/gensavd.py. Conditions: lists of at most 2^20 elements. -/
import Derived.Test.YthcnnificgbmhaaSavc
set_option linter.unusedVariables false
set_option linter.unusedSimpArgs false
namespace Go.Proofs.Ythcnnificgbmhaa
open Go.Am
open FlCore (canon isNan)

theorem run_push2 (K : Heap) (cs : List Value) (c' : Blk) {esz : Nat} {rw_ : Bool} {o n : Nat} (h : o + n ≤ cs.length) : ((K.push (.cells cs esz rw_)).push c').run? K.next o n = some ((cs.drop o).take n) := by
  unfold Heap.run?
  rw [push_blk_ne _ _ (by show K.next ≠ K.next + 1; omega), push_blk]
  simp only
  rw [if_pos h]
theorem Ext.app0 {K : Heap} (o : Option Addr) (c c' : Blk) : Ext ((K.push c).killO o) ((((K.push c).killO o).push c').killO (some ⟨K.next + 1, 0, none⟩)) := ⟨by show K.next + 1 ≤ K.next + 1 + 1; omega, fun b x h => by
  have hlt : b < K.next + 1 := ((K.push c).killO o).lt b x h
  show (if b = K.next + 1 then none else if b = K.next + 1 then some c' else ((K.push c).killO o).blk b) = some x
  rw [if_neg (by omega), if_neg (by omega)]
  exact h⟩
/-- Counts that are just made go behind what is there. -/
theorem bytesOf_new (H K : Heap) (o : Option Addr) (xs ns : List Int) (h : BufG H K o xs) (hl : xs.length + 2 * ns.length ≤ 1000000000) :
    EC Try.prog 52 [sv o xs, sv (some ⟨K.next, 0, none⟩) ns] (K.push (.cells (flat dInt ns) 1 true)) (BR H (xs ++ ns.flatMap cntB)) :=
  bytesOf_ec H _ _ _ _ _ (h.mono (Ext.push _ _)) (Rd.pushKill (d := dInt) h ns true) hl

theorem EC_arg {P : Program} {f : FuncId} {v v' : Value} {l : List Value} {H : Heap} {R : AEnd → Heap → Prop} (e : v = v') (h : EC P f (v' :: l) H R) : EC P f (v :: l) H R := by rw [e]; exact h
theorem bytesOf_one (H K : Heap) (o : Option Addr) (xs ys : List Int) (n : Int) (h : BufG H K o xs) (hy : ys = xs ++ cntB n) (hl : xs.length ≤ 100000000) :
    EC Try.prog 52 [sv o xs, sv (some ⟨K.next, 0, none⟩) [n]] (K.push (.cells (flat dInt [n]) 1 true)) (BR H ys) := by
  subst hy
  exact bytesOf_new H K o xs [n] h (by show _ + 2 * 1 ≤ _; omega)

set_option maxHeartbeats 4000000 in
theorem saved_ec (H : Heap) (p q r : Option Addr) (c : Code') (hc : RdC H p q r c) (hs : CodeS c) :
    EC Try.prog 18 [cV p q r c] H (BR H (savL c)) := by
  have hs1 := hs.ins
  have hs2 := hs.steps
  have hs3 := hs.outs
  refine EC_fn ctx (fun _ => true) Try.func18 rfl rfl rfl ?_
  have hb0 : BufG H (H.push (.cells [.int .u8 71, .int .u8 76] 1 true)) (some ⟨H.next, 0, none⟩) [71, 76] := ⟨.blk (Nat.le_refl _) (push_blk _ _), Ext.push _ _⟩
  refine ⟨_, bytesOf_one H _ _ [71, 76] (savA c) c.ins.length hb0 rfl (by show 2 ≤ _; decide), ?_, fun v K hR => by obtain ⟨_, h, _⟩ := hR; cases h⟩
  rintro _ K ⟨o, hx, hb⟩
  cases hx
  clear hb0
  refine ⟨_, bytesOf_ec H _ _ _ _ _ hb (hc.ins.mono hb.killed) (by rw [savA_len]; omega), ?_, fun v K hR => by obtain ⟨_, h, _⟩ := hR; cases h⟩
  rintro _ K ⟨o, hx, hb⟩
  cases hx
  refine ⟨_, bytesOf_one H _ _ _ (savB c) c.steps.length hb rfl (by rw [List.length_append, cnt_len, savA_len]; omega), ?_, fun v K hR => by obtain ⟨_, h, _⟩ := hR; cases h⟩
  clear hb
  rintro _ K ⟨o, hx, hb⟩
  cases hx
  refine loop_ind ctx (fun _ => true) (fun m E K => ∃ (k : Nat) (o : Option Addr), k ≤ c.steps.length ∧ m = c.steps.length - k ∧ E = ⟨[(1, .pointer (some ⟨0, 0, some 0⟩)), (3, sv o (savB c ++ (c.steps.take k).flatMap stepBy)), (26, sv q c.steps), (27, .int .i64 c.steps.length), (28, .int .i64 k)], [vE1 p q r c]⟩ ∧ BufG H K o (savB c ++ (c.steps.take k).flatMap stepBy))
    (E0 := ⟨[(1, .pointer (some ⟨0, 0, some 0⟩)), (3, sv o (savB c)), (26, sv q c.steps), (27, .int .i64 c.steps.length), (28, .int .i64 ((0 : Nat) : Int))], [vE1 p q r c]⟩) ⟨0, o, Nat.zero_le _, rfl, by rw [List.take_zero, List.flatMap_nil, List.append_nil], by rw [List.take_zero, List.flatMap_nil, List.append_nil]; exact hb⟩ (by (refine ⟨?_, ?_⟩ <;> repeat' first | exact trivial | exact congrArg (fun x => some (Value.int .i64 x)) (wrap_nat (by omega)) | exact sv_eq (by simp; done) | exact rfl | refine ⟨?_, ?_⟩ | fail)) ?_
  clear hb
  rintro m E K ⟨k, o, hk, rfl, rfl, hb⟩
  have hxl : (savB c ++ (c.steps.take k).flatMap stepBy).length ≤ 30000000 := by
    have := flat_le stepBy 21 stepBy_le (c.steps.take k)
    rw [List.length_take, Nat.min_eq_left hk] at this
    rw [List.length_append, savB_len]
    omega
  generalize hpre : savB c ++ (c.steps.take k).flatMap stepBy = pre at hb hxl
  refine ⟨fun hlt => ?_, fun hge => ?_⟩
  · have hlt : k < c.steps.length := by simpa using hlt
    have hx := List.getElem?_eq_getElem hlt
    have htk := take_flat stepBy hlt
    obtain ⟨b, f, rfl, hcs⟩ := (hc.steps.mono hb.ext).step hx
    generalize c.steps[k] = s at hx hcs htk
    have hstep : savB c ++ (c.steps.take (k + 1)).flatMap stepBy = ((pre ++ [u8w s.op]) ++ (fldL s).flatMap cntB) ++ (if s.op = 1 then lowB 8 (canon s.k) else []) := by
      rw [htk, ← List.append_assoc, hpre, stepBy, ← List.append_assoc, ← List.append_assoc]
    obtain ⟨mid, hmid⟩ : ∃ mid, (pre ++ [u8w s.op]) ++ (fldL s).flatMap cntB = mid := ⟨_, rfl⟩
    rw [hmid] at hstep
    have hml : mid.length = pre.length + 13 := by rw [← hmid, List.length_append, List.length_append]; rfl
    refine ⟨⟨by omega, by omega⟩, stepV s, hcs, .split 4 18 (.leaf [([0, 1, 2, 3, 6, 7, 8, 9, 10, 11, 12, 13, 14, 15, 16, 17], some 18), ([], some 4), ([], some 5), ([], some 19), ([20], none)] [0, 1, 2, 3, 6, 7, 8, 9, 10, 11, 12, 13, 14, 15, 16, 17]) (.split 5 18 (.leaf [([0, 1, 2, 3, 6, 7, 8, 9, 10, 11, 12, 13, 14, 15, 16, 17], some 4), ([], some 18), ([], some 5), ([], some 19), ([20], none)] [0, 6, 7, 8, 9, 10, 11, 12, 13, 14, 15, 16, 17]) (.leaf [([0, 1, 2, 3, 6, 7, 8, 9, 10, 11, 12, 13, 14, 15, 16, 17], some 4), ([], some 5), ([], some 18), ([], some 19), ([20], none)] [0, 6, 7, 8, 9, 10, 11, 12, 13, 14, 15, 16, 17])), by kernel_rfl, ?_, ?_, ?_⟩
    · have hbX := (hb.mono (Ext.push K (.cells (flat dInt (fldL s)) 1 true))).mono (Ext.push _ (.cells [.int .u8 (u8w s.op)] 1 true))
      have hop := hbX.buf.own
      refine ⟨_, run_push _ _ _ _ (by simp), lb1 1 (by omega) (by decide), lb2 1 (by omega) (by decide), _, hop, ?_⟩
      have hb9 := hbX.app (ys := [u8w s.op]) rfl
      have hr9 : Rd dInt (((((K.push (.cells (flat dInt (fldL s)) 1 true)).push (.cells [.int .u8 (u8w s.op)] 1 true)).killO o).push (.cells (flat dByte pre ++ [.int .u8 (u8w s.op)]) 1 true)).killO (some ⟨K.next + 1 + 1, 0, none⟩)) (some ⟨K.next, 0, none⟩) (fldL s) := (Rd.pushKill (d := dInt) hb (fldL s) true).mono (Ext.app o _ _)
      have hcall := bytesOf_ec H _ _ _ _ _ hb9 hr9 (by rw [List.length_append]; show _ + 1 + 2 * 6 ≤ _; omega)
      rw [hmid] at hcall
      have e1 := sv_app (some (⟨K.next + 1 + 1, 0, none⟩ : Addr)) pre [u8w s.op] (n := 1) rfl
      have hcall := EC_arg e1 hcall
      refine ⟨_, hcall, ?_, fun v K hR => by obtain ⟨_, h, _⟩ := hR; cases h⟩
      clear hbX
      rintro _ K2 ⟨o2, hx', hb2⟩
      cases hx'
      refine ⟨fun h1 => ?_, fun h1 => ?_⟩
      · have h1 : s.op = 1 := by simpa using h1
        rw [if_pos h1] at hstep
        refine ⟨_, implBits_pc s.k K2, ?_, fun v K hR => by cases hR.1⟩
        rintro _ K2 ⟨hx', rfl⟩
        cases hx'
        refine loop_ind ctx (fun _ => true) (fun m E K' => ∃ (i : Nat) (o' : Option Addr), i ≤ 8 ∧ m = 8 - i ∧ E = ⟨[(1, .pointer (some ⟨0, 0, some 0⟩)), (3, .slice o' (pre.length + 13 + i) (pre.length + 13 + i)), (6, .int .u64 ((canon s.k / 256 ^ i : Nat) : Int)), (26, sv (some ⟨b, f, none⟩) c.steps), (27, .int .i64 c.steps.length), (28, .int .i64 k), (58, .int .i64 i)], [vE1 p (some ⟨b, f, none⟩) r c]⟩ ∧ BufG H K' o' (mid ++ lowB i (canon s.k)))
          (E0 := ⟨[(1, .pointer (some ⟨0, 0, some 0⟩)), (3, .slice o2 mid.length mid.length), (6, .int .u64 (canon s.k)), (26, sv (some ⟨b, f, none⟩) c.steps), (27, .int .i64 c.steps.length), (28, .int .i64 k), (58, .int .i64 ((0 : Nat) : Int))], [vE1 p (some ⟨b, f, none⟩) r c]⟩) ⟨0, o2, Nat.zero_le _, rfl, by simp [hml], by simpa [lowB] using hb2⟩ (by (refine ⟨?_, ?_⟩ <;> repeat' first | exact trivial | exact congrArg (fun x => some (Value.int .i64 x)) (wrap_nat (by omega)) | exact sv_eq (by simp; done) | exact rfl | refine ⟨?_, ?_⟩ | fail)) ?_
        rintro m E K' ⟨i, o', hi, rfl, rfl, hb3⟩
        have hxl2 : (mid ++ lowB i (canon s.k)).length = pre.length + 13 + i := by rw [List.length_append, lowB_len, hml]
        refine ⟨fun hli => ?_, fun hgi => ?_⟩
        · have hli : i < 8 := by simp at hli; omega
          have hnx : (((canon s.k / 256 ^ i : Nat) : Int)) / 256 = ((canon s.k / 256 ^ (i + 1) : Nat) : Int) := by rw [Nat.pow_succ, ← Nat.div_div_eq_div_mul]; rfl
          have hb4 := hb3.mono (Ext.push K' (.cells [.int .u8 (u8w ((canon s.k / 256 ^ i : Nat) : Int))] 1 true))
          have hown := hb4.buf.own
          rw [hxl2] at hown
          refine ⟨_, run_push _ _ _ _ (by simp), lb1 (n := pre.length + 13 + i) 1 (by omega) (by decide), lb2 (n := pre.length + 13 + i) 1 (by omega) (by decide), _, hown, _, shr8_any _ .u64 (by decide) _, ?_⟩
          refine ⟨8 - (i + 1), ⟨[(1, .pointer (some ⟨0, 0, some 0⟩)), (3, .slice (some ⟨K'.next + 1, 0, none⟩) (pre.length + 13 + (i + 1)) (pre.length + 13 + (i + 1))), (6, .int .u64 ((canon s.k / 256 ^ (i + 1) : Nat) : Int)), (26, sv (some ⟨b, f, none⟩) c.steps), (27, .int .i64 c.steps.length), (28, .int .i64 k), (58, .int .i64 ((i + 1 : Nat) : Int))], [vE1 p (some ⟨b, f, none⟩) r c]⟩, by omega,
            ⟨⟨rfl, rfl, rfl, trivial, congrArg (fun x => some (Value.int .u64 x)) hnx, trivial, rfl, trivial, rfl, trivial, rfl, trivial, congrArg (fun x => some (Value.int .i64 x)) (wrap_nat (by omega)), trivial, trivial⟩, by (refine ⟨?_, ?_⟩ <;> repeat' first | exact trivial | exact congrArg (fun x => some (Value.int .i64 x)) (wrap_nat (by omega)) | exact sv_eq (by simp; done) | exact rfl | refine ⟨?_, ?_⟩ | fail)⟩, i + 1, some ⟨K'.next + 1, 0, none⟩, by omega, rfl, rfl, ?_⟩
          rw [lowB_succ, ← List.append_assoc]
          exact hb4.app rfl
        have hi8 : i = 8 := by simp at hgi; omega
        subst hi8
        refine ⟨c.steps.length - (k + 1), ⟨[(1, .pointer (some ⟨0, 0, some 0⟩)), (3, .slice o' (pre.length + 13 + 8) (pre.length + 13 + 8)), (26, sv (some ⟨b, f, none⟩) c.steps), (27, .int .i64 c.steps.length), (28, .int .i64 ((k + 1 : Nat) : Int))], [vE1 p (some ⟨b, f, none⟩) r c]⟩, by omega, by (refine ⟨?_, ?_⟩ <;> repeat' first | exact trivial | exact congrArg (fun x => some (Value.int .i64 x)) (wrap_nat (by omega)) | exact sv_eq (by simp; done) | exact rfl | refine ⟨?_, ?_⟩ | fail), k + 1, o', by omega, rfl, ?_, ?_⟩
        · rw [hstep, ← hxl2]
        · rw [hstep]; exact hb3
      · have h1 : ¬ s.op = 1 := by simpa using h1
        rw [if_neg h1, List.append_nil] at hstep
        refine ⟨c.steps.length - (k + 1), ⟨[(1, .pointer (some ⟨0, 0, some 0⟩)), (3, sv o2 mid), (26, sv (some ⟨b, f, none⟩) c.steps), (27, .int .i64 c.steps.length), (28, .int .i64 ((k + 1 : Nat) : Int))], [vE1 p (some ⟨b, f, none⟩) r c]⟩, by omega, by (refine ⟨?_, ?_⟩ <;> repeat' first | exact trivial | exact congrArg (fun x => some (Value.int .i64 x)) (wrap_nat (by omega)) | exact sv_eq (by simp; done) | exact rfl | refine ⟨?_, ?_⟩ | fail), k + 1, o2, by omega, rfl, ?_, ?_⟩
        · rw [hstep]
        · rw [hstep]; exact hb2
    · have hbX := (hb.mono (Ext.push K (.cells [.int .u8 (u8w s.op)] 1 true))).mono (Ext.push _ (.cells (flat dInt (fldL s)) 1 true))
      have hop := hbX.buf.own
      refine ⟨_, run_push2 K _ (.cells (flat dInt (fldL s)) 1 true) (by simp), lb1 1 (by omega) (by decide), lb2 1 (by omega) (by decide), _, hop, ?_⟩
      have hb9 := hbX.app (ys := [u8w s.op]) rfl
      have hr9 : Rd dInt (((((K.push (.cells [.int .u8 (u8w s.op)] 1 true)).push (.cells (flat dInt (fldL s)) 1 true)).killO o).push (.cells (flat dByte pre ++ [.int .u8 (u8w s.op)]) 1 true)).killO (some ⟨K.next + 1 + 1, 0, none⟩)) (some ⟨K.next + 1, 0, none⟩) (fldL s) := (Rd.pushKill (d := dInt) (hb.mono (Ext.push K (.cells [.int .u8 (u8w s.op)] 1 true))) (fldL s) true).mono (Ext.app0 o _ _)
      have hcall := bytesOf_ec H _ _ _ _ _ hb9 hr9 (by rw [List.length_append]; show _ + 1 + 2 * 6 ≤ _; omega)
      rw [hmid] at hcall
      have e1 := sv_app (some (⟨K.next + 1 + 1, 0, none⟩ : Addr)) pre [u8w s.op] (n := 1) rfl
      have hcall := EC_arg e1 hcall
      refine ⟨_, hcall, ?_, fun v K hR => by obtain ⟨_, h, _⟩ := hR; cases h⟩
      clear hbX
      rintro _ K2 ⟨o2, hx', hb2⟩
      cases hx'
      refine ⟨fun h1 => ?_, fun h1 => ?_⟩
      · have h1 : s.op = 1 := by simpa using h1
        rw [if_pos h1] at hstep
        refine ⟨_, implBits_pc s.k K2, ?_, fun v K hR => by cases hR.1⟩
        rintro _ K2 ⟨hx', rfl⟩
        cases hx'
        refine loop_ind ctx (fun _ => true) (fun m E K' => ∃ (i : Nat) (o' : Option Addr), i ≤ 8 ∧ m = 8 - i ∧ E = ⟨[(1, .pointer (some ⟨0, 0, some 0⟩)), (3, .slice o' (pre.length + 13 + i) (pre.length + 13 + i)), (6, .int .u64 ((canon s.k / 256 ^ i : Nat) : Int)), (26, sv (some ⟨b, f, none⟩) c.steps), (27, .int .i64 c.steps.length), (28, .int .i64 k), (58, .int .i64 i)], [vE1 p (some ⟨b, f, none⟩) r c]⟩ ∧ BufG H K' o' (mid ++ lowB i (canon s.k)))
          (E0 := ⟨[(1, .pointer (some ⟨0, 0, some 0⟩)), (3, .slice o2 mid.length mid.length), (6, .int .u64 (canon s.k)), (26, sv (some ⟨b, f, none⟩) c.steps), (27, .int .i64 c.steps.length), (28, .int .i64 k), (58, .int .i64 ((0 : Nat) : Int))], [vE1 p (some ⟨b, f, none⟩) r c]⟩) ⟨0, o2, Nat.zero_le _, rfl, by simp [hml], by simpa [lowB] using hb2⟩ (by (refine ⟨?_, ?_⟩ <;> repeat' first | exact trivial | exact congrArg (fun x => some (Value.int .i64 x)) (wrap_nat (by omega)) | exact sv_eq (by simp; done) | exact rfl | refine ⟨?_, ?_⟩ | fail)) ?_
        rintro m E K' ⟨i, o', hi, rfl, rfl, hb3⟩
        have hxl2 : (mid ++ lowB i (canon s.k)).length = pre.length + 13 + i := by rw [List.length_append, lowB_len, hml]
        refine ⟨fun hli => ?_, fun hgi => ?_⟩
        · have hli : i < 8 := by simp at hli; omega
          have hnx : (((canon s.k / 256 ^ i : Nat) : Int)) / 256 = ((canon s.k / 256 ^ (i + 1) : Nat) : Int) := by rw [Nat.pow_succ, ← Nat.div_div_eq_div_mul]; rfl
          have hb4 := hb3.mono (Ext.push K' (.cells [.int .u8 (u8w ((canon s.k / 256 ^ i : Nat) : Int))] 1 true))
          have hown := hb4.buf.own
          rw [hxl2] at hown
          refine ⟨_, run_push _ _ _ _ (by simp), lb1 (n := pre.length + 13 + i) 1 (by omega) (by decide), lb2 (n := pre.length + 13 + i) 1 (by omega) (by decide), _, hown, _, shr8_any _ .u64 (by decide) _, ?_⟩
          refine ⟨8 - (i + 1), ⟨[(1, .pointer (some ⟨0, 0, some 0⟩)), (3, .slice (some ⟨K'.next + 1, 0, none⟩) (pre.length + 13 + (i + 1)) (pre.length + 13 + (i + 1))), (6, .int .u64 ((canon s.k / 256 ^ (i + 1) : Nat) : Int)), (26, sv (some ⟨b, f, none⟩) c.steps), (27, .int .i64 c.steps.length), (28, .int .i64 k), (58, .int .i64 ((i + 1 : Nat) : Int))], [vE1 p (some ⟨b, f, none⟩) r c]⟩, by omega,
            ⟨⟨rfl, rfl, rfl, trivial, congrArg (fun x => some (Value.int .u64 x)) hnx, trivial, rfl, trivial, rfl, trivial, rfl, trivial, congrArg (fun x => some (Value.int .i64 x)) (wrap_nat (by omega)), trivial, trivial⟩, by (refine ⟨?_, ?_⟩ <;> repeat' first | exact trivial | exact congrArg (fun x => some (Value.int .i64 x)) (wrap_nat (by omega)) | exact sv_eq (by simp; done) | exact rfl | refine ⟨?_, ?_⟩ | fail)⟩, i + 1, some ⟨K'.next + 1, 0, none⟩, by omega, rfl, rfl, ?_⟩
          rw [lowB_succ, ← List.append_assoc]
          exact hb4.app rfl
        have hi8 : i = 8 := by simp at hgi; omega
        subst hi8
        refine ⟨c.steps.length - (k + 1), ⟨[(1, .pointer (some ⟨0, 0, some 0⟩)), (3, .slice o' (pre.length + 13 + 8) (pre.length + 13 + 8)), (26, sv (some ⟨b, f, none⟩) c.steps), (27, .int .i64 c.steps.length), (28, .int .i64 ((k + 1 : Nat) : Int))], [vE1 p (some ⟨b, f, none⟩) r c]⟩, by omega, by (refine ⟨?_, ?_⟩ <;> repeat' first | exact trivial | exact congrArg (fun x => some (Value.int .i64 x)) (wrap_nat (by omega)) | exact sv_eq (by simp; done) | exact rfl | refine ⟨?_, ?_⟩ | fail), k + 1, o', by omega, rfl, ?_, ?_⟩
        · rw [hstep, ← hxl2]
        · rw [hstep]; exact hb3
      · have h1 : ¬ s.op = 1 := by simpa using h1
        rw [if_neg h1, List.append_nil] at hstep
        refine ⟨c.steps.length - (k + 1), ⟨[(1, .pointer (some ⟨0, 0, some 0⟩)), (3, sv o2 mid), (26, sv (some ⟨b, f, none⟩) c.steps), (27, .int .i64 c.steps.length), (28, .int .i64 ((k + 1 : Nat) : Int))], [vE1 p (some ⟨b, f, none⟩) r c]⟩, by omega, by (refine ⟨?_, ?_⟩ <;> repeat' first | exact trivial | exact congrArg (fun x => some (Value.int .i64 x)) (wrap_nat (by omega)) | exact sv_eq (by simp; done) | exact rfl | refine ⟨?_, ?_⟩ | fail), k + 1, o2, by omega, rfl, ?_, ?_⟩
        · rw [hstep]
        · rw [hstep]; exact hb2
    · have hbX := hb.mono (Ext.push K (.cells [.int .u8 (u8w s.op)] 1 true))
      have hop := hbX.buf.own
      refine ⟨_, run_push _ _ _ _ (by simp), lb1 1 (by omega) (by decide), lb2 1 (by omega) (by decide), _, hop, ?_⟩
      have hb8 := hbX.app (ys := [u8w s.op]) rfl
      have hr9 := Rd.pushKill (d := dInt) hb8 (fldL s) true
      have hb9 := hb8.mono (Ext.push _ (.cells (flat dInt (fldL s)) 1 true))
      have hcall := bytesOf_ec H _ _ _ _ _ hb9 hr9 (by rw [List.length_append]; show _ + 1 + 2 * 6 ≤ _; omega)
      rw [hmid] at hcall
      have e1 := sv_app (some (⟨K.next + 1, 0, none⟩ : Addr)) pre [u8w s.op] (n := 1) rfl
      have hcall := EC_arg e1 hcall
      refine ⟨_, hcall, ?_, fun v K hR => by obtain ⟨_, h, _⟩ := hR; cases h⟩
      clear hbX
      rintro _ K2 ⟨o2, hx', hb2⟩
      cases hx'
      refine ⟨fun h1 => ?_, fun h1 => ?_⟩
      · have h1 : s.op = 1 := by simpa using h1
        rw [if_pos h1] at hstep
        refine ⟨_, implBits_pc s.k K2, ?_, fun v K hR => by cases hR.1⟩
        rintro _ K2 ⟨hx', rfl⟩
        cases hx'
        refine loop_ind ctx (fun _ => true) (fun m E K' => ∃ (i : Nat) (o' : Option Addr), i ≤ 8 ∧ m = 8 - i ∧ E = ⟨[(1, .pointer (some ⟨0, 0, some 0⟩)), (3, .slice o' (pre.length + 13 + i) (pre.length + 13 + i)), (6, .int .u64 ((canon s.k / 256 ^ i : Nat) : Int)), (26, sv (some ⟨b, f, none⟩) c.steps), (27, .int .i64 c.steps.length), (28, .int .i64 k), (58, .int .i64 i)], [vE1 p (some ⟨b, f, none⟩) r c]⟩ ∧ BufG H K' o' (mid ++ lowB i (canon s.k)))
          (E0 := ⟨[(1, .pointer (some ⟨0, 0, some 0⟩)), (3, .slice o2 mid.length mid.length), (6, .int .u64 (canon s.k)), (26, sv (some ⟨b, f, none⟩) c.steps), (27, .int .i64 c.steps.length), (28, .int .i64 k), (58, .int .i64 ((0 : Nat) : Int))], [vE1 p (some ⟨b, f, none⟩) r c]⟩) ⟨0, o2, Nat.zero_le _, rfl, by simp [hml], by simpa [lowB] using hb2⟩ (by (refine ⟨?_, ?_⟩ <;> repeat' first | exact trivial | exact congrArg (fun x => some (Value.int .i64 x)) (wrap_nat (by omega)) | exact sv_eq (by simp; done) | exact rfl | refine ⟨?_, ?_⟩ | fail)) ?_
        rintro m E K' ⟨i, o', hi, rfl, rfl, hb3⟩
        have hxl2 : (mid ++ lowB i (canon s.k)).length = pre.length + 13 + i := by rw [List.length_append, lowB_len, hml]
        refine ⟨fun hli => ?_, fun hgi => ?_⟩
        · have hli : i < 8 := by simp at hli; omega
          have hnx : (((canon s.k / 256 ^ i : Nat) : Int)) / 256 = ((canon s.k / 256 ^ (i + 1) : Nat) : Int) := by rw [Nat.pow_succ, ← Nat.div_div_eq_div_mul]; rfl
          have hb4 := hb3.mono (Ext.push K' (.cells [.int .u8 (u8w ((canon s.k / 256 ^ i : Nat) : Int))] 1 true))
          have hown := hb4.buf.own
          rw [hxl2] at hown
          refine ⟨_, run_push _ _ _ _ (by simp), lb1 (n := pre.length + 13 + i) 1 (by omega) (by decide), lb2 (n := pre.length + 13 + i) 1 (by omega) (by decide), _, hown, _, shr8_any _ .u64 (by decide) _, ?_⟩
          refine ⟨8 - (i + 1), ⟨[(1, .pointer (some ⟨0, 0, some 0⟩)), (3, .slice (some ⟨K'.next + 1, 0, none⟩) (pre.length + 13 + (i + 1)) (pre.length + 13 + (i + 1))), (6, .int .u64 ((canon s.k / 256 ^ (i + 1) : Nat) : Int)), (26, sv (some ⟨b, f, none⟩) c.steps), (27, .int .i64 c.steps.length), (28, .int .i64 k), (58, .int .i64 ((i + 1 : Nat) : Int))], [vE1 p (some ⟨b, f, none⟩) r c]⟩, by omega,
            ⟨⟨rfl, rfl, rfl, trivial, congrArg (fun x => some (Value.int .u64 x)) hnx, trivial, rfl, trivial, rfl, trivial, rfl, trivial, congrArg (fun x => some (Value.int .i64 x)) (wrap_nat (by omega)), trivial, trivial⟩, by (refine ⟨?_, ?_⟩ <;> repeat' first | exact trivial | exact congrArg (fun x => some (Value.int .i64 x)) (wrap_nat (by omega)) | exact sv_eq (by simp; done) | exact rfl | refine ⟨?_, ?_⟩ | fail)⟩, i + 1, some ⟨K'.next + 1, 0, none⟩, by omega, rfl, rfl, ?_⟩
          rw [lowB_succ, ← List.append_assoc]
          exact hb4.app rfl
        have hi8 : i = 8 := by simp at hgi; omega
        subst hi8
        refine ⟨c.steps.length - (k + 1), ⟨[(1, .pointer (some ⟨0, 0, some 0⟩)), (3, .slice o' (pre.length + 13 + 8) (pre.length + 13 + 8)), (26, sv (some ⟨b, f, none⟩) c.steps), (27, .int .i64 c.steps.length), (28, .int .i64 ((k + 1 : Nat) : Int))], [vE1 p (some ⟨b, f, none⟩) r c]⟩, by omega, by (refine ⟨?_, ?_⟩ <;> repeat' first | exact trivial | exact congrArg (fun x => some (Value.int .i64 x)) (wrap_nat (by omega)) | exact sv_eq (by simp; done) | exact rfl | refine ⟨?_, ?_⟩ | fail), k + 1, o', by omega, rfl, ?_, ?_⟩
        · rw [hstep, ← hxl2]
        · rw [hstep]; exact hb3
      · have h1 : ¬ s.op = 1 := by simpa using h1
        rw [if_neg h1, List.append_nil] at hstep
        refine ⟨c.steps.length - (k + 1), ⟨[(1, .pointer (some ⟨0, 0, some 0⟩)), (3, sv o2 mid), (26, sv (some ⟨b, f, none⟩) c.steps), (27, .int .i64 c.steps.length), (28, .int .i64 ((k + 1 : Nat) : Int))], [vE1 p (some ⟨b, f, none⟩) r c]⟩, by omega, by (refine ⟨?_, ?_⟩ <;> repeat' first | exact trivial | exact congrArg (fun x => some (Value.int .i64 x)) (wrap_nat (by omega)) | exact sv_eq (by simp; done) | exact rfl | refine ⟨?_, ?_⟩ | fail), k + 1, o2, by omega, rfl, ?_, ?_⟩
        · rw [hstep]
        · rw [hstep]; exact hb2
  have hk : k = c.steps.length := by simp at hge; omega
  subst hk
  rw [List.take_of_length_le (Nat.le_refl _)] at hpre
  subst hpre
  refine ⟨_, bytesOf_one H _ _ _ (savC c) c.outs.length hb rfl (by omega), ?_, fun v K hR => by obtain ⟨_, h, _⟩ := hR; cases h⟩
  clear hb hxl
  rintro _ K ⟨o, hx, hb⟩
  cases hx
  refine loop_ind ctx (fun _ => true) (fun m E K => ∃ (k : Nat) (o : Option Addr), k ≤ c.outs.length ∧ m = c.outs.length - k ∧ E = ⟨[(1, .pointer (some ⟨0, 0, some 0⟩)), (3, sv o (savC c ++ (c.outs.take k).flatMap spanBy)), (76, sv r c.outs), (77, .int .i64 c.outs.length), (78, .int .i64 k)], [vE1 p q r c]⟩ ∧ BufG H K o (savC c ++ (c.outs.take k).flatMap spanBy))
    (E0 := ⟨[(1, .pointer (some ⟨0, 0, some 0⟩)), (3, sv o (savC c)), (76, sv r c.outs), (77, .int .i64 c.outs.length), (78, .int .i64 ((0 : Nat) : Int))], [vE1 p q r c]⟩) ⟨0, o, Nat.zero_le _, rfl, by rw [List.take_zero, List.flatMap_nil, List.append_nil], by rw [List.take_zero, List.flatMap_nil, List.append_nil]; exact hb⟩ (by (refine ⟨?_, ?_⟩ <;> repeat' first | exact trivial | exact congrArg (fun x => some (Value.int .i64 x)) (wrap_nat (by omega)) | exact sv_eq (by simp; done) | exact rfl | refine ⟨?_, ?_⟩ | fail)) ?_
  clear hb
  rintro m E K ⟨k, o, hk, rfl, rfl, hb⟩
  have hxl : (savC c ++ (c.outs.take k).flatMap spanBy).length ≤ 40000000 := by
    have := flat_le spanBy 4 (fun o => Nat.le_of_eq (spanBy_len o)) (c.outs.take k)
    have := savC_len hs
    rw [List.length_take, Nat.min_eq_left hk] at *
    rw [List.length_append]
    omega
  generalize hpre : savC c ++ (c.outs.take k).flatMap spanBy = pre at hb hxl
  refine ⟨fun hlt => ?_, fun hge => ?_⟩
  · have hlt : k < c.outs.length := by simpa using hlt
    have hx := List.getElem?_eq_getElem hlt
    have htk := take_flat spanBy hlt
    obtain ⟨b, f, rfl, hcs⟩ := (hc.outs.mono hb.ext).span hx
    have hstep : savC c ++ (c.outs.take (k + 1)).flatMap spanBy = pre ++ [c.outs[k].off, c.outs[k].len].flatMap cntB := by
      rw [htk, ← List.append_assoc, hpre]; rfl
    refine ⟨⟨by omega, by omega⟩, spanV c.outs[k], hcs, ?_⟩
    refine ⟨_, bytesOf_new H K o pre [c.outs[k].off, c.outs[k].len] hb (by show _ + 2 * 2 ≤ _; omega), ?_, fun v K hR => by obtain ⟨_, h, _⟩ := hR; cases h⟩
    rintro _ K2 ⟨o2, hx', hb2⟩
    cases hx'
    refine ⟨c.outs.length - (k + 1), ⟨[(1, .pointer (some ⟨0, 0, some 0⟩)), (3, sv o2 (pre ++ [c.outs[k].off, c.outs[k].len].flatMap cntB)), (76, sv (some ⟨b, f, none⟩) c.outs), (77, .int .i64 c.outs.length), (78, .int .i64 ((k + 1 : Nat) : Int))], [vE1 p q (some ⟨b, f, none⟩) c]⟩, by omega, by (refine ⟨?_, ?_⟩ <;> repeat' first | exact trivial | exact congrArg (fun x => some (Value.int .i64 x)) (wrap_nat (by omega)) | exact sv_eq (by simp; done) | exact rfl | refine ⟨?_, ?_⟩ | fail), k + 1, o2, by omega, rfl, ?_, ?_⟩
    · rw [hstep]
    · rw [hstep]; exact hb2
  have hk : k = c.outs.length := by simp at hge; omega
  subst hk
  rw [List.take_of_length_le (Nat.le_refl _)] at hpre
  subst hpre
  refine ⟨_, bytesOf_one H _ _ _ (savL c) c.peak hb rfl (by omega), ?_, fun v K hR => by obtain ⟨_, h, _⟩ := hR; cases h⟩
  rintro _ K2 ⟨o2, hx', hb2⟩
  cases hx'
  exact ⟨o2, rfl, hb2⟩
end Go.Proofs.Ythcnnificgbmhaa
