/- Saved code: what the reference makes of a code. Conditions: a code's numbers are counts. -/
import Derived.Test.YthcnnificgbmhaaSavb
set_option linter.unusedVariables false
set_option linter.unusedSimpArgs false
namespace Go.Proofs.Ythcnnificgbmhaa
open Go.Am
open FlCore (canon isNan)

abbrev vE1 (p q r : Option Addr) (c : Code') : List Value := [sv p c.ins, sv q c.steps, sv r c.outs, .int .i64 c.peak]
def fldL (s : Step) : List Int := [s.len, s.n, s.dst, s.a, s.b, s.c]
def stepBy (s : Step) : List Int := ([u8w s.op] ++ (fldL s).flatMap cntB) ++ (if s.op = 1 then lowB 8 (canon s.k) else [])
def spanBy (o : Span) : List Int := cntB o.off ++ cntB o.len
def savA (c : Code') : List Int := [71, 76] ++ cntB c.ins.length
def savB (c : Code') : List Int := (savA c ++ c.ins.flatMap cntB) ++ cntB c.steps.length
def savC (c : Code') : List Int := (savB c ++ c.steps.flatMap stepBy) ++ cntB c.outs.length
def savL (c : Code') : List Int := (savC c ++ c.outs.flatMap spanBy) ++ cntB c.peak
abbrev Cn (n : Int) : Prop := 0 ≤ n ∧ n ≤ 9223372036854775807
structure CodeN (c : Code') : Prop where
  ins : ∀ n ∈ c.ins, Cn n
  steps : ∀ s ∈ c.steps, ∀ n ∈ fldL s, Cn n
  outs : ∀ o ∈ c.outs, Cn o.off ∧ Cn o.len
  peak : Cn c.peak
structure CodeS (c : Code') : Prop where
  ins : c.ins.length ≤ 1048576
  steps : c.steps.length ≤ 1048576
  outs : c.outs.length ≤ 1048576
theorem flat_le {α : Type} (f : α → List Int) (n : Nat) (h : ∀ x, (f x).length ≤ n) : ∀ xs : List α, (xs.flatMap f).length ≤ n * xs.length
  | [] => by simp
  | x :: r => by
    have := flat_le f n h r
    have := h x
    simp only [List.flatMap_cons, List.length_append, List.length_cons, Nat.mul_add, Nat.mul_one]
    omega
theorem stepBy_le (s : Step) : (stepBy s).length ≤ 21 := by
  unfold stepBy
  simp only [List.length_append, cnt_len]
  split <;> simp [fldL]
theorem cntB_len (n : Int) : (cntB n).length = 2 := rfl
theorem spanBy_len (o : Span) : (spanBy o).length = 4 := rfl
theorem savA_len (c : Code') : (savA c).length = 4 := rfl
theorem savB_len (c : Code') : (savB c).length = 6 + 2 * c.ins.length := by simp only [savB, List.length_append, savA_len, cnt_len, cntB_len]; omega
theorem savC_len {c : Code'} (h : CodeS c) : (savC c).length ≤ 30000000 := by
  have := flat_le stepBy 21 stepBy_le c.steps
  have := h.ins
  have := h.steps
  simp only [savC, List.length_append, savB_len, cntB_len]
  omega
theorem Rd.pushKill {α : Type} {d : Enc α} {H K : Heap} {o : Option Addr} {xs : List Int} (h : BufG H K o xs) (ns : List α) (rw_ : Bool) : Rd d ((K.push (.cells (flat d ns) d.sz rw_)).killO o) (some ⟨K.next, 0, none⟩) ns := Rd.blk (rw_ := rw_) (by
  cases o with
  | none => exact push_blk K _
  | some a =>
    have : a.block < K.next := by
      cases h.buf with
      | blk _ q => exact K.lt _ _ q
    show (if K.next = a.block then none else (K.push _).blk K.next) = _
    rw [if_neg (by omega)]; exact push_blk K _)
theorem _root_.Go.Am.Buf.some_ {α : Type} {d : Enc α} {H : Heap} {base : Nat} {a : Option Addr} {xs : List α} (h : Buf d H base a xs) (hp : 0 < xs.length) : ∃ b, a = some ⟨b, 0, none⟩ ∧ base ≤ b ∧ H.blk b = some (.cells (flat d xs) d.sz true) := by
  cases h with
  | nil => simp at hp
  | blk hb h => exact ⟨_, rfl, hb, h⟩
theorem lb1 {n : Nat} (m : Nat) (h : n ≤ 100000000) (hm : m ≤ 1000) : (n + m) * 1 ≤ 140737488355328 := by omega
theorem lb2 {n : Nat} (m : Nat) (h : n ≤ 100000000) (hm : m ≤ 1000) : n + m ≤ 9223372036854775807 := by omega
theorem take_flat {α : Type} (f : α → List Int) {xs : List α} {k : Nat} (h : k < xs.length) : (xs.take (k + 1)).flatMap f = (xs.take k).flatMap f ++ f xs[k] := by
  rw [List.take_succ_eq_append_getElem h, List.flatMap_append]; simp

set_option maxHeartbeats 1000000 in
theorem l6save_ec (H : Heap) (p q r : Option Addr) (c : Code') (hc : RdC H p q r c) (hn : CodeN c) (hs : CodeS c) :
    EC Try.prog 14 [cV p q r c] H (BR H (savL c)) := by
  have hs1 := hs.ins
  have hs2 := hs.steps
  have hs3 := hs.outs
  refine EC_fn ctx (fun _ => true) Try.func14 rfl rfl rfl ?_
  have hb0 : BufG H (H.push (.cells [.int .u8 71, .int .u8 76] 1 true)) (some ⟨H.next, 0, none⟩) [71, 76] := ⟨.blk (Nat.le_refl _) (push_blk _ _), Ext.push _ _⟩
  refine ⟨_, l6count_ec _ c.ins.length (by omega) (by omega), ?_, fun v K hR => by cases hR.1⟩
  rintro _ _ ⟨hx, rfl⟩
  cases hx
  have hb1 := hb0.mono (Ext.push _ (bytesBlk (cntB c.ins.length)))
  refine ⟨_, run_push _ _ _ _ (by rw [flat_len]; exact Nat.le_refl 2), (by decide : (2 + 2) * 1 ≤ 140737488355328), (by decide : 2 + 2 ≤ 9223372036854775807), _, hb1.buf.own, ?_⟩
  have hb2 := hb1.app (ys := cntB c.ins.length) rfl
  refine loop_ind ctx (fun _ => true) (fun m E K => ∃ (k : Nat) (o : Option Addr), k ≤ c.ins.length ∧ m = c.ins.length - k ∧ E = ⟨[(1, .pointer (some ⟨0, 0, some 0⟩)), (3, sv o (savA c ++ (c.ins.take k).flatMap cntB)), (4, .int .i64 k)], [vE1 p q r c]⟩ ∧ BufG H K o (savA c ++ (c.ins.take k).flatMap cntB))
    (E0 := ⟨[(1, .pointer (some ⟨0, 0, some 0⟩)), (3, .slice (some ⟨H.next + 1 + 1, 0, none⟩) 4 4), (4, .int .i64 ((0 : Nat) : Int))], [vE1 p q r c]⟩) ⟨0, some ⟨H.next + 1 + 1, 0, none⟩, Nat.zero_le _, rfl, by rw [List.take_zero, List.flatMap_nil, List.append_nil]; rfl, by rw [List.take_zero, List.flatMap_nil, List.append_nil]; exact hb2⟩ (by (refine ⟨?_, ?_⟩ <;> repeat' first | exact trivial | exact congrArg (fun x => some (Value.int .i64 x)) (wrap_nat (by omega)) | exact sv_eq (by simp; done) | exact rfl | refine ⟨?_, ?_⟩ | fail)) ?_
  rintro m E K ⟨k, o, hk, rfl, rfl, hb⟩
  have hxl : (savA c ++ (c.ins.take k).flatMap cntB).length = 4 + 2 * k := by rw [List.length_append, cnt_len, List.length_take, Nat.min_eq_left hk, savA_len]
  refine ⟨fun hlt => ?_, fun hge => ?_⟩
  · have hlt : k < c.ins.length := by simpa using hlt
    obtain ⟨b, f, rfl, hcl⟩ := (hc.ins.mono hb.ext).cell (List.getElem?_eq_getElem hlt)
    have hcn := hn.ins _ (List.getElem_mem hlt)
    refine ⟨⟨by omega, by omega⟩, _, hcl, _, l6count_ec K c.ins[k] hcn.1 hcn.2, ?_, fun v K hR => by cases hR.1⟩
    rintro _ _ ⟨hx, rfl⟩
    cases hx
    have hb1 := hb.mono (Ext.push K (bytesBlk (cntB c.ins[k])))
    refine ⟨_, run_push _ _ _ _ (by rw [flat_len]; exact Nat.le_refl 2), lb1 2 (by omega) (by decide), lb2 2 (by omega) (by decide), _, hb1.buf.own, ?_⟩
    refine ⟨c.ins.length - (k + 1), ⟨[(1, .pointer (some ⟨0, 0, some 0⟩)), (3, .slice (some ⟨K.next + 1, 0, none⟩) ((savA c ++ (c.ins.take k).flatMap cntB).length + 2) ((savA c ++ (c.ins.take k).flatMap cntB).length + 2)), (4, .int .i64 ((k + 1 : Nat) : Int))], [vE1 (some ⟨b, f, none⟩) q r c]⟩, by omega, by (refine ⟨?_, ?_⟩ <;> repeat' first | exact trivial | exact congrArg (fun x => some (Value.int .i64 x)) (wrap_nat (by omega)) | exact sv_eq (by simp; done) | exact rfl | refine ⟨?_, ?_⟩ | fail), k + 1, some ⟨K.next + 1, 0, none⟩, by omega, rfl, ?_, ?_⟩
    · rw [take_flat _ hlt, ← List.append_assoc, ← sv_app _ _ (cntB c.ins[k]) rfl]; rfl
    · rw [take_flat _ hlt, ← List.append_assoc]
      exact hb1.app rfl
  have hk : k = c.ins.length := by simp at hge; omega
  subst hk
  rw [List.take_of_length_le (Nat.le_refl _)] at hb hxl
  rw [List.take_of_length_le (Nat.le_refl _)]
  refine ⟨_, l6count_ec K c.steps.length (by omega) (by omega), ?_, fun v K hR => by cases hR.1⟩
  rintro _ _ ⟨hx, rfl⟩
  cases hx
  have hb1 := hb.mono (Ext.push K (bytesBlk (cntB c.steps.length)))
  refine ⟨_, run_push _ _ _ _ (by rw [flat_len]; exact Nat.le_refl 2), lb1 2 (by omega) (by decide), lb2 2 (by omega) (by decide), _, hb1.buf.own, ?_⟩
  have hb2 := hb1.app (ys := cntB c.steps.length) rfl
  refine loop_ind ctx (fun _ => true) (fun m E K => ∃ (k : Nat) (o : Option Addr), k ≤ c.steps.length ∧ m = c.steps.length - k ∧ E = ⟨[(1, .pointer (some ⟨0, 0, some 0⟩)), (3, sv o (savB c ++ (c.steps.take k).flatMap stepBy)), (5, .int .i64 k)], [vE1 p q r c]⟩ ∧ BufG H K o (savB c ++ (c.steps.take k).flatMap stepBy))
    (E0 := ⟨[(1, .pointer (some ⟨0, 0, some 0⟩)), (3, .slice (some ⟨K.next + 1, 0, none⟩) ((savA c ++ c.ins.flatMap cntB).length + 2) ((savA c ++ c.ins.flatMap cntB).length + 2)), (5, .int .i64 ((0 : Nat) : Int))], [vE1 p q r c]⟩) ⟨0, some ⟨K.next + 1, 0, none⟩, Nat.zero_le _, rfl, ?_, ?_⟩ (by (refine ⟨?_, ?_⟩ <;> repeat' first | exact trivial | exact congrArg (fun x => some (Value.int .i64 x)) (wrap_nat (by omega)) | exact sv_eq (by simp; done) | exact rfl | refine ⟨?_, ?_⟩ | fail)) ?_
  · rw [List.take_zero, List.flatMap_nil, List.append_nil, savB, ← sv_app _ _ (cntB c.steps.length) rfl]; rfl
  · rw [List.take_zero, List.flatMap_nil, List.append_nil]
    exact hb2
  clear hb hb1 hb2 hxl
  rintro m E K ⟨k, o, hk, rfl, rfl, hb⟩
  have hxl : (savB c ++ (c.steps.take k).flatMap stepBy).length ≤ 30000000 := by
    have := flat_le stepBy 21 stepBy_le (c.steps.take k)
    rw [List.length_take, Nat.min_eq_left hk] at this
    rw [List.length_append, savB_len]
    omega
  generalize hpre : savB c ++ (c.steps.take k).flatMap stepBy = pre at hb hxl
  refine ⟨fun hlt => ?_, fun hge => ?_⟩
  · have hlt : k < c.steps.length := by simpa using hlt
    have hx := List.getElem?_eq_getElem hlt
    have hfn := hn.steps _ (List.getElem_mem hlt)
    have htk := take_flat stepBy hlt
    obtain ⟨b, f, rfl, hcs⟩ := (hc.steps.mono hb.ext).step hx
    generalize c.steps[k] = s at hx hcs hfn htk
    refine ⟨⟨by omega, by omega⟩, stepV s, hcs, ?_⟩
    have hb1 := hb.mono (Ext.push K (.cells [.int .u8 (u8w s.op)] 1 true))
    refine ⟨_, run_push _ _ _ _ (by simp), lb1 1 (by omega) (by decide), lb2 1 (by omega) (by decide), _, hb1.buf.own, ?_⟩
    have hb2 := hb1.app (ys := [u8w s.op]) rfl
    have hrf := Rd.pushKill (d := dInt) hb2 (fldL s) true
    have hb3 := hb2.mono (Ext.push _ (.cells (flat dInt (fldL s)) 1 true))
    refine loop_ind ctx (fun _ => true) (fun m E K' => ∃ (j : Nat) (o' : Option Addr), j ≤ 6 ∧ m = 6 - j ∧ E = ⟨[(1, .pointer (some ⟨0, 0, some 0⟩)), (3, .slice o' (pre.length + 1 + 2 * j) (pre.length + 1 + 2 * j)), (5, .int .i64 k), (6, .pointer (some ⟨1, 0, some 0⟩)), (7, .slice (some ⟨K.next + 1 + 1, 0, none⟩) 6 6), (8, .int .i64 j)], [vE1 p (some ⟨b, f, none⟩) r c, stepcells s]⟩ ∧ BufG H K' o' ((pre ++ [u8w s.op]) ++ ((fldL s).take j).flatMap cntB) ∧ Rd dInt (K'.killO o') (some ⟨K.next + 1 + 1, 0, none⟩) (fldL s))
      (E0 := ⟨[(1, .pointer (some ⟨0, 0, some 0⟩)), (3, .slice (some ⟨K.next + 1, 0, none⟩) (pre.length + 1) (pre.length + 1)), (5, .int .i64 k), (6, .pointer (some ⟨1, 0, some 0⟩)), (7, .slice (some ⟨K.next + 1 + 1, 0, none⟩) 6 6), (8, .int .i64 ((0 : Nat) : Int))], [vE1 p (some ⟨b, f, none⟩) r c, stepcells s]⟩) ⟨0, some ⟨K.next + 1, 0, none⟩, Nat.zero_le _, rfl, rfl, ?_, hrf⟩ (by (refine ⟨?_, ?_⟩ <;> repeat' first | exact trivial | exact congrArg (fun x => some (Value.int .i64 x)) (wrap_nat (by omega)) | exact sv_eq (by simp; done) | exact rfl | refine ⟨?_, ?_⟩ | fail)) ?_
    · rw [List.take_zero, List.flatMap_nil, List.append_nil]; exact hb3
    clear hb hb1 hb2 hb3 hrf hcs
    rintro m E K' ⟨j, o', hj, rfl, rfl, hb, hrf⟩
    have hl6 : (fldL s).length = 6 := rfl
    have hxl2 : ((pre ++ [u8w s.op]) ++ ((fldL s).take j).flatMap cntB).length = pre.length + 1 + 2 * j := by rw [List.length_append, cnt_len, List.length_take, hl6, Nat.min_eq_left hj, List.length_append]; rfl
    refine ⟨fun hlj => ?_, fun hgj => ?_⟩
    · have hlj : j < 6 := by simp at hlj; omega
      obtain ⟨b2, f2, hbe, hcf⟩ := (hrf.mono (unkill K' o')).cell (List.getElem?_eq_getElem (show j < (fldL s).length from hlj))
      cases hbe
      have hcn := hfn _ (List.getElem_mem (show j < (fldL s).length from hlj))
      refine ⟨⟨by omega, by omega⟩, _, hcf, _, l6count_ec K' _ hcn.1 hcn.2, ?_, fun v K hR => by cases hR.1⟩
      rintro _ _ ⟨hx', rfl⟩
      cases hx'
      have hb1 := hb.mono (Ext.push K' (bytesBlk (cntB ((fldL s)[j]'hlj))))
      have hown := hb1.buf.own
      rw [hxl2] at hown
      refine ⟨_, run_push _ _ _ _ (by rw [flat_len]; exact Nat.le_refl 2), lb1 2 (by omega) (by decide), lb2 2 (by omega) (by decide), _, hown, ?_⟩
      refine ⟨6 - (j + 1), ⟨[(1, .pointer (some ⟨0, 0, some 0⟩)), (3, .slice (some ⟨K'.next + 1, 0, none⟩) (pre.length + 1 + 2 * j + 2) (pre.length + 1 + 2 * j + 2)), (5, .int .i64 k), (6, .pointer (some ⟨1, 0, some 0⟩)), (7, .slice (some ⟨K.next + 1 + 1, 0, none⟩) 6 6), (8, .int .i64 ((j + 1 : Nat) : Int))], [vE1 p (some ⟨b, f, none⟩) r c, stepcells s]⟩, by omega, by (refine ⟨?_, ?_⟩ <;> repeat' first | exact trivial | exact congrArg (fun x => some (Value.int .i64 x)) (wrap_nat (by omega)) | exact sv_eq (by simp; done) | exact rfl | refine ⟨?_, ?_⟩ | fail), j + 1, some ⟨K'.next + 1, 0, none⟩, by omega, rfl, by rw [show pre.length + 1 + 2 * j + 2 = pre.length + 1 + 2 * (j + 1) by omega], ?_, hrf.mono (Ext.app o' _ _)⟩
      rw [take_flat _ (show j < (fldL s).length from hlj), ← List.append_assoc]
      exact hb1.app rfl
    have hj6 : j = 6 := by simp at hgj; omega
    subst hj6
    rw [List.take_of_length_le (Nat.le_refl 6)] at hb hxl2
    have hstep : savB c ++ (c.steps.take (k + 1)).flatMap stepBy = ((pre ++ [u8w s.op]) ++ (fldL s).flatMap cntB) ++ (if s.op = 1 then lowB 8 (canon s.k) else []) := by
      rw [htk, ← List.append_assoc, hpre, stepBy, ← List.append_assoc, ← List.append_assoc]
    generalize (pre ++ [u8w s.op]) ++ (fldL s).flatMap cntB = mid at hb hxl2 hstep
    refine ⟨fun h1 => ?_, fun h1 => ?_⟩
    · have h1 : s.op = 1 := by simpa using h1
      rw [if_pos h1] at hstep
      refine ⟨_, l6float_ec K' s.k, ?_, fun v K hR => by obtain ⟨_, h, _⟩ := hR; cases h⟩
      rintro _ K2 ⟨o2, hx', hb2⟩
      cases hx'
      have hl8 : (lowB 8 (canon s.k)).length = 8 := lowB_len _ _
      have hb1 := hb.mono hb2.ext
      have hown := hb1.buf.own
      rw [hxl2] at hown
      obtain ⟨b3, rfl, hb3, hblk⟩ := hb2.buf.some_ (by omega)
      have hrun := own_run (Rd.blk hblk) (by omega)
      rw [hl8] at hrun
      refine ⟨_, hrun, lb1 8 (by omega) (by decide), lb2 8 (by omega) (by decide), _, hown, ?_⟩
      refine ⟨c.steps.length - (k + 1), ⟨[(1, .pointer (some ⟨0, 0, some 0⟩)), (3, .slice (some ⟨K2.next, 0, none⟩) (pre.length + 1 + 2 * 6 + 8) (pre.length + 1 + 2 * 6 + 8)), (5, .int .i64 ((k + 1 : Nat) : Int))], [vE1 p (some ⟨b, f, none⟩) r c]⟩, by omega, by (refine ⟨?_, ?_⟩ <;> repeat' first | exact trivial | exact congrArg (fun x => some (Value.int .i64 x)) (wrap_nat (by omega)) | exact sv_eq (by simp; done) | exact rfl | refine ⟨?_, ?_⟩ | fail), k + 1, some ⟨K2.next, 0, none⟩, by omega, rfl, ?_, ?_⟩
      · rw [hstep, ← sv_app _ _ _ hl8, hxl2]
      · rw [hstep]
        exact hb1.app rfl
    · have h1 : ¬ s.op = 1 := by simpa using h1
      rw [if_neg h1, List.append_nil] at hstep
      refine ⟨c.steps.length - (k + 1), ⟨[(1, .pointer (some ⟨0, 0, some 0⟩)), (3, .slice o' (pre.length + 1 + 2 * 6) (pre.length + 1 + 2 * 6)), (5, .int .i64 ((k + 1 : Nat) : Int))], [vE1 p (some ⟨b, f, none⟩) r c]⟩, by omega, by (refine ⟨?_, ?_⟩ <;> repeat' first | exact trivial | exact congrArg (fun x => some (Value.int .i64 x)) (wrap_nat (by omega)) | exact sv_eq (by simp; done) | exact rfl | refine ⟨?_, ?_⟩ | fail), k + 1, o', by omega, rfl, ?_, ?_⟩
      · rw [hstep, ← hxl2]
      · rw [hstep]
        exact hb
  have hk : k = c.steps.length := by simp at hge; omega
  subst hk
  rw [List.take_of_length_le (Nat.le_refl _)] at hpre
  subst hpre
  refine ⟨_, l6count_ec K c.outs.length (by omega) (by omega), ?_, fun v K hR => by cases hR.1⟩
  rintro _ _ ⟨hx, rfl⟩
  cases hx
  have hb1 := hb.mono (Ext.push K (bytesBlk (cntB c.outs.length)))
  refine ⟨_, run_push _ _ _ _ (by rw [flat_len]; exact Nat.le_refl 2), lb1 2 (by omega) (by decide), lb2 2 (by omega) (by decide), _, hb1.buf.own, ?_⟩
  have hb2 := hb1.app (ys := cntB c.outs.length) rfl
  refine loop_ind ctx (fun _ => true) (fun m E K => ∃ (k : Nat) (o : Option Addr), k ≤ c.outs.length ∧ m = c.outs.length - k ∧ E = ⟨[(1, .pointer (some ⟨0, 0, some 0⟩)), (3, sv o (savC c ++ (c.outs.take k).flatMap spanBy)), (9, .int .i64 k)], [vE1 p q r c]⟩ ∧ BufG H K o (savC c ++ (c.outs.take k).flatMap spanBy))
    (E0 := ⟨[(1, .pointer (some ⟨0, 0, some 0⟩)), (3, .slice (some ⟨K.next + 1, 0, none⟩) ((savB c ++ c.steps.flatMap stepBy).length + 2) ((savB c ++ c.steps.flatMap stepBy).length + 2)), (9, .int .i64 ((0 : Nat) : Int))], [vE1 p q r c]⟩) ⟨0, some ⟨K.next + 1, 0, none⟩, Nat.zero_le _, rfl, ?_, ?_⟩ (by (refine ⟨?_, ?_⟩ <;> repeat' first | exact trivial | exact congrArg (fun x => some (Value.int .i64 x)) (wrap_nat (by omega)) | exact sv_eq (by simp; done) | exact rfl | refine ⟨?_, ?_⟩ | fail)) ?_
  · rw [List.take_zero, List.flatMap_nil, List.append_nil, savC, ← sv_app _ _ (cntB c.outs.length) rfl]; rfl
  · rw [List.take_zero, List.flatMap_nil, List.append_nil]
    exact hb2
  clear hb hb1 hb2 hxl
  rintro m E K ⟨k, o, hk, rfl, rfl, hb⟩
  have hxl : (savC c ++ (c.outs.take k).flatMap spanBy).length ≤ 40000000 := by
    have := flat_le spanBy 4 (fun o => Nat.le_of_eq (spanBy_len o)) (c.outs.take k)
    have := savC_len hs
    rw [List.length_take, Nat.min_eq_left hk] at *
    rw [List.length_append]
    omega
  generalize hpre : savC c ++ (c.outs.take k).flatMap spanBy = pre at hb hxl
  refine ⟨fun hlt => ?_, fun hge => ?_⟩
  · have hlt : k < c.outs.length := by simpa using hlt
    have hx := List.getElem?_eq_getElem hlt
    have hcn := hn.outs _ (List.getElem_mem hlt)
    have htk := take_flat spanBy hlt
    obtain ⟨b, f, rfl, c0, c1⟩ := (hc.outs.mono hb.ext).spanF hx
    refine ⟨⟨by omega, by omega⟩, _, c0, _, l6count_ec K _ hcn.1.1 hcn.1.2, ?_, fun v K hR => by cases hR.1⟩
    rintro _ _ ⟨hx', rfl⟩
    cases hx'
    have hb1 := hb.mono (Ext.push K (bytesBlk (cntB c.outs[k].off)))
    refine ⟨_, run_push _ _ _ _ (by rw [flat_len]; exact Nat.le_refl 2), lb1 2 (by omega) (by decide), lb2 2 (by omega) (by decide), _, hb1.buf.own, ?_⟩
    have hb2 := hb1.app (ys := cntB c.outs[k].off) rfl
    obtain ⟨b', f', hbe, c0', c1'⟩ := (hc.outs.mono hb2.ext).spanF hx
    cases hbe
    refine ⟨⟨by omega, by omega⟩, _, c1', _, l6count_ec _ _ hcn.2.1 hcn.2.2, ?_, fun v K hR => by cases hR.1⟩
    rintro _ _ ⟨hx', rfl⟩
    cases hx'
    have hb3 := hb2.mono (Ext.push _ (bytesBlk (cntB c.outs[k].len)))
    have hl2 : (pre ++ cntB c.outs[k].off).length = pre.length + 2 := by rw [List.length_append]; rfl
    have hown := hb3.buf.own
    rw [hl2] at hown
    refine ⟨_, run_push _ _ _ _ (by rw [flat_len]; exact Nat.le_refl 2), lb1 (n := pre.length + 2) 2 (by omega) (by decide), lb2 (n := pre.length + 2) 2 (by omega) (by decide), _, hown, ?_⟩
    have hstep : savC c ++ (c.outs.take (k + 1)).flatMap spanBy = (pre ++ cntB c.outs[k].off) ++ cntB c.outs[k].len := by
      rw [htk, ← List.append_assoc, hpre, spanBy, ← List.append_assoc]
    refine ⟨c.outs.length - (k + 1), ⟨[(1, .pointer (some ⟨0, 0, some 0⟩)), (3, .slice (some ⟨K.next + 1 + 1 + 1, 0, none⟩) (pre.length + 2 + 2) (pre.length + 2 + 2)), (9, .int .i64 ((k + 1 : Nat) : Int))], [vE1 p q (some ⟨b, f, none⟩) c]⟩, by omega, by (refine ⟨?_, ?_⟩ <;> repeat' first | exact trivial | exact congrArg (fun x => some (Value.int .i64 x)) (wrap_nat (by omega)) | exact sv_eq (by simp; done) | exact rfl | refine ⟨?_, ?_⟩ | fail), k + 1, some ⟨K.next + 1 + 1 + 1, 0, none⟩, by omega, rfl, ?_, ?_⟩
    · rw [hstep, ← sv_app _ _ (cntB c.outs[k].len) rfl, hl2]; rfl
    · rw [hstep]
      exact hb3.app rfl
  have hk : k = c.outs.length := by simp at hge; omega
  subst hk
  rw [List.take_of_length_le (Nat.le_refl _)] at hpre
  subst hpre
  refine ⟨_, l6count_ec K c.peak hn.peak.1 hn.peak.2, ?_, fun v K hR => by cases hR.1⟩
  rintro _ _ ⟨hx, rfl⟩
  cases hx
  have hb1 := hb.mono (Ext.push K (bytesBlk (cntB c.peak)))
  refine ⟨_, run_push _ _ _ _ (by rw [flat_len]; exact Nat.le_refl 2), lb1 2 (by omega) (by decide), lb2 2 (by omega) (by decide), _, hb1.buf.own, ?_⟩
  refine ⟨some ⟨K.next + 1, 0, none⟩, ?_, hb1.app (ys := cntB c.peak) rfl⟩
  rw [savL, ← sv_app _ _ (cntB c.peak) rfl]; rfl
end Go.Proofs.Ythcnnificgbmhaa
