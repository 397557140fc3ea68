/- l6load: what the reference reads as a code, walked. Conditions: those of each. -/
import Derived.Test.YthcnnificgbmhaaLdd
set_option linter.unusedVariables false
set_option linter.unusedSimpArgs false
namespace Go.Proofs.Ythcnnificgbmhaa
open Go.Am
open FlCore (canon isNan)

theorem valB_lt {bs : List Int} (hb : ByteL bs) : ∀ n (i : Nat), valB n (bs.drop i) < 256 ^ n
  | 0, _ => by simp [valB]
  | n + 1, i => by
    have h1 := valB_lt hb n (i + 1)
    have h2 := at_range hb i
    have h3 : at_ (bs.drop i) 0 = at_ bs i := by unfold at_; rw [List.getElem?_drop, Nat.add_zero]
    simp only [valB, List.drop_drop, h3, Nat.pow_succ]
    omega
theorem valB_step {bs : List Int} (hb : ByteL bs) (n i : Nat) : ((valB (n + 1) (bs.drop i) : Nat) : Int) = ((valB n (bs.drop (i + 1)) : Nat) : Int) * 256 + at_ bs i := by
  have h2 := at_range hb i
  have h3 : at_ (bs.drop i) 0 = at_ bs i := by unfold at_; rw [List.getElem?_drop, Nat.add_zero]
  simp only [valB, List.drop_drop, h3]
  omega
theorem specFromN_pc (V : Nat) (b1 : V < 18446744073709551616) (H : Heap) : PC Try.prog 29 [.int .u64 (V : Int)] H (.float .f64 (canon V)) := specFrom_pc (V : Int) (by omega) (by omega) H
theorem Ext.push2 {H K : Heap} (e : Ext H K) (c : Blk) : Ext H (K.push c) := e.trans (Ext.push _ _)
set_option maxHeartbeats 4000000 in
theorem l6load_ec (H : Heap) (p : Option Addr) (bs : List Int) (hr : Rd dByte H p bs) (hb : ByteL bs) (hl : bs.length ≤ 1048576) :
    EC Try.prog 12 [sv p bs] H (LR H bs) := by
  refine EC_fn ctx (fun _ => true) Try.func12 rfl rfl rfl ?_
  have hw : ∀ a b : Nat, a ≤ 100000000 → b ≤ 100000000 → IntKind.i64.wrap ((a : Int) + (b : Int)) = ((a + b : Nat) : Int) := fun a b h1 h2 => by rw [wrap_i64 (by omega) (by omega)]; omega
  refine ⟨_, l6counts_ec H p bs 2 1 hr hb (by omega) (by omega) (by omega), ?_, fun v K hR => (cR_no hR).elim⟩
  rintro v K0 (⟨hlt, hv, rfl⟩ | ⟨hle, o0, hv, e0, b0⟩)
  · cases hv
    refine ⟨fun _ => ?_, fun h => by simp at h⟩
    exact ⟨none, none, none, ⟨[], [], [], 0⟩, .inl ⟨rfl, Ext.refl _, fun c hc => by have := posS_le hc (Nat.zero_le _); rw [posS_zero] at this; omega⟩⟩
  cases hv
  refine ⟨fun h => by simp at h, fun _ => ?_⟩
  obtain ⟨n0, hn0, hn0l⟩ := cnt_nat hb 2
  rw [cnts_one, hn0] at b0
  obtain ⟨bb0, of0, rfl⟩ := rd_some b0.rd (by simp)
  have hw4 : IntKind.i64.wrap (4 + IntKind.i64.wrap (2 * (n0 : Int))) = ((4 + 2 * n0 : Nat) : Int) := by rw [wrap_i64 (x := 2 * (n0 : Int)) (by omega) (by omega), wrap_i64 (by omega) (by omega)]; omega
  refine ⟨⟨by omega, by rw [cntsL_len]; omega⟩, _, cell_i b0.rd (j := 0) rfl, _, l6counts_ec K0 p bs 4 n0 (hr.mono e0) hb (by omega) (by omega) hn0l, ?_, fun v K hR => (cR_no hR).elim⟩
  rintro v K1 (⟨hlt, hv, rfl⟩ | ⟨hle1, o1, hv, e1, b1⟩)
  · cases hv
    refine ⟨⟨by omega, by rw [cntsL_len]; omega⟩, _, cell_i b0.rd (j := 0) rfl, fun _ => ?_, fun h => by simp at h⟩
    exact ⟨none, none, none, ⟨[], [], [], 0⟩, .inl ⟨rfl, e0, fun c hc => by have := posS_le hc (Nat.zero_le _); rw [posS_zero] at this; have := hc.insN; omega⟩⟩
  cases hv
  refine ⟨⟨by omega, by rw [cntsL_len]; omega⟩, _, cell_i (b0.rd.mono e1) (j := 0) rfl, fun h => by simp at h, fun _ => ?_⟩
  refine ⟨CR K1 bs (4 + 2 * n0) 1, by rw [hw4]; exact l6counts_ec K1 p bs (4 + 2 * n0) 1 (hr.mono (e0.trans e1)) hb (by omega) (by omega) (by omega), ?_, fun v K hR => (cR_no hR).elim⟩
  rintro v K2 (⟨hlt, hv, rfl⟩ | ⟨hle2, o2, hv, e2, b2⟩)
  · cases hv
    refine ⟨fun _ => ?_, fun h => by simp at h⟩
    exact ⟨o1, none, none, ⟨cntsL bs 4 n0, [], [], 0⟩, .inl ⟨rfl, e0.trans e1, fun c hc => by have := posS_le hc (Nat.zero_le _); rw [posS_zero] at this; have := hc.insN; omega⟩⟩
  cases hv
  refine ⟨fun h => by simp at h, fun _ => ?_⟩
  obtain ⟨n1, hn1, hn1l⟩ := cnt_nat hb (4 + 2 * n0)
  rw [cnts_one, hn1] at b2
  obtain ⟨bb2, of2, rfl⟩ := rd_some b2.rd (by simp)
  have hgh0 : GhS bs (cntsL bs 4 n0) n1 0 (6 + 2 * n0) [] := fun c hc => by
    have h1 := hc.insN
    have h2 : n0 = c.ins.length := by omega
    subst h2
    have h3 := hc.stepsN
    exact ⟨hc.ins, by omega, (posS_zero c).symm, rfl⟩
  have hb1 := b1.mono e2
  have hilen : (cntsL bs 4 n0).length ≤ 65535 := by rw [cntsL_len]; exact hn0l
  generalize cntsL bs 4 n0 = is at hgh0 b1 hb1 hilen ⊢
  have hpos0 : IntKind.i64.wrap (IntKind.i64.wrap (4 + IntKind.i64.wrap (2 * (n0 : Int))) + 2) = ((6 + 2 * n0 : Nat) : Int) := by rw [hw4, wrap_i64 (by omega) (by omega)]; omega
  have E2 : Ext H K2 := (e0.trans e1).trans e2
  refine loop_ind ctx (fun _ => true) (fun m E K => ∃ (k pos : Nat) (q : Option Addr) (ss : List Step), k ≤ n1 ∧ m = n1 - k ∧ E = ⟨[(0, sv p bs), (2, .pointer (some ⟨0, 0, some 0⟩)), (4, .pointer (some ⟨1, 0, some 0⟩)), (5, .slice (some ⟨bb2, of2, none⟩) 1 1), (7, .int .i64 pos), (10, .int .i64 k)], [[.slice none 0 0, .slice none 0 0, .slice none 0 0, .int .i64 0], [sv o1 is, sv q ss, .slice none 0 0, .int .i64 0]]⟩ ∧ Ext K2 K ∧ Buf dStep K K2.next q ss ∧ ss.length = k ∧ NormS ss ∧ pos ≤ bs.length ∧ GhS bs is n1 k pos ss)
    (E0 := ⟨[(0, sv p bs), (2, .pointer (some ⟨0, 0, some 0⟩)), (4, .pointer (some ⟨1, 0, some 0⟩)), (5, .slice (some ⟨bb2, of2, none⟩) 1 1), (7, .int .i64 ((6 + 2 * n0 : Nat) : Int)), (10, .int .i64 ((0 : Nat) : Int))], [[.slice none 0 0, .slice none 0 0, .slice none 0 0, .int .i64 0], [sv o1 is, .slice none 0 0, .slice none 0 0, .int .i64 0]]⟩)
    ⟨0, 6 + 2 * n0, none, [], Nat.zero_le _, rfl, rfl, Ext.refl _, .nil, rfl, fun s hs => (by cases hs), by omega, hgh0⟩ (by (refine ⟨?_, ?_⟩ <;> repeat' first | exact trivial | exact congrArg (fun x => some (Value.int .i64 x)) hpos0 | exact rfl | refine ⟨?_, ?_⟩ | fail)) ?_
  rintro m E K ⟨k, pos, q, ss, hk, rfl, rfl, eK, bK, hsl, hnm, hps, hgh⟩
  have EK : Ext H K := E2.trans eK
  refine ⟨⟨by omega, by omega⟩, _, cell_i (b2.rd.mono eK) (j := 0) rfl, fun hlt => ?_, fun hge => ?_⟩
  · have hlt : k < n1 := by simpa using hlt
    refine ⟨CR K bs (pos + 1) 6, by rw [wrap_nat (by omega)]; exact l6counts_ec K p bs (pos + 1) 6 (hr.mono EK) hb (by omega) (by omega) (by omega), ?_, fun v K hR => (cR_no hR).elim⟩
    rintro v K3 (⟨hlt3, hv, rfl⟩ | ⟨hle3, o3, hv, e3, b3⟩)
    · cases hv
      refine ⟨fun _ => ?_, fun h => by simp at h⟩
      exact ⟨o1, q, none, ⟨is, ss, [], 0⟩, .inl ⟨rfl, EK, hgh.lt hlt (by omega)⟩⟩
    cases hv
    refine ⟨fun h => by simp at h, fun _ => ?_⟩
    have hr3 := hr.mono (EK.trans e3)
    obtain ⟨bp, op_, rfl⟩ := rd_some hr3 (by omega)
    obtain ⟨bb3, of3, rfl⟩ := rd_some b3.rd (by rw [cntsL_len]; omega)
    have hopr := at_range hb pos
    have hop : IntKind.i64.wrap (at_ bs pos) = at_ bs pos := wrap_i64 (by omega) (by omega)
    have h6 : cntsL bs (pos + 1) 6 = [cntAt bs (pos + 1), cntAt bs (pos + 1 + 2), cntAt bs (pos + 1 + 4), cntAt bs (pos + 1 + 6), cntAt bs (pos + 1 + 8), cntAt bs (pos + 1 + 10)] := rfl
    have r3 : Rd dInt K3 (some ⟨bb3, of3, none⟩) (cntsL bs (pos + 1) 6) := b3.rd
    rw [h6] at r3
    have h6l : ((cntsL bs (pos + 1) 6).length : Int) = 6 := by rw [cntsL_len]; rfl
    refine ⟨.leaf [([0, 1, 2, 3, 4, 5, 6, 7, 8, 9, 10, 11, 12, 13, 14, 15, 16, 17, 18, 19, 20, 21, 22, 23], some 24), ([], some 25), ([], none)] [0, 1, 2, 3, 4, 5, 6, 7, 8, 9, 10, 11, 12, 13, 14, 15, 16, 17, 18, 19, 20, 21, 22, 23], by kernel_rfl, ⟨by omega, by omega⟩, _, at_cell hr3 (j := pos) (by omega) rfl, ⟨by omega, by omega⟩, _, cell_i r3 (j := 0) rfl, ⟨by omega, by omega⟩, _, cell_i r3 (j := 1) rfl, ⟨by omega, by omega⟩, _, cell_i r3 (j := 2) rfl, ⟨by omega, by omega⟩, _, cell_i r3 (j := 3) rfl, ⟨by omega, by omega⟩, _, cell_i r3 (j := 4) rfl, ⟨by omega, by omega⟩, _, cell_i r3 (j := 5) rfl, Ext.refl _, Ext.refl _, fun ho => ?_, fun ho => ?_⟩
    · have ho1 : at_ bs pos = 1 := by rw [hop] at ho; simpa using ho
      have hp13 : IntKind.i64.wrap ((pos : Int) + 13) = ((pos + 13 : Nat) : Int) := hw pos 13 (by omega) (by omega)
      have hp21 : IntKind.i64.wrap (((pos + 13 : Nat) : Int) + 8) = ((pos + 21 : Nat) : Int) := hw (pos + 13) 8 (by omega) (by omega)
      refine ⟨fun h8 => ?_, fun h8 => ?_⟩
      · rw [hp13, hp21] at h8
        have h8 : bs.length < pos + 21 := by simp at h8; omega
        exact ⟨o1, q, none, ⟨is, ss, [], 0⟩, .inl ⟨rfl, EK.trans e3, fun c hc => by
          obtain ⟨g1, g2, g3, g4⟩ := hgh c hc
          have h5 := posS_succ (c := c) (k := k) (by omega)
          have h6 := posS_le hc (k := k + 1) (by omega)
          rw [stepBy_len, ← (hc.step (k := k) (by omega)).1, ← g3, if_pos ho1] at h5
          omega⟩⟩
      have h8 : pos + 21 ≤ bs.length := by rw [hp13, hp21] at h8; simp at h8; omega
      have hv8 := valB_lt hb 8 (pos + 13)
      refine loop_ind ctx (fun _ => true) (fun m E K' => ∃ i : Nat, i ≤ 8 ∧ m = 8 - i ∧ E = ⟨[(0, sv (some ⟨bp, op_, none⟩) bs), (2, .pointer (some ⟨0, 0, some 0⟩)), (4, .pointer (some ⟨1, 0, some 0⟩)), (5, .slice (some ⟨bb2, of2, none⟩) 1 1), (7, .int .i64 ((pos + 13 : Nat) : Int)), (10, .int .i64 k), (13, .pointer (some ⟨2, 0, some 0⟩)), (14, .int .u64 ((valB i (bs.drop (pos + 21 - i)) : Nat) : Int)), (15, .int .i64 (7 - (i : Int)))], [[.slice none 0 0, .slice none 0 0, .slice none 0 0, .int .i64 0], [sv o1 is, sv q ss, .slice none 0 0, .int .i64 0], stepcells (stepOf bs pos (IntKind.i64.wrap (at_ bs pos)) 0)]⟩ ∧ K' = K3)
        (E0 := ⟨[(0, sv (some ⟨bp, op_, none⟩) bs), (2, .pointer (some ⟨0, 0, some 0⟩)), (4, .pointer (some ⟨1, 0, some 0⟩)), (5, .slice (some ⟨bb2, of2, none⟩) 1 1), (7, .int .i64 ((pos + 13 : Nat) : Int)), (10, .int .i64 k), (13, .pointer (some ⟨2, 0, some 0⟩)), (14, .int .u64 0), (15, .int .i64 7)], [[.slice none 0 0, .slice none 0 0, .slice none 0 0, .int .i64 0], [sv o1 is, sv q ss, .slice none 0 0, .int .i64 0], stepcells (stepOf bs pos (IntKind.i64.wrap (at_ bs pos)) 0)]⟩) ⟨0, Nat.zero_le _, rfl, rfl, rfl⟩ (by (refine ⟨?_, ?_⟩ <;> repeat' first | exact trivial | exact congrArg (fun x => some (Value.int .i64 x)) hp13 | exact congrArg (fun x => some (Value.int .i64 x)) hp13 | exact congrArg (fun x => some (Value.int .i64 x)) (wrap_nat (by omega)) | exact rfl | refine ⟨?_, ?_⟩ | fail)) ?_
      rintro m E K' ⟨i, hi, rfl, rfl, rfl⟩
      refine ⟨fun hlt8 => ?_, fun hge8 => ?_⟩
      · have hlt8 : i < 8 := by simp at hlt8; omega
        have hix : IntKind.i64.wrap (((pos + 13 : Nat) : Int) + (7 - (i : Int))) = ((pos + 20 - i : Nat) : Int) := by rw [wrap_i64 (by omega) (by omega)]; omega
        have h15 : IntKind.i64.wrap (7 - (i : Int) - 1) = 7 - ((i + 1 : Nat) : Int) := by rw [wrap_i64 (by omega) (by omega)]; omega
        have hvi := valB_lt hb (i + 1) (pos + 20 - i)
        have hvp : 256 ^ (i + 1) ≤ 256 ^ 8 := Nat.pow_le_pow_right (by decide) (by omega)
        have hst := valB_step hb i (pos + 20 - i)
        have har := at_range hb (pos + 20 - i)
        rw [show pos + 20 - i + 1 = pos + 21 - i by omega] at hst
        have h14 : IntKind.u64.wrap (IntKind.u64.wrap (((valB i (bs.drop (pos + 21 - i)) : Nat) : Int) * 256) + IntKind.u64.wrap (at_ bs (pos + 20 - i))) = ((valB (i + 1) (bs.drop (pos + 21 - (i + 1))) : Nat) : Int) := by
          rw [show pos + 21 - (i + 1) = pos + 20 - i by omega]
          have : (256 : Nat) ^ 8 = 18446744073709551616 := by decide
          rw [wrap_u64 (x := at_ _ _) (by omega) (by omega), wrap_u64 (x := _ * 256) (by omega) (by omega), wrap_u64 (by omega) (by omega)]
          exact hst.symm
        exact ⟨⟨by rw [hix]; omega, by rw [hix]; omega⟩, _, at_cell hr3 (j := pos + 20 - i) (by omega) hix, 8 - (i + 1), ⟨[(0, sv (some ⟨bp, op_, none⟩) bs), (2, .pointer (some ⟨0, 0, some 0⟩)), (4, .pointer (some ⟨1, 0, some 0⟩)), (5, .slice (some ⟨bb2, of2, none⟩) 1 1), (7, .int .i64 ((pos + 13 : Nat) : Int)), (10, .int .i64 k), (13, .pointer (some ⟨2, 0, some 0⟩)), (14, .int .u64 ((valB (i + 1) (bs.drop (pos + 21 - (i + 1))) : Nat) : Int)), (15, .int .i64 (7 - ((i + 1 : Nat) : Int)))], [[.slice none 0 0, .slice none 0 0, .slice none 0 0, .int .i64 0], [sv o1 is, sv q ss, .slice none 0 0, .int .i64 0], stepcells (stepOf bs pos (IntKind.i64.wrap (at_ bs pos)) 0)]⟩, by omega, (by (refine ⟨?_, ?_⟩ <;> repeat' first | exact trivial | exact congrArg (fun x => some (Value.int .i64 x)) h15 | exact congrArg (fun x => some (Value.int .u64 x)) h14 | exact congrArg (fun x => some (Value.int .i64 x)) (wrap_nat (by omega)) | exact rfl | refine ⟨?_, ?_⟩ | fail)), i + 1, by omega, rfl, rfl, rfl⟩
      · have hi8 : i = 8 := by simp at hge8; omega
        subst hi8
        rw [show pos + 21 - 8 = pos + 13 by omega]
        have h256 : (256 : Nat) ^ 8 = 18446744073709551616 := by decide
        rw [h256] at hv8
        generalize hV : valB 8 (bs.drop (pos + 13)) = V at hv8 ⊢
        have hp21' : IntKind.i64.wrap (((pos + 13 : Nat) : Int) + 8) = ((pos + 21 : Nat) : Int) := hp21
        refine ⟨_, specFromN_pc V hv8 K', ?_, fun v K hR => by cases hR.1⟩
        rintro _ K3 ⟨hx, rfl⟩
        cases hx
        have hb1 := (bK.mono e3).mono (Ext.push K3 (.cells (flat dStep [stepOf bs pos (IntKind.i64.wrap (at_ bs pos)) (canon V)]) 8 true))
        refine ⟨_, run_push _ _ _ _ (Nat.le_refl 8), by dsimp only; omega, by dsimp only; omega, _, hb1.own, ?_⟩
        refine ⟨n1 - (k + 1), ⟨[(0, sv (some ⟨bp, op_, none⟩) bs), (2, .pointer (some ⟨0, 0, some 0⟩)), (4, .pointer (some ⟨1, 0, some 0⟩)), (5, .slice (some ⟨bb2, of2, none⟩) 1 1), (7, .int .i64 ((pos + 21 : Nat) : Int)), (10, .int .i64 ((k + 1 : Nat) : Int))], [[.slice none 0 0, .slice none 0 0, .slice none 0 0, .int .i64 0], [sv o1 is, sv (some ⟨K3.next + 1, 0, none⟩) (ss ++ [stepOf bs pos (IntKind.i64.wrap (at_ bs pos)) (canon V)]), .slice none 0 0, .int .i64 0]]⟩, by omega, ?_, k + 1, pos + 21, some ⟨K3.next + 1, 0, none⟩, _, by omega, rfl, rfl, ?_, ?_, by rw [List.length_append, hsl]; rfl, hnm.snoc (canon_idem _) (canon_lt hv8) (fun h => absurd (hop.trans ho1) h), by omega, ?_⟩
        · rw [← sv_app _ _ [stepOf bs pos (IntKind.i64.wrap (at_ bs pos)) (canon V)] rfl]
          exact (by (refine ⟨?_, ?_⟩ <;> repeat' first | exact trivial | exact congrArg (fun x => some (Value.int .i64 x)) hp21' | exact congrArg (fun x => some (Value.int .i64 x)) hp21' | exact congrArg (fun x => some (Value.int .i64 x)) (wrap_nat (by omega)) | exact rfl | refine ⟨?_, ?_⟩ | fail))
        · exact (hb1.killO ((eK.trans e3).trans (Ext.push K3 _)) (Nat.le_refl _)).push' _
        · exact hb1.app rfl (by show K2.next ≤ K3.next + 1; have := (eK.trans e3).next; omega)
        · have := hgh.step hlt (f := canon V) hop (fun s h1 h2 h3 h4 => by rw [← hV, h3 (h2.trans ho1), h1])
          rw [if_pos ho1, Nat.add_assoc] at this
          exact this

    · have ho1 : ¬ at_ bs pos = 1 := by rw [hop] at ho; simpa using ho
      have hp13 : IntKind.i64.wrap ((pos : Int) + 13) = ((pos + 13 : Nat) : Int) := hw pos 13 (by omega) (by omega)
      have hb1 := (bK.mono e3).mono (Ext.push K3 (.cells (flat dStep [stepOf bs pos (IntKind.i64.wrap (at_ bs pos)) 0]) 8 true))
      refine ⟨_, run_push _ _ _ _ (Nat.le_refl 8), by dsimp only; omega, by dsimp only; omega, _, hb1.own, ?_⟩
      refine ⟨n1 - (k + 1), ⟨[(0, sv (some ⟨bp, op_, none⟩) bs), (2, .pointer (some ⟨0, 0, some 0⟩)), (4, .pointer (some ⟨1, 0, some 0⟩)), (5, .slice (some ⟨bb2, of2, none⟩) 1 1), (7, .int .i64 ((pos + 13 : Nat) : Int)), (10, .int .i64 ((k + 1 : Nat) : Int))], [[.slice none 0 0, .slice none 0 0, .slice none 0 0, .int .i64 0], [sv o1 is, sv (some ⟨K3.next + 1, 0, none⟩) (ss ++ [stepOf bs pos (IntKind.i64.wrap (at_ bs pos)) 0]), .slice none 0 0, .int .i64 0]]⟩, by omega, ?_, k + 1, pos + 13, some ⟨K3.next + 1, 0, none⟩, _, by omega, rfl, rfl, ?_, ?_, by rw [List.length_append, hsl]; rfl, hnm.snoc (show canon 0 = 0 by decide) (show 0 < 18446744073709551616 by decide) (fun _ => rfl), by omega, ?_⟩
      · rw [← sv_app _ _ [stepOf bs pos (IntKind.i64.wrap (at_ bs pos)) 0] rfl]
        exact (by (refine ⟨?_, ?_⟩ <;> repeat' first | exact trivial | exact congrArg (fun x => some (Value.int .i64 x)) hp13 | exact congrArg (fun x => some (Value.int .i64 x)) hp13 | exact congrArg (fun x => some (Value.int .i64 x)) (wrap_nat (by omega)) | exact rfl | refine ⟨?_, ?_⟩ | fail))
      · exact (hb1.killO ((eK.trans e3).trans (Ext.push K3 _)) (Nat.le_refl _)).push' _
      · exact hb1.app rfl (by show K2.next ≤ K3.next + 1; have := (eK.trans e3).next; omega)
      · have := hgh.step hlt (f := 0) hop (fun s h1 h2 h3 h4 => (h4 (fun e => ho1 (h2.symm.trans e))).symm)
        rw [if_neg ho1] at this
        exact this

  · have hk : k = n1 := by simp at hge; omega
    subst hk
    refine ⟨CR K bs pos 1, l6counts_ec K p bs pos 1 (hr.mono EK) hb (by omega) (by omega) (by omega), ?_, fun v K hR => (cR_no hR).elim⟩
    rintro v K3 (⟨hlt3, hv, rfl⟩ | ⟨hle3, o3, hv, e3, b3⟩)
    · cases hv
      refine ⟨fun _ => ?_, fun h => by simp at h⟩
      exact ⟨o1, q, none, ⟨is, ss, [], 0⟩, .inl ⟨rfl, EK, fun c hc => by
        obtain ⟨g1, g2, g3, g4⟩ := hgh c hc
        have := posS_le hc (k := k) (by omega)
        omega⟩⟩
    cases hv
    refine ⟨fun h => by simp at h, fun _ => ?_⟩
    obtain ⟨n2, hn2, hn2l⟩ := cnt_nat hb pos
    rw [cnts_one, hn2] at b3
    obtain ⟨bb4, of4, rfl⟩ := rd_some b3.rd (by simp)
    have hgo0 : GhO bs is ss n2 0 (pos + 2) [] := fun c hc => by
      obtain ⟨g1, g2, g3, g4⟩ := hgh c hc
      subst g2
      have := hc.outsN
      rw [← g3] at this
      refine ⟨g1, by rw [g4, List.take_of_length_le (Nat.le_refl _)], by omega, by rw [posO_zero]; omega, rfl⟩
    have hp2 : IntKind.i64.wrap ((pos : Int) + 2) = ((pos + 2 : Nat) : Int) := hw pos 2 (by omega) (by omega)
    have E3 : Ext H K3 := EK.trans e3
    have bS := bK.mono e3
    refine loop_ind ctx (fun _ => true) (fun m E K' => ∃ (j pos2 : Nat) (r : Option Addr) (os : List Span), j ≤ n2 ∧ m = n2 - j ∧ E = ⟨[(0, sv p bs), (2, .pointer (some ⟨0, 0, some 0⟩)), (4, .pointer (some ⟨1, 0, some 0⟩)), (5, .slice (some ⟨bb4, of4, none⟩) 1 1), (7, .int .i64 pos2), (16, .int .i64 j)], [[.slice none 0 0, .slice none 0 0, .slice none 0 0, .int .i64 0], [sv o1 is, sv q ss, sv r os, .int .i64 0]]⟩ ∧ Ext K3 K' ∧ Buf dSpan K' K3.next r os ∧ os.length = j ∧ pos2 ≤ bs.length ∧ GhO bs is ss n2 j pos2 os)
      (E0 := ⟨[(0, sv p bs), (2, .pointer (some ⟨0, 0, some 0⟩)), (4, .pointer (some ⟨1, 0, some 0⟩)), (5, .slice (some ⟨bb4, of4, none⟩) 1 1), (7, .int .i64 ((pos + 2 : Nat) : Int)), (16, .int .i64 ((0 : Nat) : Int))], [[.slice none 0 0, .slice none 0 0, .slice none 0 0, .int .i64 0], [sv o1 is, sv q ss, .slice none 0 0, .int .i64 0]]⟩)
      ⟨0, pos + 2, none, [], Nat.zero_le _, rfl, rfl, Ext.refl _, .nil, rfl, by omega, hgo0⟩ (by (refine ⟨?_, ?_⟩ <;> repeat' first | exact trivial | exact congrArg (fun x => some (Value.int .i64 x)) hp2 | exact congrArg (fun x => some (Value.int .i64 x)) (wrap_nat (by omega)) | exact rfl | refine ⟨?_, ?_⟩ | fail)) ?_
    rintro m E K' ⟨j, pos2, r, os, hj, rfl, rfl, e4, b4, hol, hp2l, hgo⟩
    have E4 : Ext H K' := E3.trans e4
    refine ⟨⟨by omega, by omega⟩, _, cell_i (b3.rd.mono e4) (j := 0) rfl, fun hlt => ?_, fun hge2 => ?_⟩
    · have hlt : j < n2 := by simpa using hlt
      refine ⟨CR K' bs pos2 2, l6counts_ec K' p bs pos2 2 (hr.mono E4) hb (by omega) (by omega) (by omega), ?_, fun v K hR => (cR_no hR).elim⟩
      rintro v K5 (⟨hlt5, hv, rfl⟩ | ⟨hle5, o5, hv, e5, b5⟩)
      · cases hv
        refine ⟨fun _ => ?_, fun h => by simp at h⟩
        exact ⟨o1, q, r, ⟨is, ss, os, 0⟩, .inl ⟨rfl, E4, hgo.lt hlt (by omega)⟩⟩
      cases hv
      refine ⟨fun h => by simp at h, fun _ => ?_⟩
      obtain ⟨bb5, of5, rfl⟩ := rd_some b5.rd (by rw [cntsL_len]; omega)
      have r5 : Rd dInt K5 (some ⟨bb5, of5, none⟩) [cntAt bs pos2, cntAt bs (pos2 + 2)] := b5.rd
      have h5l : ((cntsL bs pos2 2).length : Int) = 2 := by rw [cntsL_len]; rfl
      have hb1 := (b4.mono e5).mono (Ext.push K5 (.cells (flat dSpan [⟨cntAt bs pos2, cntAt bs (pos2 + 2)⟩]) 2 true))
      refine ⟨.leaf [([0, 1, 2, 3, 4, 5, 6, 7, 8], some 9), ([], some 10), ([11], some 12), ([], none)] [0, 1], by kernel_rfl, ⟨by omega, by omega⟩, _, cell_i r5 (j := 0) rfl, ⟨by omega, by omega⟩, _, cell_i r5 (j := 1) rfl, _, run_push _ _ _ _ (Nat.le_refl 2), by dsimp only; omega, by dsimp only; omega, _, hb1.own, ?_⟩
      have hp4 : IntKind.i64.wrap ((pos2 : Int) + 4) = ((pos2 + 4 : Nat) : Int) := hw pos2 4 (by omega) (by omega)
      refine ⟨n2 - (j + 1), ⟨[(0, sv p bs), (2, .pointer (some ⟨0, 0, some 0⟩)), (4, .pointer (some ⟨1, 0, some 0⟩)), (5, .slice (some ⟨bb4, of4, none⟩) 1 1), (7, .int .i64 ((pos2 + 4 : Nat) : Int)), (16, .int .i64 ((j + 1 : Nat) : Int))], [[.slice none 0 0, .slice none 0 0, .slice none 0 0, .int .i64 0], [sv o1 is, sv q ss, sv (some ⟨K5.next + 1, 0, none⟩) (os ++ [⟨cntAt bs pos2, cntAt bs (pos2 + 2)⟩]), .int .i64 0]]⟩, by omega, ?_, j + 1, pos2 + 4, some ⟨K5.next + 1, 0, none⟩, _, by omega, rfl, rfl, ?_, ?_, by rw [List.length_append, hol]; rfl, by omega, hgo.step hlt⟩
      · rw [← sv_app _ _ ([⟨cntAt bs pos2, cntAt bs (pos2 + 2)⟩] : List Span) rfl]
        exact (by (refine ⟨?_, ?_⟩ <;> repeat' first | exact trivial | exact congrArg (fun x => some (Value.int .i64 x)) hp4 | exact congrArg (fun x => some (Value.int .i64 x)) (wrap_nat (by omega)) | exact rfl | refine ⟨?_, ?_⟩ | fail))
      · exact (hb1.killO ((e4.trans e5).trans (Ext.push K5 _)) (Nat.le_refl _)).push' _
      · exact hb1.app rfl (by show K3.next ≤ K5.next + 1; have := (e4.trans e5).next; omega)
    · have hj2 : j = n2 := by simp at hge2; omega
      subst hj2
      refine ⟨CR K' bs pos2 1, l6counts_ec K' p bs pos2 1 (hr.mono E4) hb (by omega) (by omega) (by omega), ?_, fun v K hR => (cR_no hR).elim⟩
      rintro v K6 (⟨hlt6, hv, rfl⟩ | ⟨hle6, o6, hv, e6, b6⟩)
      · cases hv
        refine ⟨fun h => by simp at h, fun _ => ?_⟩
        exact ⟨o1, q, r, ⟨is, ss, os, 0⟩, .inl ⟨rfl, E4, fun c hc => by
          obtain ⟨g1, g2, g3, g4, g5⟩ := hgo c hc
          have := hc.len
          rw [← g3, ← g4] at this
          omega⟩⟩
      cases hv
      refine ⟨fun _ => ?_, fun h => by simp at h⟩
      obtain ⟨bb6, of6, rfl⟩ := rd_some b6.rd (by simp)
      refine ⟨⟨by omega, by rw [cntsL_len]; omega⟩, _, cell_i b6.rd (j := 0) rfl, ?_⟩
      refine ⟨o1, q, r, ⟨is, ss, os, cntAt bs pos2⟩, .inr ⟨rfl, E4.trans e6, ?_, hnm, ⟨by dsimp only; omega, by dsimp only; omega, by dsimp only; omega⟩, fun c hc => ?_⟩⟩
      · refine OwnC.of (n1 := K2.next) (n2 := K3.next) ((((b1.mono e2).mono eK).mono e3).mono (e4.trans e6) |>.wide (by have := e0.next; omega)) (fun b o h => ?_) (bS.mono (e4.trans e6)) (fun b o h => (bS.lt h).2) (b4.mono e6) E2.next (eK.trans e3).next
        have := b1.lt h
        have := e2.next
        omega
      · obtain ⟨g1, g2, g3, g4, g5⟩ := hgo c hc
        have hpk := hc.peak_
        rw [← g3, ← g4] at hpk
        obtain ⟨c1, c2, c3, c4⟩ := c
        simp only at g1 g2 g3 g5 hpk
        rw [g1, g2, g5, hpk, g3, List.take_of_length_le (Nat.le_refl _)]
end Go.Proofs.Ythcnnificgbmhaa
