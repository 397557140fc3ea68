/- Loading a code, the reference's side. Conditions: those of each. -/
import Derived.Test.YthcnnificgbmhaaLdp
set_option linter.unusedVariables false
set_option linter.unusedSimpArgs false
namespace Go.Proofs.Ythcnnificgbmhaa
open Go.Am
open FlCore (canon isNan)

theorem at_cell {H : Heap} {b o : Nat} {bs : List Int} (h : Rd dByte H (some ⟨b, o, none⟩) bs) {j : Nat} (hj : j < bs.length) {z : Int} (hz : z = j) : H.cell? b (o + z.toNat * 1) = some (.int .u8 (at_ bs j)) := by
  subst hz
  obtain ⟨b', o', h1, h2⟩ := h.cell (List.getElem?_eq_getElem hj)
  cases h1
  unfold at_
  rw [List.getElem?_eq_getElem hj]
  exact h2
theorem cntsL_succ (bs : List Int) (i k : Nat) : cntsL bs i (k + 1) = cntsL bs i k ++ [cntAt bs (i + 2 * k)] := by
  unfold cntsL
  rw [List.range_succ, List.map_append]; rfl
theorem cnt_wrap {bs : List Int} (hb : ByteL bs) (i : Nat) : IntKind.i64.wrap (IntKind.i64.wrap (at_ bs i) + IntKind.i64.wrap (256 * IntKind.i64.wrap (at_ bs (i + 1)))) = cntAt bs i := by
  have h1 := at_range hb i
  have h2 := at_range hb (i + 1)
  unfold cntAt
  rw [wrap_i64 (x := at_ bs i) (by omega) (by omega), wrap_i64 (x := at_ bs (i + 1)) (by omega) (by omega), wrap_i64 (x := 256 * _) (by omega) (by omega), wrap_i64 (by omega) (by omega)]
theorem rd_some {α : Type} {d : Enc α} {H : Heap} {p : Option Addr} {xs : List α} (h : Rd d H p xs) (hp : 0 < xs.length) : ∃ b o, p = some ⟨b, o, none⟩ := by
  obtain ⟨b, o, cs, rw_, h1, _⟩ := h.at_ hp
  exact ⟨b, o, h1⟩
/-- Counts that were read, or that there are none. -/
def CR (H : Heap) (bs : List Int) (i n : Nat) (r : AEnd) (K : Heap) : Prop :=
  (bs.length < i + 2 * n ∧ r = .ret (.tuple #[.slice none 0 0, .bool false]) ∧ K = H) ∨ (i + 2 * n ≤ bs.length ∧ ∃ o, r = .ret (.tuple #[sv o (cntsL bs i n), .bool true]) ∧ Ext H K ∧ Buf dInt K H.next o (cntsL bs i n))
theorem l6counts_ec (H : Heap) (p : Option Addr) (bs : List Int) (i n : Nat) (hr : Rd dByte H p bs) (hb : ByteL bs) (hl : bs.length ≤ 9000000000000000000) (hi : i ≤ 1000000000000000000) (hn : n ≤ 65535) :
    EC Try.prog 28 [sv p bs, .int .i64 i, .int .i64 n] H (CR H bs i n) := by
  refine EC_fn ctx (fun _ => true) Try.func28 rfl rfl rfl ?_
  have hw : IntKind.i64.wrap ((i : Int) + IntKind.i64.wrap (2 * (n : Int))) = ((i + 2 * n : Nat) : Int) := by
    rw [wrap_i64 (x := 2 * (n : Int)) (by omega) (by omega), wrap_i64 (by omega) (by omega)]; omega
  refine ⟨fun h => .inl ⟨?_, rfl, rfl⟩, fun h => ?_⟩
  · rw [hw] at h; simp at h; omega
  have hle : i + 2 * n ≤ bs.length := by rw [hw] at h; simp at h; omega
  refine loop_ind ctx (fun _ => true) (fun m E K => ∃ (k : Nat) (o : Option Addr), k ≤ n ∧ m = n - k ∧ E = ⟨[(0, sv p bs), (1, .int .i64 i), (2, .int .i64 n), (8, sv o (cntsL bs i k)), (9, .int .i64 k)], []⟩ ∧ Ext H K ∧ Buf dInt K H.next o (cntsL bs i k))
    (E0 := ⟨[(0, sv p bs), (1, .int .i64 i), (2, .int .i64 n), (8, .slice none 0 0), (9, .int .i64 ((0 : Nat) : Int))], []⟩) ⟨0, none, Nat.zero_le _, rfl, rfl, Ext.refl _, .nil⟩ (by (refine ⟨?_, ?_⟩ <;> repeat' first | exact trivial | exact congrArg (fun x => some (Value.int .i64 x)) (wrap_nat (by omega)) | exact sv_eq (by simp; done) | exact rfl | refine ⟨?_, ?_⟩ | fail)) ?_
  rintro m E K ⟨k, o, hk, rfl, rfl, he, hbf⟩
  refine ⟨fun hlt => ?_, fun hge => ?_⟩
  · have hlt : k < n := by simpa using hlt
    have hw1 : IntKind.i64.wrap ((i : Int) + IntKind.i64.wrap (2 * (k : Int))) = ((i + 2 * k : Nat) : Int) := by
      rw [wrap_i64 (x := 2 * (k : Int)) (by omega) (by omega), wrap_i64 (by omega) (by omega)]; omega
    have hw2 : IntKind.i64.wrap (((i + 2 * k : Nat) : Int) + 1) = ((i + 2 * k + 1 : Nat) : Int) := by
      rw [wrap_i64 (by omega) (by omega)]; omega
    have hr' := hr.mono he
    obtain ⟨b, f, rfl⟩ := rd_some hr' (by omega)
    refine ⟨.leaf [([0, 1, 2, 3, 4, 5, 6, 7, 8, 9, 10, 11, 12, 13, 14, 15, 16, 17, 18, 19], some 20), ([], some 21), ([22], none)] [0], by kernel_rfl, ⟨by rw [hw1]; omega, by rw [hw1]; omega⟩, _, at_cell hr' (j := i + 2 * k) (by omega) hw1, ⟨by rw [hw1, hw2]; omega, by rw [hw1, hw2]; omega⟩, _, at_cell hr' (j := i + 2 * k + 1) (by omega) (by rw [hw1, hw2]), ?_⟩
    have hb1 := hbf.mono (Ext.push K (.cells [.int .i64 (IntKind.i64.wrap (IntKind.i64.wrap (at_ bs (i + 2 * k)) + IntKind.i64.wrap (256 * IntKind.i64.wrap (at_ bs (i + 2 * k + 1)))))] 1 true))
    refine ⟨_, run_push _ _ _ _ (by simp), by simp only [cntsL_len]; omega, by simp only [cntsL_len]; omega, _, hb1.own, ?_⟩
    refine ⟨n - (k + 1), ⟨[(0, sv (some ⟨b, f, none⟩) bs), (1, .int .i64 i), (2, .int .i64 n), (8, sv (some ⟨K.next + 1, 0, none⟩) (cntsL bs i (k + 1))), (9, .int .i64 ((k + 1 : Nat) : Int))], []⟩, by omega, ?_, k + 1, some ⟨K.next + 1, 0, none⟩, by omega, rfl, rfl, ?_, ?_⟩
    · rw [cntsL_succ, ← sv_app _ _ [cntAt bs (i + 2 * k)] rfl]
      (refine ⟨?_, ?_⟩ <;> repeat' first | exact trivial | exact congrArg (fun x => some (Value.int .i64 x)) (wrap_nat (by omega)) | exact sv_eq (by simp; done) | exact rfl | refine ⟨?_, ?_⟩ | fail)
    · exact (hb1.killO ((he.trans (Ext.push K _))) (Nat.le_refl _)).push' _
    · rw [cntsL_succ, ← cnt_wrap hb]
      exact hb1.app rfl (by show H.next ≤ K.next + 1; have := he.next; omega)
  · have hk : k = n := by simp at hge; omega
    subst hk
    exact .inr ⟨hle, o, rfl, he, hbf⟩
end Go.Proofs.Ythcnnificgbmhaa
