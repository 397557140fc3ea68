/- Bytes: the laws' comparison of slices of them. Condition: lists of fewer than 2^63 elements. -/
import Derived.Test.YtajcbdamgaofcaaDoorDat
set_option linter.unusedVariables false
set_option linter.unusedSimpArgs false
namespace Go.Proofs.YtajcbdamgaofcaaDoor
open Go.Am

theorem eqByteS_pc (H : Heap) (a b : Option Addr) (xs ys : List Int) (h : Rd dByte H a xs) (h' : Rd dByte H b ys) (hl : xs.length < 9223372036854775807) :
    PC Tryd.prog 8 [sv a xs, sv b ys] H (.bool (decide (xs = ys))) := by
  refine EC_fn ctx (fun _ => true) Tryd.func8 rfl rfl rfl ?_
  refine ⟨fun hne => pbool ?_, fun heq => ?_⟩
  · have : xs ≠ ys := fun e => by subst e; simp at hne
    simp [this]
  · have hlen : xs.length = ys.length := by simp at heq; omega
    refine loop_ind ctx (fun _ => true) (fun m E K => ∃ k, k ≤ xs.length ∧ m = xs.length - k ∧ E = ⟨[(0, sv a xs), (1, sv b ys), (5, .int .i64 k)], []⟩ ∧ K = H ∧ xs.take k = ys.take k)
      ⟨0, Nat.zero_le _, rfl, rfl, rfl, by simp⟩ ⟨⟨rfl, trivial, rfl, trivial, rfl, trivial, trivial⟩, trivial⟩ ?_
    rintro m E K ⟨k, hk, rfl, rfl, rfl, ht⟩
    refine ⟨fun hlt => ?_, fun hge => ?_⟩
    · have hlt : k < xs.length := by simpa using hlt
      obtain ⟨p, o, rfl, hc⟩ := h.cell (List.getElem?_eq_getElem hlt)
      obtain ⟨p', o', rfl, hc'⟩ := h'.cell (List.getElem?_eq_getElem (show k < ys.length by omega))
      refine ⟨.leaf [([0, 1, 2, 3, 4, 5, 6, 7, 8], none)] [], by kernel_rfl, ⟨by omega, by omega⟩, _, hc, ⟨by omega, by omega⟩, _, hc', fun hne => pbool ?_, fun heq => ?_⟩
      · have : xs ≠ ys := fun e => by subst e; simp at hne
        simp [this]
      · refine ⟨xs.length - (k + 1), ⟨[(0, sv (some ⟨p, o, none⟩) xs), (1, sv (some ⟨p', o', none⟩) ys), (5, .int .i64 ((k + 1 : Nat) : Int))], []⟩, by omega, ⟨⟨rfl, trivial, rfl, trivial, congrArg (fun x => some (Value.int .i64 x)) (wrap_nat (by omega)), trivial, trivial⟩, trivial⟩, k + 1, by omega, rfl, rfl, rfl, ?_⟩
        rw [List.take_succ_eq_append_getElem hlt, List.take_succ_eq_append_getElem (show k < ys.length by omega), ht]
        simp at heq
        rw [heq]
    · refine pbool ?_
      have hk : k = xs.length := by simp at hge; omega
      subst hk
      rw [List.take_of_length_le (Nat.le_refl _), List.take_of_length_le (by omega)] at ht
      simp [ht]
theorem toByteS_ec (H : Heap) (a : Option Addr) (xs : List Int) (h : Rd dByte H a xs) (hl : xs.length ≤ 1048576) :
    EC Tryd.prog 5 [sv a xs] H fun r H' => r = .ret (sv (some ⟨H.next, 0, none⟩) xs) ∧ H' = H.push (.cells (flat dByte xs) dByte.sz true) := by
  refine EC_fn ctx (fun _ => true) Tryd.func5 rfl rfl rfl ?_
  refine ⟨⟨by omega, by omega, by omega, by dsimp only; omega⟩, ?_⟩
  refine loop_ind ctx (fun _ => true) (fun m E K => ∃ k, k ≤ xs.length ∧ m = xs.length - k ∧ E = ⟨[(0, sv a xs), (3, sv (some ⟨H.next, 0, none⟩) xs), (4, .int .i64 k)], []⟩ ∧ K = H.push (.cells (flat dByte (xs.take k ++ List.replicate (xs.length - k) 0)) dByte.sz true))
    ⟨0, Nat.zero_le _, rfl, rfl, ?_⟩ ⟨⟨rfl, trivial, rfl, trivial, rfl, trivial, trivial⟩, trivial⟩ ?_
  · congr 2; exact flat_rep dByte 0 [.int .u8 0] rfl xs.length
  · rintro m E K ⟨k, hk, rfl, rfl, hK⟩
    have h : Rd dByte K a xs := by subst hK; exact h.mono (Ext.push _ _)
    refine ⟨fun hlt => ?_, fun hge => ?_⟩
    · have hlt : k < xs.length := by simpa using hlt
      have hlt' : k < (xs.take k ++ List.replicate (xs.length - k) 0).length := by simp; omega
      obtain ⟨b, off, rfl, hc⟩ := h.cell (List.getElem?_eq_getElem hlt)
      subst hK
      refine ⟨⟨by omega, by omega⟩, _, hc, ⟨by omega, by omega⟩, stOK_elem dByte H _ hlt' (Nat.zero_add _) rfl, ?_⟩
      refine ⟨xs.length - (k + 1), ⟨[(0, sv (some ⟨b, off, none⟩) xs), (3, sv (some ⟨H.next, 0, none⟩) xs), (4, .int .i64 ((k + 1 : Nat) : Int))], []⟩, by omega, ⟨⟨rfl, trivial, rfl, trivial, congrArg (fun x => some (Value.int .i64 x)) (wrap_nat (by omega)), trivial, trivial⟩, trivial⟩, k + 1, by omega, rfl, rfl, ?_⟩
      refine (stor_elem dByte H _ xs[k] hlt' (Nat.zero_add _) rfl).trans ?_
      rw [take_set xs 0 hlt]
    · have hge : k = xs.length := by simp at hge; omega
      subst hge
      exact ⟨rfl, by simp [hK]⟩
end Go.Proofs.YtajcbdamgaofcaaDoor
