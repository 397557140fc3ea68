/- ReadNumber as plain functions of the text's bytes. No condition but those stated. -/
import Derived.Test.YtajcbdamgaofcaaDoorRnc
set_option linter.unusedVariables false
set_option linter.unusedSimpArgs false
namespace Go.Proofs.YtajcbdamgaofcaaDoor
open Go.Am
open Go.Lib (indexByte indexByte_some indexByte_none indexByte_ge)

/-- Where the point is; the length where there is none. -/
def ptP (s : List UInt8) : Nat := if 0 ≤ indexByte s 46 then (indexByte s 46).toNat else s.length
theorem ptP_le (s : List UInt8) : ptP s ≤ s.length := by
  unfold ptP; split
  · rename_i h; exact Nat.le_of_lt (indexByte_lt h)
  · exact Nat.le_refl _
theorem ptP_at {s : List UInt8} (h : ptP s < s.length) : s[ptP s]? = some 46 := by
  unfold ptP at h ⊢
  split at h
  · rename_i h0
    rw [if_pos h0]
    exact (indexByte_some (o := (indexByte s 46).toNat) (by omega)).1
  · exact absurd h (Nat.lt_irrefl _)
theorem ptP_before {s : List UInt8} {j : Nat} (h : j < ptP s) : s[j]? ≠ some 46 := by
  unfold ptP at h
  split at h
  · exact (indexByte_some (o := (indexByte s 46).toNat) (by omega)).2 j h
  · have := indexByte_ge s 46
    exact indexByte_none (by omega) j
theorem ptP_eq {s : List UInt8} {k : Nat} (h : s[k]? = some 46) (h' : ∀ j, j < k → s[j]? ≠ some 46) : ptP s = k := by
  have hk := (List.getElem?_eq_some_iff.1 h).1
  rcases Nat.lt_trichotomy (ptP s) k with hl | hl | hl
  · exact absurd (ptP_at (Nat.lt_trans hl hk)) (h' _ hl)
  · exact hl
  · exact absurd h (ptP_before hl)
theorem cutB_eq (s : List UInt8) : cutB s 46 = (s.take (ptP s), s.drop (ptP s + 1), decide (ptP s < s.length)) := by
  unfold cutB ptP
  split
  · rename_i h; rw [decide_eq_true (indexByte_lt h)]
  · simp
/-- The text is a number's. -/
def goodP (s : List UInt8) : Bool := digs (s.take (ptP s)) && (!decide (ptP s < s.length) || digs (s.drop (ptP s + 1)))
theorem digs_iff (s : List UInt8) : digs s = true ↔ s ≠ [] ∧ ∀ c ∈ s, isD c = true := by
  unfold digs
  rw [Bool.and_eq_true, List.all_eq_true]
  cases s <;> simp
theorem goodP_iff (s : List UInt8) : goodP s = true ↔ s ≠ [] ∧ ptP s ≠ 0 ∧ ptP s + 1 ≠ s.length ∧ ∀ j c, s[j]? = some c → j ≠ ptP s → isD c = true := by
  unfold goodP
  rw [Bool.and_eq_true, Bool.or_eq_true, digs_iff, digs_iff]
  have hle := ptP_le s
  constructor
  · rintro ⟨⟨h1, h2⟩, h3⟩
    have h0 : ptP s ≠ 0 := fun e => by rw [e] at h1; exact h1 rfl
    refine ⟨fun e => ?_, h0, fun e => ?_, fun j c hj hne => ?_⟩
    · subst e; simp at h1
    · rcases h3 with h3 | h3
      · simp at h3; omega
      · exact h3.1 (by rw [e]; simp)
    · rcases Nat.lt_or_gt_of_ne hne with hl | hl
      · exact h2 c (List.mem_of_getElem? (i := j) (by rw [List.getElem?_take, if_pos hl]; exact hj))
      · have hj' := (List.getElem?_eq_some_iff.1 hj).1
        rcases h3 with h3 | h3
        · simp at h3; omega
        · exact h3.2 c (List.mem_of_getElem? (i := j - (ptP s + 1)) (by rw [List.getElem?_drop, show ptP s + 1 + (j - (ptP s + 1)) = j by omega]; exact hj))
  · rintro ⟨h0, h1, h2, h3⟩
    have hpos : 0 < s.length := by cases s with
      | nil => exact absurd rfl h0
      | cons => simp
    refine ⟨⟨fun e => ?_, fun c hc => ?_⟩, ?_⟩
    · have := congrArg List.length e
      simp at this
      rcases this with h | h
      · exact h1 h
      · subst h; simp at hpos
    · obtain ⟨j, hj⟩ := List.getElem?_of_mem hc
      rw [List.getElem?_take] at hj
      split at hj
      · exact h3 j c hj (by omega)
      · cases hj
    · by_cases hp : ptP s < s.length
      · refine .inr ⟨fun e => ?_, fun c hc => ?_⟩
        · have := congrArg List.length e
          simp at this; omega
        · obtain ⟨j, hj⟩ := List.getElem?_of_mem hc
          rw [List.getElem?_drop] at hj
          exact h3 _ c hj (by omega)
      · exact .inl (by simp; omega)
/-- Without the point. -/
def remP (s : List UInt8) (k : Nat) : List UInt8 := (s.take k).take (ptP s) ++ (s.take k).drop (ptP s + 1)
def quoV (n d : Nat) : Value := .float .f64 (fop .quo (FloatKind.f64.nearest (n : Int)) (FloatKind.f64.nearest (d : Int)))
def rnV (s : List UInt8) : Value :=
  if goodP s then (if 15 < (remP s s.length).length then .tuple #[.float .f64 0, .int .i64 5] else .tuple #[quoV (valD 0 (remP s s.length)) (10 ^ (s.length - (ptP s + 1))), .int .i64 0])
  else .tuple #[.float .f64 0, .int .i64 2]
theorem remP_zero (s : List UInt8) : remP s 0 = [] := by simp [remP]
theorem remP_pt {s : List UInt8} : remP s (ptP s + 1) = remP s (ptP s) := by
  unfold remP
  rw [List.take_take, List.take_take]
  rw [List.drop_eq_nil_iff.2 (by simp; omega), List.drop_eq_nil_iff.2 (by simp; omega)]
  congr 2; omega
theorem remP_succ {s : List UInt8} {k : Nat} {c : UInt8} (hc : s[k]? = some c) (hne : k ≠ ptP s) : remP s (k + 1) = remP s k ++ [c] := by
  have hk := (List.getElem?_eq_some_iff.1 hc).1
  have hl0 : (s.take k).length = k := by simp; omega
  have ht : s.take (k + 1) = s.take k ++ [c] := by rw [List.take_add_one, hc]; rfl
  unfold remP
  rw [ht]
  generalize s.take k = t at *
  rcases Nat.lt_or_gt_of_ne hne with hl | hl
  · rw [List.take_of_length_le (l := t ++ [c]) (by simp; omega), List.take_of_length_le (l := t) (by omega), List.drop_eq_nil_iff.2 (by simp; omega), List.drop_eq_nil_iff.2 (by omega)]
    simp
  · rw [List.take_append_of_le_length (by omega), List.drop_append_of_le_length (by omega), List.append_assoc]
theorem remP_all (s : List UInt8) : remP s s.length = s.take (ptP s) ++ s.drop (ptP s + 1) := by
  unfold remP; rw [List.take_length]
theorem remP_len (s : List UInt8) : (remP s s.length).length = (s.take (ptP s)).length + (s.drop (ptP s + 1)).length := by
  rw [remP_all, List.length_append]
theorem remP_isD {s : List UInt8} (h : goodP s = true) : ∀ k, ∀ c ∈ remP s k, isD c = true := by
  intro k c hc
  obtain ⟨_, _, _, h3⟩ := (goodP_iff s).1 h
  unfold remP at hc
  rcases List.mem_append.1 hc with hc | hc
  · obtain ⟨j, hj⟩ := List.getElem?_of_mem hc
    rw [List.getElem?_take] at hj
    split at hj
    · rw [List.getElem?_take] at hj
      split at hj
      · exact h3 j c hj (by omega)
      · cases hj
    · cases hj
  · obtain ⟨j, hj⟩ := List.getElem?_of_mem hc
    rw [List.getElem?_drop, List.getElem?_take] at hj
    split at hj
    · exact h3 _ c hj (by omega)
    · cases hj
theorem remP_len_le (s : List UInt8) (k : Nat) (hk : k ≤ s.length) : (remP s k).length ≤ (remP s s.length).length := by
  unfold remP; simp; omega
end Go.Proofs.YtajcbdamgaofcaaDoor
