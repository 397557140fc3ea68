/- What the functions of the program on single floats answer. No condition but that a float's word has 64 bits. -/
import Derived.Test.YtajcbdamgaofcaaDoorRows
import Derived.Test.YtajcbdamgaofcaaDoorFlCore
import Derived.WalkKit
import Derived.WalkSpells
import Derived.WalkLawsBesides
import Derived.Laws.FloatArith
import Derived.Outline
set_option linter.unusedVariables false
set_option linter.unusedSimpArgs false
namespace Go.Proofs.YtajcbdamgaofcaaDoor
open Go.RowKit
open FlCore

/-- A fact that the walk's simp does not look into. -/
structure Aside (p : Prop) : Prop where mk :: (out : p)

theorem nan_ne (b : Nat) (hb : b < 18446744073709551616) : (FloatKind.f64.format.order b b != some .eq) = isNan b := by
  have h := order_self b hb
  show (Ieee.double.order b b != some .eq) = isNan b
  cases hn : isNan b
  · rw [h.2 hn]; rfl
  · rw [bne_iff_ne]; intro h2; rw [h.1 h2] at hn; cases hn

theorem eq0 (b : Nat) (hb : b < 18446744073709551616) : (FloatKind.f64.format.order b 0 == some .eq) = decide (b % 9223372036854775808 = 0) := order_zero_eq b hb

/-- Are two floats the same, all NaNs being one? -/
def feq (a b : Nat) : Bool := canon a == canon b

theorem canon_nan {a : Nat} (h : isNan a = true) : canon a = 9221120237041090560 := by unfold canon; rw [if_pos h]
theorem canon_num {a : Nat} (h : isNan a = false) : canon a = a := by unfold canon; rw [if_neg (by rw [h]; decide)]
theorem canon_isNan (a : Nat) : isNan (canon a) = isNan a := by
  cases h : isNan a
  · rw [canon_num h, h]
  · rw [canon_nan h]; decide

theorem feq_left {a b : Nat} (h : isNan a = true) : feq a b = isNan b := by
  unfold feq
  cases hb : isNan b
  · rw [canon_nan h, canon_num hb, beq_eq_false_iff_ne]
    intro e
    rw [← e] at hb
    revert hb; decide
  · rw [canon_nan h, canon_nan hb]; simp
theorem feq_comm (a b : Nat) : feq a b = feq b a := by unfold feq; exact Bool.beq_comm
theorem feq_num {a b : Nat} (ha : isNan a = false) (hb : isNan b = false) : feq a b = (a == b) := by
  unfold feq; rw [canon_num ha, canon_num hb]

/-- Equal by IEEE, of numbers that are not both zero: the same. -/
theorem eql_num {a b : Nat} (ha : a < 18446744073709551616) (hb : b < 18446744073709551616) (na : isNan a = false)
    (h : ¬ (a % 9223372036854775808 = 0 ∧ b % 9223372036854775808 = 0)) : (FloatKind.f64.format.order a b == some .eq) = (a == b) := by
  show (Ieee.double.order a b == some .eq) = (a == b)
  obtain ⟨s, r, hr, rfl⟩ := word_of a ha
  obtain ⟨t, q, hq, rfl⟩ := word_of b hb
  rw [isNan_word s r hr] at na
  rw [word_mod s r hr, word_mod t q hq] at h
  have hh := order_eq_iff s t r q hr hq
  rw [Bool.eq_iff_iff, beq_iff_eq, beq_iff_eq, hh]
  constructor
  · rintro ⟨_, rfl, h3⟩
    rcases h3 with rfl | h3
    · rfl
    · exact absurd ⟨h3, h3⟩ h
  · intro e
    have := word_inj hr hq e
    exact ⟨by simpa using na, this.2, .inl this.1⟩

theorem zero_or (a : Nat) (ha : a < 18446744073709551616) (h : a % 9223372036854775808 = 0) : ∃ s, a = Ieee.double.word s 0 := by
  obtain ⟨s, r, hr, rfl⟩ := word_of a ha
  rw [word_mod s r hr] at h
  exact ⟨s, by rw [h]⟩

theorem one_over (s : Bool) (wx : World) : (binOp .quo 23 (.float .f64 4607182418800017408) (.float .f64 (Ieee.double.word s 0))).run Tryd.prog wx = .ok (.float .f64 (Ieee.double.word s 9218868437227405312)) wx :=
  run_float_arith wx .quo 23 .f64 4607182418800017408 _ _ (one_over_zero s)

theorem isNan_lo (s : Bool) (r : Nat) (h : r ≤ 9218868437227405312) : isNan (Ieee.double.word s r) = false := by
  rw [isNan_word s r (by omega)]; simp; omega

/-- The law's own comparison. -/
theorem sameFloat_any (a b : Nat) (w : World) (ha : a < 18446744073709551616) (hb : b < 18446744073709551616) :
    Calls Tryd.prog 7 #[.float .f64 a, .float .f64 b] w fun e w' => e = .returned (.bool (feq a b)) ∧ w = w' := by
  have n1 := nan_ne a ha
  have n2 := nan_ne b hb
  have e1 := eq0 a ha
  have e2 := eq0 b hb
  cases ha0 : isNan a
  · cases hb0 : isNan b
    · rw [ha0] at n1
      rw [hb0] at n2
      by_cases hz : a % 9223372036854775808 = 0 ∧ b % 9223372036854775808 = 0
      · rw [decide_eq_true hz.1] at e1
        rw [decide_eq_true hz.2] at e2
        obtain ⟨s, rfl⟩ := zero_or a ha hz.1
        obtain ⟨t, rfl⟩ := zero_or b hb hz.2
        have o1 := one_over s
        have o2 := one_over t
        have g1 : (FloatKind.f64.format.order (Ieee.double.word s 9218868437227405312) 0 == some .gt) = !s := by
          show (Ieee.double.order _ 0 == some .gt) = !s
          rw [order_zero s _ (by omega) (by omega)]; cases s <;> rfl
        have g2 : (FloatKind.f64.format.order (Ieee.double.word t 9218868437227405312) 0 == some .gt) = !t := by
          show (Ieee.double.order _ 0 == some .gt) = !t
          rw [order_zero t _ (by omega) (by omega)]; cases t <;> rfl
        have HF : Aside (feq (Ieee.double.word s 0) (Ieee.double.word t 0) = ((!s) == (!t))) := ⟨by
          rw [feq_num (isNan_lo s 0 (by omega)) (isNan_lo t 0 (by omega))]
          cases s <;> cases t <;> decide⟩
        generalize Ieee.double.word s 0 = x at *
        generalize Ieee.double.word t 0 = y at *
        generalize Ieee.double.word s 9218868437227405312 = X at *
        generalize Ieee.double.word t 9218868437227405312 = Y at *
        clear ha hb ha0 hb0 hz
        go_enter Tryd.func7, Tryd.ntmps7
        go_wp2
        go_ret
        exact ⟨by simp [HF.out], rfl⟩
      · have e3 := eql_num ha hb ha0 hz
        rw [← feq_num ha0 hb0] at e3
        generalize feq a b = F at *
        by_cases hz1 : a % 9223372036854775808 = 0
        · rw [decide_eq_true hz1] at e1
          rw [decide_eq_false (fun h2 => hz ⟨hz1, h2⟩)] at e2
          clear ha hb ha0 hb0 hz hz1
          go_enter Tryd.func7, Tryd.ntmps7
          go_wp2
          go_ret
          exact ⟨by rfl, rfl⟩
        · rw [decide_eq_false hz1] at e1
          clear ha hb ha0 hb0 hz hz1 e2
          go_enter Tryd.func7, Tryd.ntmps7
          go_wp2
          go_ret
          exact ⟨by rfl, rfl⟩
    · rw [ha0] at n1
      rw [hb0] at n2
      have HF : Aside (feq a b = false) := ⟨by rw [feq_comm, feq_left hb0, ha0]⟩
      clear ha hb ha0 hb0 e1 e2
      go_enter Tryd.func7, Tryd.ntmps7
      go_wp2
      go_ret
      exact ⟨by rw [HF.out]; rfl, rfl⟩
  · rw [ha0] at n1
    have HF : Aside (feq a b = isNan b) := ⟨feq_left ha0⟩
    generalize isNan b = B at *
    clear ha hb ha0 e1 e2
    go_enter Tryd.func7, Tryd.ntmps7
    go_wp2
    go_ret
    exact ⟨by rw [HF.out]; rfl, rfl⟩

/-! ### the program's own -/
theorem feq_int (a b : Nat) : ((canon a : Int) == (canon b : Int)) = feq a b := by
  unfold feq; rw [Bool.eq_iff_iff, beq_iff_eq, beq_iff_eq]; omega

end Go.Proofs.YtajcbdamgaofcaaDoor
