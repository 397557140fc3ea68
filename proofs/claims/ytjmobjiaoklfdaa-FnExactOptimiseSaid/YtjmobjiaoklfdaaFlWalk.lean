/- What the functions of the program on single floats answer. No condition but that a float's word has 64 bits. -/
import Derived.Test.YtjmobjiaoklfdaaRows
import Derived.Test.YtjmobjiaoklfdaaFlCore
import Derived.WalkKit
import Derived.WalkSpells
import Derived.WalkLawsBesides
import Derived.Laws.FloatArith
import Derived.Outline
set_option linter.unusedVariables false
set_option linter.unusedSimpArgs false
namespace Go.Proofs.Ytjmobjiaoklfdaa
open Go.RowKit
open FlCore

/-- A fact that the walk's simp does not look into. -/
structure Aside (p : Prop) : Prop where mk :: (out : p)

theorem nan_ne (b : Nat) (hb : b < 18446744073709551616) : (FloatKind.f64.format.order b b != some .eq) = isNan b := by
  have h := order_self b hb
  show (Ieee.double.order b b != some .eq) = isNan b
  cases hn : isNan b
  · rw [h.2 hn]; rfl
  · rw [bne_iff_ne]; intro h2; rw [h.1 h2] at hn; cases hn

theorem l1nan_any (b : Nat) (w : World) (hb : b < 18446744073709551616) :
    Calls Try.prog 89 #[.float .f64 b] w fun e w' => e = .returned (.bool (isNan b)) ∧ w = w' := by
  have h1 := nan_ne b hb
  clear hb
  go_enter Try.func89, Try.ntmps89
  go_wp2
  go_ret
  exact ⟨rfl, rfl⟩

theorem eq0 (b : Nat) (hb : b < 18446744073709551616) : (FloatKind.f64.format.order b 0 == some .eq) = decide (b % 9223372036854775808 = 0) := order_zero_eq b hb

/-- The sign of a number. -/
theorem l1minus_any (s : Bool) (r : Nat) (w : World) (hr : r ≤ 9218868437227405312) :
    Calls Try.prog 90 #[.float .f64 (Ieee.double.word s r)] w fun e w' => e = .returned (.bool s) ∧ w = w' := by
  have hb := word_lt' s r (by omega)
  by_cases h0 : r = 0
  · have h1 : (FloatKind.f64.format.order (Ieee.double.word s r) 0 == some .eq) = true := by
      rw [eq0 _ hb, word_mod s r (by omega)]; exact decide_eq_true h0
    have h2 : floatBits .quo .f64 4607182418800017408 (Ieee.double.word s r) = some (Ieee.double.word s 9218868437227405312) := by
      rw [h0]; exact one_over_zero s
    have h3 : (FloatKind.f64.format.order (Ieee.double.word s 9218868437227405312) 0 == some .lt) = s := by
      show (Ieee.double.order _ 0 == some .lt) = s
      rw [order_zero s _ (by omega) (by omega)]; cases s <;> rfl
    generalize Ieee.double.word s r = x at *
    generalize Ieee.double.word s 9218868437227405312 = y at *
    have H := Aside.mk h3
    clear h0 hr hb h3
    have h2' := fun wx : World => run_float_arith (P := Try.prog) wx .quo 51 .f64 4607182418800017408 x y h2
    clear h2
    go_enter Try.func90, Try.ntmps90
    go_wp2
    go_ret
    exact ⟨by rw [H.out]; rfl, rfl⟩
  · have h1 : (FloatKind.f64.format.order (Ieee.double.word s r) 0 == some .eq) = false := by
      rw [eq0 _ hb, word_mod s r (by omega)]; exact decide_eq_false h0
    have h3 : (FloatKind.f64.format.order (Ieee.double.word s r) 0 == some .lt) = s := by
      show (Ieee.double.order _ 0 == some .lt) = s
      rw [order_zero s r hr h0]; cases s <;> rfl
    generalize Ieee.double.word s r = x at *
    have H := Aside.mk h3
    clear h0 hr hb h3
    go_enter Try.func90, Try.ntmps90
    go_wp2
    go_ret
    exact ⟨by rw [H.out]; rfl, rfl⟩

/-- Are two floats the same, all NaNs being one? -/
def feq (a b : Nat) : Bool := canon a == canon b

theorem canon_nan {a : Nat} (h : isNan a = true) : canon a = 9221120237041090560 := by unfold canon; rw [if_pos h]
theorem canon_num {a : Nat} (h : isNan a = false) : canon a = a := by unfold canon; rw [if_neg (by rw [h]; decide)]
theorem canon_isNan (a : Nat) : isNan (canon a) = isNan a := by
  cases h : isNan a
  · rw [canon_num h, h]
  · rw [canon_nan h]; decide

theorem feq_left {a b : Nat} (h : isNan a = true) : feq a b = isNan b := by
  unfold feq
  cases hb : isNan b
  · rw [canon_nan h, canon_num hb, beq_eq_false_iff_ne]
    intro e
    rw [← e] at hb
    revert hb; decide
  · rw [canon_nan h, canon_nan hb]; simp
theorem feq_comm (a b : Nat) : feq a b = feq b a := by unfold feq; exact Bool.beq_comm
theorem feq_num {a b : Nat} (ha : isNan a = false) (hb : isNan b = false) : feq a b = (a == b) := by
  unfold feq; rw [canon_num ha, canon_num hb]

/-- Equal by IEEE, of numbers that are not both zero: the same. -/
theorem eql_num {a b : Nat} (ha : a < 18446744073709551616) (hb : b < 18446744073709551616) (na : isNan a = false)
    (h : ¬ (a % 9223372036854775808 = 0 ∧ b % 9223372036854775808 = 0)) : (FloatKind.f64.format.order a b == some .eq) = (a == b) := by
  show (Ieee.double.order a b == some .eq) = (a == b)
  obtain ⟨s, r, hr, rfl⟩ := word_of a ha
  obtain ⟨t, q, hq, rfl⟩ := word_of b hb
  rw [isNan_word s r hr] at na
  rw [word_mod s r hr, word_mod t q hq] at h
  have hh := order_eq_iff s t r q hr hq
  rw [Bool.eq_iff_iff, beq_iff_eq, beq_iff_eq, hh]
  constructor
  · rintro ⟨_, rfl, h3⟩
    rcases h3 with rfl | h3
    · rfl
    · exact absurd ⟨h3, h3⟩ h
  · intro e
    have := word_inj hr hq e
    exact ⟨by simpa using na, this.2, .inl this.1⟩

theorem zero_or (a : Nat) (ha : a < 18446744073709551616) (h : a % 9223372036854775808 = 0) : ∃ s, a = Ieee.double.word s 0 := by
  obtain ⟨s, r, hr, rfl⟩ := word_of a ha
  rw [word_mod s r hr] at h
  exact ⟨s, by rw [h]⟩

theorem one_over (s : Bool) (wx : World) : (binOp .quo 51 (.float .f64 4607182418800017408) (.float .f64 (Ieee.double.word s 0))).run Try.prog wx = .ok (.float .f64 (Ieee.double.word s 9218868437227405312)) wx :=
  run_float_arith wx .quo 51 .f64 4607182418800017408 _ _ (one_over_zero s)

theorem isNan_lo (s : Bool) (r : Nat) (h : r ≤ 9218868437227405312) : isNan (Ieee.double.word s r) = false := by
  rw [isNan_word s r (by omega)]; simp; omega

/-- The law's own comparison. -/
theorem sameFloat_any (a b : Nat) (w : World) (ha : a < 18446744073709551616) (hb : b < 18446744073709551616) :
    Calls Try.prog 56 #[.float .f64 a, .float .f64 b] w fun e w' => e = .returned (.bool (feq a b)) ∧ w = w' := by
  have n1 := nan_ne a ha
  have n2 := nan_ne b hb
  have e1 := eq0 a ha
  have e2 := eq0 b hb
  cases ha0 : isNan a
  · cases hb0 : isNan b
    · rw [ha0] at n1
      rw [hb0] at n2
      by_cases hz : a % 9223372036854775808 = 0 ∧ b % 9223372036854775808 = 0
      · rw [decide_eq_true hz.1] at e1
        rw [decide_eq_true hz.2] at e2
        obtain ⟨s, rfl⟩ := zero_or a ha hz.1
        obtain ⟨t, rfl⟩ := zero_or b hb hz.2
        have o1 := one_over s
        have o2 := one_over t
        have g1 : (FloatKind.f64.format.order (Ieee.double.word s 9218868437227405312) 0 == some .gt) = !s := by
          show (Ieee.double.order _ 0 == some .gt) = !s
          rw [order_zero s _ (by omega) (by omega)]; cases s <;> rfl
        have g2 : (FloatKind.f64.format.order (Ieee.double.word t 9218868437227405312) 0 == some .gt) = !t := by
          show (Ieee.double.order _ 0 == some .gt) = !t
          rw [order_zero t _ (by omega) (by omega)]; cases t <;> rfl
        have HF : Aside (feq (Ieee.double.word s 0) (Ieee.double.word t 0) = ((!s) == (!t))) := ⟨by
          rw [feq_num (isNan_lo s 0 (by omega)) (isNan_lo t 0 (by omega))]
          cases s <;> cases t <;> decide⟩
        generalize Ieee.double.word s 0 = x at *
        generalize Ieee.double.word t 0 = y at *
        generalize Ieee.double.word s 9218868437227405312 = X at *
        generalize Ieee.double.word t 9218868437227405312 = Y at *
        clear ha hb ha0 hb0 hz
        go_enter Try.func56, Try.ntmps56
        go_wp2
        go_ret
        exact ⟨by simp [HF.out], rfl⟩
      · have e3 := eql_num ha hb ha0 hz
        rw [← feq_num ha0 hb0] at e3
        generalize feq a b = F at *
        by_cases hz1 : a % 9223372036854775808 = 0
        · rw [decide_eq_true hz1] at e1
          rw [decide_eq_false (fun h2 => hz ⟨hz1, h2⟩)] at e2
          clear ha hb ha0 hb0 hz hz1
          go_enter Try.func56, Try.ntmps56
          go_wp2
          go_ret
          exact ⟨by rfl, rfl⟩
        · rw [decide_eq_false hz1] at e1
          clear ha hb ha0 hb0 hz hz1 e2
          go_enter Try.func56, Try.ntmps56
          go_wp2
          go_ret
          exact ⟨by rfl, rfl⟩
    · rw [ha0] at n1
      rw [hb0] at n2
      have HF : Aside (feq a b = false) := ⟨by rw [feq_comm, feq_left hb0, ha0]⟩
      clear ha hb ha0 hb0 e1 e2
      go_enter Try.func56, Try.ntmps56
      go_wp2
      go_ret
      exact ⟨by rw [HF.out]; rfl, rfl⟩
  · rw [ha0] at n1
    have HF : Aside (feq a b = isNan b) := ⟨feq_left ha0⟩
    generalize isNan b = B at *
    clear ha hb ha0 e1 e2
    go_enter Try.func56, Try.ntmps56
    go_wp2
    go_ret
    exact ⟨by rw [HF.out]; rfl, rfl⟩

/-! ### the program's own -/
theorem f64bits (b : Nat) (wx : World) : (callFunc 80 #[.float .f64 b]).run Try.prog wx = .ok (.value (.int .u64 b)) wx := by kernel_rfl
theorem f64from (n : Int) (wx : World) : (callFunc 87 #[.int .u64 n]).run Try.prog wx = .ok (.value (.float .f64 n.toNat)) wx := by kernel_rfl

theorem iFloatBits_any (b : Nat) (w : World) (hb : b < 18446744073709551616) :
    Calls Try.prog 68 #[.float .f64 b] w fun e w' => e = .returned (.int .u64 (canon b)) ∧ w = w' := by
  have n1 := nan_ne b hb
  have k := f64bits
  cases h : isNan b
  · rw [h] at n1
    have HC := Aside.mk (canon_num h)
    clear h hb
    go_enter Try.func68, Try.ntmps68
    go_wp2
    go_ret
    exact ⟨by rw [HC.out]; rfl, rfl⟩
  · rw [h] at n1
    have HC := Aside.mk (canon_nan h)
    clear h hb
    go_enter Try.func68, Try.ntmps68
    go_wp2
    go_ret
    exact ⟨by rw [HC.out]; rfl, rfl⟩

theorem feq_int (a b : Nat) : ((canon a : Int) == (canon b : Int)) = feq a b := by
  unfold feq; rw [Bool.eq_iff_iff, beq_iff_eq, beq_iff_eq]; omega

theorem iFloatFrom_any (n : Int) (w : World) (_h : 0 ≤ n) :
    Calls Try.prog 73 #[.int .u64 n] w fun e w' => e = .returned (.float .f64 n.toNat) ∧ w = w' := by
  have k := f64from
  go_enter Try.func73, Try.ntmps73
  go_wp2
  go_ret
  exact ⟨rfl, rfl⟩

end Go.Proofs.Ytjmobjiaoklfdaa
