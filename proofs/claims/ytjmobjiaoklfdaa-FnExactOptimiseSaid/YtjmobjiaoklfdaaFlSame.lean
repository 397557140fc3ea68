/- SameFloat, both sides. Condition: the words are below 2^64. -/
import Derived.Test.YtjmobjiaoklfdaaFlWalk
set_option linter.unusedVariables false
set_option linter.unusedSimpArgs false
namespace Go.Proofs.Ytjmobjiaoklfdaa
open Go.RowKit
open FlCore

theorem iSameFloat_any (a b : Nat) (w : World) (ha : a < 18446744073709551616) (hb : b < 18446744073709551616) :
    Calls Try.prog 71 #[.float .f64 a, .float .f64 b] w fun e w' => e = .returned (.bool (feq a b)) ∧ w = w' := by
  have HE := Aside.mk (feq_int a b)
  go_enter Try.func71, Try.ntmps71
  go_wp2_with fail
  refine (iFloatBits_any a _ ha).mono ?_
  rintro e w' ⟨rfl, rfl⟩
  go_wp2_with fail
  refine (iFloatBits_any b _ hb).mono ?_
  rintro e w' ⟨rfl, rfl⟩
  go_wp2
  go_ret
  exact ⟨by rw [← HE.out]; rfl, rfl⟩

theorem sSameFloat_any (a b : Nat) (w : World) (ha : a < 18446744073709551616) (hb : b < 18446744073709551616) :
    Calls Try.prog 78 #[.float .f64 a, .float .f64 b] w fun e w' => e = .returned (.bool (feq a b)) ∧ w = w' := by
  cases ha0 : isNan a
  · cases hb0 : isNan b
    · obtain ⟨s, r, hr, rfl⟩ := word_of a ha
      obtain ⟨t, q, hq, rfl⟩ := word_of b hb
      have hr2 : r ≤ 9218868437227405312 := by rw [isNan_word s r hr] at ha0; simpa using ha0
      have hq2 : q ≤ 9218868437227405312 := by rw [isNan_word t q hq] at hb0; simpa using hb0
      have HN1 := Aside.mk ha0
      have HN2 := Aside.mk hb0
      by_cases hz : Ieee.double.word s r % 9223372036854775808 = 0 ∧ Ieee.double.word t q % 9223372036854775808 = 0
      · have e3 : (FloatKind.f64.format.order (Ieee.double.word s r) (Ieee.double.word t q) == some .eq) = true := by
          rw [word_mod s r hr, word_mod t q hq] at hz
          rw [beq_iff_eq]
          exact (order_eq_iff s t r q hr hq).2 ⟨hr2, by omega, .inr hz.1⟩
        have HF : Aside (feq (Ieee.double.word s r) (Ieee.double.word t q) = (s == t)) := ⟨by
          rw [feq_num ha0 hb0]
          rw [word_mod s r hr, word_mod t q hq] at hz
          obtain ⟨rfl, rfl⟩ := hz
          cases s <;> cases t <;> decide⟩
        clear ha0 hb0 hz
        go_enter Try.func78, Try.ntmps78
        go_wp2_with fail
        refine (l1nan_any _ _ ha).mono ?_
        rintro e w' ⟨rfl, rfl⟩
        rw [HN1.out]
        go_wp2_with fail
        refine (l1nan_any _ _ hb).mono ?_
        rintro e w' ⟨rfl, rfl⟩
        rw [HN2.out]
        go_wp2_with fail
        refine (l1minus_any s r _ hr2).mono ?_
        rintro e w' ⟨rfl, rfl⟩
        go_wp2_with fail
        refine (l1minus_any t q _ hq2).mono ?_
        rintro e w' ⟨rfl, rfl⟩
        go_wp2
        go_ret
        exact ⟨by rw [HF.out]; rfl, rfl⟩
      · have e3 := eql_num ha hb ha0 hz
        cases hab : (Ieee.double.word s r == Ieee.double.word t q)
        · rw [hab] at e3
          have HF : Aside (feq (Ieee.double.word s r) (Ieee.double.word t q) = false) := ⟨by rw [feq_num ha0 hb0, hab]⟩
          clear ha0 hb0 hz hab
          go_enter Try.func78, Try.ntmps78
          go_wp2_with fail
          refine (l1nan_any _ _ ha).mono ?_
          rintro e w' ⟨rfl, rfl⟩
          rw [HN1.out]
          go_wp2_with fail
          refine (l1nan_any _ _ hb).mono ?_
          rintro e w' ⟨rfl, rfl⟩
          rw [HN2.out]
          go_wp2
          go_ret
          exact ⟨by rw [HF.out]; rfl, rfl⟩
        · rw [hab] at e3
          have hst := word_inj hr hq (beq_iff_eq.1 hab)
          have HF : Aside (feq (Ieee.double.word s r) (Ieee.double.word t q) = (s == t)) := ⟨by rw [feq_num ha0 hb0, hab, hst.1]; simp⟩
          clear ha0 hb0 hz hab hst
          go_enter Try.func78, Try.ntmps78
          go_wp2_with fail
          refine (l1nan_any _ _ ha).mono ?_
          rintro e w' ⟨rfl, rfl⟩
          rw [HN1.out]
          go_wp2_with fail
          refine (l1nan_any _ _ hb).mono ?_
          rintro e w' ⟨rfl, rfl⟩
          rw [HN2.out]
          go_wp2_with fail
          refine (l1minus_any s r _ hr2).mono ?_
          rintro e w' ⟨rfl, rfl⟩
          go_wp2_with fail
          refine (l1minus_any t q _ hq2).mono ?_
          rintro e w' ⟨rfl, rfl⟩
          go_wp2
          go_ret
          exact ⟨by rw [HF.out]; rfl, rfl⟩
    · have HF : Aside (feq a b = false) := ⟨by rw [feq_comm, feq_left hb0, ha0]⟩
      have HN1 := Aside.mk ha0
      have HN2 := Aside.mk hb0
      clear ha0 hb0
      go_enter Try.func78, Try.ntmps78
      go_wp2_with fail
      refine (l1nan_any _ _ ha).mono ?_
      rintro e w' ⟨rfl, rfl⟩
      rw [HN1.out]
      go_wp2_with fail
      refine (l1nan_any _ _ hb).mono ?_
      rintro e w' ⟨rfl, rfl⟩
      rw [HN2.out]
      go_wp2_with fail
      refine (l1nan_any _ _ ha).mono ?_
      rintro e w' ⟨rfl, rfl⟩
      rw [HN1.out]
      go_wp2
      go_ret
      exact ⟨by rw [HF.out]; rfl, rfl⟩
  · have HF : Aside (feq a b = isNan b) := ⟨feq_left ha0⟩
    have HN1 := Aside.mk ha0
    clear ha0
    go_enter Try.func78, Try.ntmps78
    go_wp2_with fail
    refine (l1nan_any _ _ ha).mono ?_
    rintro e w' ⟨rfl, rfl⟩
    rw [HN1.out]
    go_wp2_with fail
    refine (l1nan_any _ _ ha).mono ?_
    rintro e w' ⟨rfl, rfl⟩
    rw [HN1.out]
    go_wp2_with fail
    refine (l1nan_any _ _ hb).mono ?_
    rintro e w' ⟨rfl, rfl⟩
    go_wp2
    go_ret
    exact ⟨by rw [HF.out]; rfl, rfl⟩

end Go.Proofs.Ytjmobjiaoklfdaa
