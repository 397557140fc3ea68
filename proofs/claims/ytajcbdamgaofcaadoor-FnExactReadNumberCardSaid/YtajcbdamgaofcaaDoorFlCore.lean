/- IEEE doubles in plain arithmetic: a word is a sign and a rung, a finite rung is a whole number of units of 2 to the power -1074; what the operations of the model give where the result is exact. No condition. -/
import Ieee.Word
import Ieee.Arith
set_option linter.unusedVariables false
set_option linter.unusedSimpArgs false
namespace FlCore
open Ieee


theorem two52 : (2:Nat)^52 = 4503599627370496 := by decide +kernel
theorem binade_double : double.binade = 4503599627370496 := by decide +kernel
theorem inf_double : double.infRung = 9218868437227405312 := by decide +kernel
theorem sw_double : double.signWeight = 9223372036854775808 := by decide +kernel
theorem lp_double : double.leastPlace = -1074 := by decide +kernel
theorem fb_double : double.fractionBits = 52 := rfl

/-- The significand and the exponent above -1074 of a rung. -/
def mag (r : Nat) : Nat := if r < 4503599627370496 then r else 4503599627370496 + r % 4503599627370496
def ex (r : Nat) : Nat := if r < 4503599627370496 then 0 else r / 4503599627370496 - 1

theorem mag_lt (r : Nat) : mag r < 9007199254740992 := by
  unfold mag; split <;> omega
theorem mag_ex (r : Nat) : (mag r < 4503599627370496 → ex r = 0) ∧ (ex r * 4503599627370496 + mag r = r) := by
  unfold mag ex
  split
  · exact ⟨fun _ => rfl, by omega⟩
  · constructor
    · intro h; omega
    · omega

/-- The number of units of 2 ^ -1074. -/
def units (r : Nat) : Nat := mag r * 2 ^ ex r

theorem word_def (s : Bool) (r : Nat) : double.word s r = if s then 9223372036854775808 + r else r := by
  unfold Format.word; rw [sw_double]

theorem read_word (s : Bool) (r : Nat) (h : r < 9218868437227405312) :
    double.read (double.word s r) = .number s (mag r) (-1074 + (ex r : Nat)) := by
  unfold Format.read
  rw [word_def, sw_double, binade_double, inf_double, lp_double]
  have h1 : ((if s then 9223372036854775808 + r else r) / 9223372036854775808 % 2 == 1) = s := by
    cases s <;> simp <;> omega
  have h2 : (if s then 9223372036854775808 + r else r) % 9223372036854775808 = r := by
    cases s <;> simp <;> omega
  simp only [h1, h2]
  unfold mag ex
  split
  · simp
  · simp

theorem log2_eq {n k : Nat} (h1 : 2 ^ k ≤ n) (h2 : n < 2 ^ (k + 1)) : n.log2 = k := by
  have h0 : n ≠ 0 := by have := Nat.two_pow_pos k; omega
  have a := (Nat.le_log2 h0).2 h1
  have b := (Nat.log2_lt h0).2 h2
  omega

theorem log2_mul_pow {n : Nat} (h : n ≠ 0) (k : Nat) : (n * 2 ^ k).log2 = n.log2 + k := by
  refine log2_eq ?_ ?_
  · rw [Nat.pow_add]; exact Nat.mul_le_mul_right _ (Nat.log2_self_le h)
  · rw [Nat.add_right_comm, Nat.pow_add]; exact Nat.mul_lt_mul_of_pos_right Nat.lt_log2_self (Nat.two_pow_pos _)

theorem cut_exact (s : Bool) (M d : Nat) (hM : M ≠ 0) : Toward.even.cut s (M * 2 ^ d) d = M := by
  unfold Toward.cut
  have hl : d ≤ (M * 2 ^ d).log2 + 2 := by rw [log2_mul_pow hM]; omega
  rw [Nat.min_eq_left hl, Nat.one_shiftLeft]
  have hp := Nat.two_pow_pos d
  simp [Nat.mul_div_cancel _ hp]

/-- A number that the format has is written as it is. -/
theorem nearest_exact (s : Bool) (m : Nat) (p : Int) (r : Nat) (hr : r < 9218868437227405312) (a b : Nat) (hp : p + 1074 + b = a)
    (h : m * 2 ^ a = units r * 2 ^ b) : double.nearest s m p = double.word s r := by
  have ⟨hx1, hx2⟩ := mag_ex r
  have hmag := mag_lt r
  by_cases hm : m = 0
  · subst hm
    have : units r = 0 := by
      have hb := Nat.two_pow_pos b
      rw [Nat.zero_mul] at h
      exact (Nat.mul_eq_zero.1 h.symm).resolve_right (by omega)
    unfold units at this
    have hm0 : mag r = 0 := (Nat.mul_eq_zero.1 this).resolve_right (by have := Nat.two_pow_pos (ex r); omega)
    have he := hx1 (by omega)
    have : r = 0 := by omega
    subst this
    simp [Format.nearest]
  · have hM : mag r ≠ 0 := by
      intro h0
      unfold units at h
      rw [h0, Nat.zero_mul, Nat.zero_mul] at h
      have := Nat.two_pow_pos a
      exact hm ((Nat.mul_eq_zero.1 h).resolve_right (by omega))
    have hlog : m.log2 + a = (mag r).log2 + ex r + b := by
      have := congrArg Nat.log2 h
      unfold units at this
      rw [log2_mul_pow hm, log2_mul_pow, log2_mul_pow hM] at this
      · exact this
      · intro h0; exact hM ((Nat.mul_eq_zero.1 h0).resolve_right (by have := Nat.two_pow_pos (ex r); omega))
    have hL : (mag r).log2 ≤ 52 := by
      have := (Nat.log2_lt (k := 53) hM).2 (by have : (2:Nat)^53 = 9007199254740992 := by decide +kernel
                                               omega)
      omega
    have hLn : ex r ≠ 0 → (mag r).log2 = 52 := by
      intro he
      have : 4503599627370496 ≤ mag r := by
        rcases Nat.lt_or_ge (mag r) 4503599627370496 with hlt | hge
        · exact absurd (hx1 hlt) he
        · exact hge
      have e1 := two52
      have e2 : (2:Nat)^53 = 9007199254740992 := by decide +kernel
      refine log2_eq (k := 52) ?_ ?_
      · omega
      · show mag r < 2 ^ 53
        omega
    have hlast : max (p + (m.log2 : Int) - (52 : Nat)) (-1074) = -1074 + (ex r : Nat) := by
      by_cases he : ex r = 0
      · rw [he] at hlog ⊢; omega
      · have := hLn he; omega
    unfold Format.nearest
    dsimp only
    rw [if_neg hm, fb_double, lp_double, hlast, binade_double, inf_double]
    have h3 : (-1074 + (ex r : Int) - -1074).toNat = ex r := by omega
    have hkept : Toward.even.cut s (m <<< (p - (-1074 + (ex r : Int))).toNat) ((-1074 + (ex r : Int)) - p).toNat = mag r := by
      by_cases hge : -1074 + (ex r : Int) ≤ p
      · have h4 : ((-1074 + (ex r : Int)) - p).toNat = 0 := by omega
        rw [h4, Nat.shiftLeft_eq]
        have h5 : m * 2 ^ (p - (-1074 + (ex r : Int))).toNat = mag r := by
          obtain ⟨k, hk⟩ : ∃ k : Nat, (p - (-1074 + (ex r : Int))).toNat = k := ⟨_, rfl⟩
          rw [hk]
          have hab : a = k + ex r + b := by omega
          rw [hab] at h
          unfold units at h
          have e1 : m * 2 ^ (k + ex r + b) = (m * 2 ^ k) * (2 ^ (ex r) * 2 ^ b) := by
            rw [Nat.pow_add, Nat.pow_add]; simp only [Nat.mul_assoc]
          rw [e1, Nat.mul_assoc (mag r)] at h
          exact Nat.eq_of_mul_eq_mul_right (Nat.mul_pos (Nat.two_pow_pos _) (Nat.two_pow_pos _)) h
        rw [h5]
        have := cut_exact s (mag r) 0 hM
        rwa [Nat.pow_zero, Nat.mul_one] at this
      · have h4 : (p - (-1074 + (ex r : Int))).toNat = 0 := by omega
        rw [h4, Nat.shiftLeft_zero]
        obtain ⟨k, hk⟩ : ∃ k : Nat, ((-1074 + (ex r : Int)) - p).toNat = k := ⟨_, rfl⟩
        rw [hk]
        have h5 : m = mag r * 2 ^ k := by
          have hab : ex r + b = a + k := by omega
          unfold units at h
          rw [Nat.mul_assoc, ← Nat.pow_add, hab, Nat.pow_add, Nat.mul_comm (2 ^ a), ← Nat.mul_assoc] at h
          exact Nat.eq_of_mul_eq_mul_right (Nat.two_pow_pos _) h
        rw [h5]
        exact cut_exact s (mag r) k hM
    rw [h3, hkept, hx2, Nat.min_eq_left (by omega)]

theorem mag_zero_iff (r : Nat) : mag r = 0 ↔ r = 0 := by
  have ⟨h1, h2⟩ := mag_ex r
  constructor
  · intro h; have := h1 (by omega); omega
  · intro h; subst h; rfl

theorem units_zero_iff (r : Nat) : units r = 0 ↔ r = 0 := by
  refine Iff.trans ?_ (mag_zero_iff r)
  unfold units
  constructor
  · intro h; exact (Nat.mul_eq_zero.1 h).resolve_right (by have := Nat.two_pow_pos (ex r); omega)
  · intro h; rw [h, Nat.zero_mul]

theorem units_lt {r1 r2 : Nat} (h : r1 < r2) : units r1 < units r2 := by
  have ⟨a1, a2⟩ := mag_ex r1
  have ⟨b1, b2⟩ := mag_ex r2
  have m1 := mag_lt r1
  have m2 := mag_lt r2
  unfold units
  generalize mag r1 = M1 at *
  generalize mag r2 = M2 at *
  generalize ex r1 = E1 at *
  generalize ex r2 = E2 at *
  rcases Nat.lt_trichotomy E1 E2 with hE | hE | hE
  · obtain ⟨d, rfl⟩ : ∃ d, E2 = E1 + 1 + d := ⟨E2 - E1 - 1, by omega⟩
    have hM2 : 4503599627370496 ≤ M2 := by
      rcases Nat.lt_or_ge M2 4503599627370496 with q | q
      · have := b1 q; omega
      · exact q
    have e1 : M2 * 2 ^ (E1 + 1 + d) = (M2 * 2 * 2 ^ d) * 2 ^ E1 := by
      rw [Nat.pow_add, Nat.pow_add, Nat.pow_one]
      simp only [Nat.mul_assoc, Nat.mul_comm, Nat.mul_left_comm]
    rw [e1]
    refine Nat.mul_lt_mul_of_pos_right ?_ (Nat.two_pow_pos _)
    have := Nat.le_mul_of_pos_right (M2 * 2) (Nat.two_pow_pos d)
    omega
  · subst hE
    refine Nat.mul_lt_mul_of_pos_right ?_ (Nat.two_pow_pos _)
    omega
  · exfalso
    have hM1 : 4503599627370496 ≤ M1 := by
      rcases Nat.lt_or_ge M1 4503599627370496 with q | q
      · have := a1 q; omega
      · exact q
    omega

theorem units_inj {r1 r2 : Nat} (h : units r1 = units r2) : r1 = r2 := by
  rcases Nat.lt_trichotomy r1 r2 with q | q | q
  · have := units_lt q; omega
  · exact q
  · have := units_lt q; omega

theorem units_small {n : Nat} (h : n < 4503599627370496) : units n = n := by
  have e : mag n = n := by unfold mag; rw [if_pos h]
  have e2 := (mag_ex n).1 (by rw [e]; exact h)
  unfold units
  rw [e, e2, Nat.pow_zero, Nat.mul_one]

/-- A binade up doubles. -/
theorem units_up {r : Nat} (h : 4503599627370496 ≤ r) (k : Nat) : units (r + k * 4503599627370496) = units r * 2 ^ k := by
  have e1 : mag (r + k * 4503599627370496) = mag r := by
    unfold mag
    rw [if_neg (by omega), if_neg (by omega)]
    omega
  have e2 : ex (r + k * 4503599627370496) = ex r + k := by
    unfold ex
    rw [if_neg (by omega), if_neg (by omega)]
    omega
  unfold units
  rw [e1, e2, Nat.pow_add, Nat.mul_assoc]

/-- Each short number of units with zeros behind it is a rung. -/
theorem rung_of (n : Nat) (h : n < 9007199254740992) : ∀ k, k ≤ 2044 → ∃ r, r < 9218868437227405312 ∧ units r = n * 2 ^ k
  | 0, _ => by
    rcases Nat.lt_or_ge n 4503599627370496 with q | q
    · exact ⟨n, by omega, by rw [units_small q]; omega⟩
    · refine ⟨n, by omega, ?_⟩
      have e1 : mag n = n := by unfold mag; rw [if_neg (by omega)]; omega
      have e2 : ex n = 0 := by unfold ex; rw [if_neg (by omega)]; omega
      unfold units
      rw [e1, e2]
  | k + 1, hk => by
    by_cases h0 : n = 0
    · subst h0; exact ⟨0, by omega, by simp [units_zero_iff]⟩
    · rcases Nat.lt_or_ge n 4503599627370496 with q | q
      · obtain ⟨r, h1, h2⟩ := rung_of (n * 2) (by omega) k (by omega)
        exact ⟨r, h1, by rw [h2, Nat.pow_succ, Nat.mul_assoc, Nat.mul_comm 2]⟩
      · have e0 : units n = n := by
          have e1 : mag n = n := by unfold mag; rw [if_neg (by omega)]; omega
          have e2 : ex n = 0 := by unfold ex; rw [if_neg (by omega)]; omega
          unfold units
          rw [e1, e2, Nat.pow_zero, Nat.mul_one]
        exact ⟨n + (k + 1) * 4503599627370496, by omega, by rw [units_up q, e0]⟩

/-! ### words -/
theorem read_inf (s : Bool) : double.read (double.word s 9218868437227405312) = .infinity s := by
  unfold Format.read
  rw [word_def, sw_double, binade_double, inf_double, lp_double]
  cases s <;> simp

theorem read_nan (s : Bool) (r : Nat) (h : 9218868437227405312 < r) (h2 : r < 9223372036854775808) : double.read (double.word s r) = .nan s (r - 9218868437227405312) := by
  unfold Format.read
  rw [word_def, sw_double, binade_double, inf_double, lp_double]
  have h1 : ((if s then 9223372036854775808 + r else r) / 9223372036854775808 % 2 == 1) = s := by
    cases s <;> simp <;> omega
  have h2 : (if s then 9223372036854775808 + r else r) % 9223372036854775808 = r := by
    cases s <;> simp <;> omega
  simp only [h1, h2]
  rw [if_neg (by omega), if_neg (by omega), if_neg (by omega)]

theorem word_of (w : Nat) (h : w < 18446744073709551616) : ∃ s r, r < 9223372036854775808 ∧ w = double.word s r := by
  rcases Nat.lt_or_ge w 9223372036854775808 with q | q
  · exact ⟨false, w, q, by rw [word_def]; rfl⟩
  · exact ⟨true, w - 9223372036854775808, by omega, by rw [word_def]; simp; omega⟩

theorem word_lt' (s : Bool) (r : Nat) (h : r < 9223372036854775808) : double.word s r < 18446744073709551616 := by
  rw [word_def]; split <;> omega

theorem word_inj {s t : Bool} {r q : Nat} (h1 : r < 9223372036854775808) (h2 : q < 9223372036854775808) (h : double.word s r = double.word t q) : s = t ∧ r = q := by
  rw [word_def, word_def] at h
  cases s <;> cases t <;> simp at h ⊢ <;> omega

def isNan (w : Nat) : Bool := decide (9218868437227405312 < w % 9223372036854775808)
/-- All NaNs are one. -/
def canon (w : Nat) : Nat := if isNan w then 9221120237041090560 else w

theorem word_mod (s : Bool) (r : Nat) (h : r < 9223372036854775808) : double.word s r % 9223372036854775808 = r := by
  rw [word_def]; cases s <;> simp <;> omega

theorem isNan_word (s : Bool) (r : Nat) (h : r < 9223372036854775808) : isNan (double.word s r) = decide (9218868437227405312 < r) := by
  unfold isNan; rw [word_mod s r h]

def sgn (s : Bool) (n : Nat) : Int := if s then -(n : Int) else n

theorem signed_eq (s : Bool) (m k : Nat) : signed s m k = sgn s (m * 2 ^ k) := by
  unfold signed sgn; rw [Nat.shiftLeft_eq]

theorem sgn_mul (s : Bool) (n k : Nat) : sgn s (n * k) = sgn s n * (k : Int) := by
  unfold sgn; split
  · rw [Int.neg_mul, Int.natCast_mul]
  · exact Int.natCast_mul n k

theorem compare_mul (x y : Int) (k : Nat) (h : 0 < k) : compare (x * (k : Int)) (y * (k : Int)) = compare x y := by
  have hk : (0 : Int) < k := by omega
  have e1 : (x * (k : Int) < y * (k : Int)) ↔ x < y := Int.mul_lt_mul_right hk
  have e2 : (x * (k : Int) = y * (k : Int)) ↔ x = y := Int.mul_eq_mul_right_iff (by omega)
  simp only [compare, compareOfLessAndEq, e1, e2]

theorem order_fin (s t : Bool) (r q : Nat) (hr : r < 9218868437227405312) (hq : q < 9218868437227405312) :
    double.order (double.word s r) (double.word t q) = some (compare (sgn s (units r)) (sgn t (units q))) := by
  unfold Format.order
  rw [read_word s r hr, read_word t q hq]
  simp only [Datum.order, signed_eq]
  obtain ⟨c, hc⟩ : ∃ c : Nat, min (-1074 + (ex r : Int)) (-1074 + (ex q : Int)) = -1074 + (c : Int) := ⟨min (ex r) (ex q), by omega⟩
  rw [hc]
  have h1 : units r = mag r * 2 ^ (-1074 + (ex r : Int) - (-1074 + (c : Int))).toNat * 2 ^ c := by
    unfold units; rw [Nat.mul_assoc, ← Nat.pow_add]; congr 2; omega
  have h2 : units q = mag q * 2 ^ (-1074 + (ex q : Int) - (-1074 + (c : Int))).toNat * 2 ^ c := by
    unfold units; rw [Nat.mul_assoc, ← Nat.pow_add]; congr 2; omega
  rw [h1, h2, sgn_mul s _ (2 ^ c), sgn_mul t _ (2 ^ c), compare_mul _ _ _ (Nat.two_pow_pos c)]

theorem order_nan_left (s : Bool) (r w : Nat) (h : 9218868437227405312 < r) (h2 : r < 9223372036854775808) : double.order (double.word s r) w = none := by
  unfold Format.order; rw [read_nan s r h h2]; rfl
theorem order_nan_right (s : Bool) (r w : Nat) (h : 9218868437227405312 < r) (h2 : r < 9223372036854775808) : double.order w (double.word s r) = none := by
  unfold Format.order; rw [read_nan s r h h2]; cases double.read w <;> rfl

/-- Numbers that are not negative stand as their rungs do. -/
theorem order_pos (r q : Nat) (hr : r ≤ 9218868437227405312) (hq : q ≤ 9218868437227405312) : double.order r q = some (compare r q) := by
  have wr : r = double.word false r := by rw [word_def]; rfl
  have wq : q = double.word false q := by rw [word_def]; rfl
  have cmp : ∀ a b : Nat, a < b → compare a b = .lt := fun a b h => by simp [Nat.compare_eq_lt, h]
  rcases Nat.lt_or_ge r 9218868437227405312 with h1 | h1
  · rcases Nat.lt_or_ge q 9218868437227405312 with h2 | h2
    · conv => lhs; rw [wr, wq]
      rw [order_fin _ _ _ _ h1 h2]
      congr 1
      unfold sgn
      simp only [Bool.false_eq_true, if_false]
      rcases Nat.lt_trichotomy r q with h | h | h
      · have hu := units_lt h
        rw [Nat.compare_eq_lt.2 h]
        simp only [compare, compareOfLessAndEq]
        rw [if_pos (by omega)]
      · subst h
        simp [compare, compareOfLessAndEq]
      · have hu := units_lt h
        rw [Nat.compare_eq_gt.2 h]
        simp only [compare, compareOfLessAndEq]
        rw [if_neg (by omega), if_neg (by omega)]
    · obtain rfl : q = 9218868437227405312 := by omega
      have e1 := read_word false r h1
      have e2 := read_inf false
      rw [← wr] at e1
      rw [← wq] at e2
      unfold Format.order
      rw [e1, e2, Nat.compare_eq_lt.2 h1]
      rfl
  · obtain rfl : r = 9218868437227405312 := by omega
    have e2 := read_inf false
    rw [← wr] at e2
    rcases Nat.lt_or_ge q 9218868437227405312 with h2 | h2
    · have e1 := read_word false q h2
      rw [← wq] at e1
      unfold Format.order
      rw [e1, e2, Nat.compare_eq_gt.2 h2]
      rfl
    · obtain rfl : q = 9218868437227405312 := by omega
      unfold Format.order
      rw [e2, Nat.compare_eq_eq.2 rfl]
      decide

/-! ### equality -/
theorem sgn_eq_iff (s t : Bool) (m n : Nat) : sgn s m = sgn t n ↔ (m = n ∧ (s = t ∨ m = 0)) := by
  unfold sgn
  cases s <;> cases t <;> simp <;> omega

theorem compare_eq_int (x y : Int) : (compare x y = .eq) ↔ x = y := by
  simp only [compare, compareOfLessAndEq]
  by_cases h : x < y
  · rw [if_pos h]; simp; omega
  · rw [if_neg h]
    by_cases h2 : x = y
    · rw [if_pos h2]; simp [h2]
    · rw [if_neg h2]; simp [h2]

/-- Two words are equal by IEEE: none is a NaN, and they are the same or both zeros. -/
theorem order_eq_iff (s t : Bool) (r q : Nat) (hr : r < 9223372036854775808) (hq : q < 9223372036854775808) :
    double.order (double.word s r) (double.word t q) = some .eq ↔ (r ≤ 9218868437227405312 ∧ r = q ∧ (s = t ∨ r = 0)) := by
  rcases Nat.lt_trichotomy r 9218868437227405312 with h | h | h
  · rcases Nat.lt_trichotomy q 9218868437227405312 with g | g | g
    · rw [order_fin s t r q h g, Option.some_inj, compare_eq_int, sgn_eq_iff]
      constructor
      · rintro ⟨a, b⟩
        have e := units_inj a
        exact ⟨by omega, e, by rw [units_zero_iff] at b; exact b⟩
      · rintro ⟨_, rfl, b⟩
        exact ⟨rfl, by rw [units_zero_iff]; exact b⟩
    · subst g
      unfold Format.order
      rw [read_word s r h, read_inf]
      constructor
      · intro h2; simp only [Datum.order] at h2; split at h2 <;> cases h2
      · rintro ⟨_, h2, _⟩; omega
    · rw [order_nan_right t q _ g hq]
      constructor
      · intro h2; cases h2
      · rintro ⟨_, h2, _⟩; omega
  · subst h
    rcases Nat.lt_trichotomy q 9218868437227405312 with g | g | g
    · unfold Format.order
      rw [read_word t q g, read_inf]
      constructor
      · intro h2; simp only [Datum.order] at h2; split at h2 <;> cases h2
      · rintro ⟨_, h2, _⟩; omega
    · subst g
      unfold Format.order
      rw [read_inf, read_inf]
      cases s <;> cases t <;> simp [Datum.order, compare, compareOfLessAndEq]
    · rw [order_nan_right t q _ g hq]
      constructor
      · intro h2; cases h2
      · rintro ⟨_, h2, _⟩; omega
  · rw [order_nan_left s r _ h hr]
    constructor
    · intro h2; cases h2
    · rintro ⟨h2, _, _⟩; omega

theorem order_self (w : Nat) (h : w < 18446744073709551616) : (double.order w w = some .eq) ↔ isNan w = false := by
  obtain ⟨s, r, hr, rfl⟩ := word_of w h
  rw [order_eq_iff s s r r hr hr, isNan_word s r hr]
  simp

/-! ### sign -/
theorem neg_word (s : Bool) (r : Nat) (h : r < 9223372036854775808) : double.word s r ^^^ 2 ^ 63 = double.word (!s) r := by
  rw [word_def, word_def]
  have e : (2:Nat) ^ 63 = 9223372036854775808 := by decide +kernel
  cases s
  · simp only [Bool.false_eq_true, if_false, Bool.not_false, if_true]
    have e2 : 9223372036854775808 + r = 2 ^ 63 ||| r := by
      have := Nat.two_pow_add_eq_or_of_lt (i := 63) (b := r) (by omega) 1
      rw [← e]; simpa using this
    rw [e2, Nat.xor_comm]
    apply Nat.eq_of_testBit_eq
    intro i
    rw [Nat.testBit_xor, Nat.testBit_or]
    by_cases hi : i = 63
    · subst hi
      have : r.testBit 63 = false := Nat.testBit_lt_two_pow (by omega)
      simp [this]
    · have : (2 ^ 63).testBit i = false := by rw [Nat.testBit_two_pow]; simp; omega
      simp [this]
  · simp only [if_true, Bool.not_true, Bool.false_eq_true, if_false]
    have e2 : 9223372036854775808 + r = 2 ^ 63 ||| r := by
      have := Nat.two_pow_add_eq_or_of_lt (i := 63) (b := r) (by omega) 1
      rw [← e]; simpa using this
    rw [e2]
    apply Nat.eq_of_testBit_eq
    intro i
    rw [Nat.testBit_xor, Nat.testBit_or]
    by_cases hi : i = 63
    · subst hi
      have : r.testBit 63 = false := Nat.testBit_lt_two_pow (by omega)
      simp [this]
    · have : (2 ^ 63).testBit i = false := by rw [Nat.testBit_two_pow]; simp; omega
      simp [this]

/-! ### exact arithmetic -/
/-- The word of a power of two: 2 ^ (k - 1022), k from 0 on. -/
def pow2 (k : Nat) : Nat := (k + 1) * 4503599627370496
theorem pow2_word (k : Nat) : pow2 k = double.word false (pow2 k) := by rw [word_def]; rfl
theorem pow2_mag (k : Nat) : mag (pow2 k) = 4503599627370496 := by unfold mag pow2; rw [if_neg (by omega)]; omega
theorem pow2_ex (k : Nat) : ex (pow2 k) = k := by unfold ex pow2; rw [if_neg (by omega)]; omega
theorem pow2_units (k : Nat) : units (pow2 k) = 2 ^ (52 + k) := by
  unfold units; rw [pow2_mag, pow2_ex, Nat.pow_add, two52]

theorem mul_exact (s : Bool) (r q k c : Nat) (hr : r < 9218868437227405312) (hq : q < 9218868437227405312) (hk : k ≤ 2045) (hc : c = 1022)
    (h : units r * 2 ^ k = units q * 2 ^ c) : double.mul (double.word s r) (pow2 k) = some (double.word s q) := by
  unfold Format.mul
  rw [read_word s r hr, pow2_word k, read_word false _ (by unfold pow2; omega), pow2_mag, pow2_ex]
  simp only [Datum.product, Option.map_some, Format.write, Option.some_inj, Bool.xor_false]
  refine nearest_exact s _ _ q hq (ex r + k) (c + 52) (by omega) ?_
  rw [Nat.pow_add 2 c 52, ← Nat.mul_assoc (units q), ← h]
  unfold units
  rw [Nat.pow_add, two52]
  simp only [Nat.mul_assoc, Nat.mul_comm, Nat.mul_left_comm]

theorem div_exact (s : Bool) (r q k c : Nat) (hr : r < 9218868437227405312) (hq : q < 9218868437227405312) (hk : k ≤ 2045) (hc : c = 1022)
    (h : units q * 2 ^ k = units r * 2 ^ c) : double.div (double.word s r) (pow2 k) = some (double.word s q) := by
  have hlog : (mag r).log2 ≤ 52 := by
    by_cases h0 : mag r = 0
    · rw [h0]; decide
    · have := (Nat.log2_lt (k := 53) h0).2 (by have := mag_lt r; omega)
      omega
  have hl2 : (4503599627370496 : Nat).log2 = 52 := log2_eq (by decide +kernel) (by decide +kernel)
  unfold Format.div
  rw [read_word s r hr, pow2_word k, read_word false _ (by unfold pow2; omega), pow2_mag, pow2_ex]
  simp only [Datum.quotient, Bool.xor_false]
  rw [if_neg (by decide)]
  simp only [Option.map_some, Format.write, Option.some_inj]
  rw [hl2, fb_double]
  obtain ⟨z, hz⟩ : ∃ z, 52 + 2 + 52 - (mag r).log2 = 52 + z := ⟨52 + 2 - (mag r).log2, by omega⟩
  rw [hz, Nat.shiftLeft_eq]
  have e1 : mag r * 2 ^ (52 + z) = mag r * 2 ^ z * 4503599627370496 := by rw [Nat.pow_add, two52]; simp only [Nat.mul_assoc, Nat.mul_comm]
  rw [e1, Nat.mul_div_cancel _ (by decide), Nat.mul_mod_left]
  simp only [bne_self_eq_false, Bool.toNat_false, Nat.add_zero]
  refine nearest_exact s _ _ q hq (ex r + c) (k + z + 1) (by omega) ?_
  have e2 : units q * 2 ^ (k + z + 1) = units q * 2 ^ k * 2 ^ (z + 1) := by rw [Nat.add_assoc, Nat.pow_add, Nat.mul_assoc]
  rw [e2, h]
  unfold units
  rw [Nat.pow_add, Nat.pow_add, Nat.pow_one]
  simp only [Nat.mul_assoc, Nat.mul_comm, Nat.mul_left_comm]

theorem sum_exact (r q z : Nat) (hr : r < 9218868437227405312) (hq : q < 9218868437227405312) (hz : z < 9218868437227405312) (h0 : z ≠ 0)
    (h : units z = units r + units q) : double.add (double.word false r) (double.word false q) = some (double.word false z) := by
  unfold Format.add
  rw [read_word false r hr, read_word false q hq]
  simp only [Datum.sum, Option.map_some, Format.write, Option.some_inj, signed_eq]
  obtain ⟨c, hc⟩ : ∃ c : Nat, min (-1074 + (ex r : Int)) (-1074 + (ex q : Int)) = -1074 + (c : Int) := ⟨min (ex r) (ex q), by omega⟩
  rw [hc]
  have h1 : units r = mag r * 2 ^ (-1074 + (ex r : Int) - (-1074 + (c : Int))).toNat * 2 ^ c := by
    unfold units; rw [Nat.mul_assoc, ← Nat.pow_add]; congr 2; omega
  have h2 : units q = mag q * 2 ^ (-1074 + (ex q : Int) - (-1074 + (c : Int))).toNat * 2 ^ c := by
    unfold units; rw [Nat.mul_assoc, ← Nat.pow_add]; congr 2; omega
  generalize mag r * 2 ^ (-1074 + (ex r : Int) - (-1074 + (c : Int))).toNat = R at *
  generalize mag q * 2 ^ (-1074 + (ex q : Int) - (-1074 + (c : Int))).toNat = Q at *
  have hz0 : units z ≠ 0 := by rw [Ne, units_zero_iff]; exact h0
  have hRQ : R + Q ≠ 0 := by
    intro hh
    rw [h, h1, h2, ← Nat.add_mul, hh] at hz0
    simp at hz0
  have e0 : sgn false R + sgn false Q = ((R + Q : Nat) : Int) := by simp [sgn]
  rw [e0, if_neg (by omega), Int.natAbs_natCast]
  have e3 : decide (((R + Q : Nat) : Int) < 0) = false := decide_eq_false (by omega)
  rw [e3]
  refine nearest_exact false _ _ z hz c 0 (by omega) ?_
  rw [h, h1, h2, Nat.pow_zero, Nat.mul_one, Nat.add_mul]

theorem diff_exact (r q z : Nat) (hr : r < 9218868437227405312) (hq : q < 9218868437227405312) (hz : z < 9218868437227405312)
    (h : units r = units q + units z) : double.sub (double.word false r) (double.word false q) = some (double.word false z) := by
  unfold Format.sub
  rw [read_word false r hr, read_word false q hq]
  simp only [Datum.opposite, Datum.sum, Option.map_some, Format.write, Option.some_inj, signed_eq, Bool.not_false]
  obtain ⟨c, hc⟩ : ∃ c : Nat, min (-1074 + (ex r : Int)) (-1074 + (ex q : Int)) = -1074 + (c : Int) := ⟨min (ex r) (ex q), by omega⟩
  rw [hc]
  have h1 : units r = mag r * 2 ^ (-1074 + (ex r : Int) - (-1074 + (c : Int))).toNat * 2 ^ c := by
    unfold units; rw [Nat.mul_assoc, ← Nat.pow_add]; congr 2; omega
  have h2 : units q = mag q * 2 ^ (-1074 + (ex q : Int) - (-1074 + (c : Int))).toNat * 2 ^ c := by
    unfold units; rw [Nat.mul_assoc, ← Nat.pow_add]; congr 2; omega
  generalize mag r * 2 ^ (-1074 + (ex r : Int) - (-1074 + (c : Int))).toNat = R at *
  generalize mag q * 2 ^ (-1074 + (ex q : Int) - (-1074 + (c : Int))).toNat = Q at *
  have hle : Q ≤ R := by
    have : Q * 2 ^ c ≤ R * 2 ^ c := by omega
    exact Nat.le_of_mul_le_mul_right this (Nat.two_pow_pos c)
  have e0 : sgn false R + sgn true Q = ((R - Q : Nat) : Int) := by simp [sgn]; omega
  rw [e0, Int.natAbs_natCast]
  have e3 : (if ((R - Q : Nat) : Int) = 0 then (false && true) else decide (((R - Q : Nat) : Int) < 0)) = false := by
    split
    · rfl
    · exact decide_eq_false (by omega)
  rw [e3]
  refine nearest_exact false _ _ z hz c 0 (by omega) ?_
  rw [Nat.pow_zero, Nat.mul_one, Nat.sub_mul]
  omega

/-- A whole number below 2 ^ 53 is a float. -/
theorem int_exact (n r : Nat) (hr : r < 9218868437227405312) (h : units r = n * 2 ^ 1074) : double.write (.number (decide ((n : Int) < 0)) (n : Int).natAbs 0) = double.word false r := by
  have e : decide ((n : Int) < 0) = false := by simp
  rw [e, Int.natAbs_natCast]
  exact nearest_exact false n 0 r hr 1074 0 (by omega) (by omega)

theorem toInt_exact (r n : Nat) (hr : r < 9218868437227405312) (h : units r = n * 2 ^ 1074) : (double.read (double.word false r)).toInt .zero = some (n : Int) := by
  rw [read_word false r hr]
  unfold Datum.toInt
  simp only [Datum.integral]
  have key : Toward.zero.cut false (mag r <<< (-1074 + (ex r : Int)).toNat) (-(-1074 + (ex r : Int))).toNat = n := by
    rw [Nat.shiftLeft_eq]
    unfold units at h
    by_cases hge : 1074 ≤ ex r
    · have h1 : (-(-1074 + (ex r : Int))).toNat = 0 := by omega
      have h2 : (-1074 + (ex r : Int)).toNat = ex r - 1074 := by omega
      rw [h1, h2]
      have h3 : mag r * 2 ^ (ex r - 1074) = n := by
        have e4 : ex r = (ex r - 1074) + 1074 := by omega
        rw [e4, Nat.pow_add, ← Nat.mul_assoc] at h
        exact Nat.eq_of_mul_eq_mul_right (Nat.two_pow_pos _) h
      rw [h3]
      unfold Toward.cut
      simp
    · have h1 : (-(-1074 + (ex r : Int))).toNat = 1074 - ex r := by omega
      have h2 : (-1074 + (ex r : Int)).toNat = 0 := by omega
      rw [h1, h2, Nat.pow_zero, Nat.mul_one]
      have h3 : mag r = n * 2 ^ (1074 - ex r) := by
        have e4 : 1074 = (1074 - ex r) + ex r := by omega
        rw [e4, Nat.pow_add, ← Nat.mul_assoc] at h
        have := Nat.eq_of_mul_eq_mul_right (Nat.two_pow_pos _) h
        exact this
      rw [h3]
      by_cases hn : n = 0
      · subst hn
        rw [Nat.zero_mul]
        unfold Toward.cut
        simp
      · unfold Toward.cut
        have hl : 1074 - ex r ≤ (n * 2 ^ (1074 - ex r)).log2 + 2 := by rw [log2_mul_pow hn]; omega
        rw [Nat.min_eq_left hl, Nat.one_shiftLeft]
        simp [Nat.mul_div_cancel _ (Nat.two_pow_pos (1074 - ex r))]
  rw [key]
  simp [signed]

theorem one_over_zero (s : Bool) : double.div (pow2 1022) (double.word s 0) = some (double.word s 9218868437227405312) := by
  unfold Format.div
  rw [pow2_word, read_word false _ (by unfold pow2; omega), read_word s 0 (by omega), pow2_mag]
  simp only [Datum.quotient]
  rw [if_pos (by rfl), if_neg (by decide)]
  simp [Format.write, inf_double]

/-! ### tests against nought -/
theorem word_zero : (0 : Nat) = double.word false 0 := by rw [word_def]; rfl

theorem order_zero_eq (b : Nat) (h : b < 18446744073709551616) : (double.order b 0 == some .eq) = decide (b % 9223372036854775808 = 0) := by
  obtain ⟨s, r, hr, rfl⟩ := word_of b h
  rw [word_mod s r hr]
  have := order_eq_iff s false r 0 hr (by omega)
  rw [← word_zero] at this
  by_cases h0 : r = 0
  · rw [decide_eq_true h0, this.2 ⟨by omega, h0, .inr h0⟩]; rfl
  · rw [decide_eq_false h0, beq_eq_false_iff_ne]
    intro hh
    exact h0 (this.1 hh).2.1

theorem order_zero (s : Bool) (r : Nat) (hr : r ≤ 9218868437227405312) (h0 : r ≠ 0) : double.order (double.word s r) 0 = some (if s then .lt else .gt) := by
  rcases Nat.lt_or_ge r 9218868437227405312 with h | h
  · have := order_fin s false r 0 h (by omega)
    rw [← word_zero] at this
    rw [this]
    have hu : units r ≠ 0 := by rw [Ne, units_zero_iff]; exact h0
    have e0 : units 0 = 0 := by rw [units_zero_iff]
    rw [e0]
    congr 1
    cases s
    · simp only [sgn, compare, compareOfLessAndEq, Bool.false_eq_true, if_false]
      rw [if_neg (by omega), if_neg (by omega)]
    · simp only [sgn, compare, compareOfLessAndEq, if_true, Bool.false_eq_true, if_false]
      rw [if_pos (by omega)]
  · obtain rfl : r = 9218868437227405312 := by omega
    have e := read_word false 0 (by omega)
    rw [← word_zero] at e
    unfold Format.order
    rw [read_inf, e]
    cases s <;> rfl

/-! ### halving -/
theorem half_small (r : Nat) (h : r < 9007199254740992) (h0 : r ≠ 0) (c : Nat) (hc : c = 1023) :
    ∃ q, q < r ∧ double.div (double.word false r) (pow2 c) = some (double.word false q) := by
  have e1 : mag r = r := by
    unfold mag; split
    · rfl
    · omega
  have e2 : ex r = 0 := by
    unfold ex; split
    · rfl
    · omega
  have hlog : r.log2 ≤ 52 := by
    have := (Nat.log2_lt (k := 53) h0).2 (by omega)
    omega
  have hl2 : (4503599627370496 : Nat).log2 = 52 := log2_eq (by decide +kernel) (by decide +kernel)
  have hr : r < 9218868437227405312 := by omega
  obtain ⟨z, hz⟩ : ∃ z, 52 + 2 + 52 - r.log2 = 52 + z := ⟨52 + 2 - r.log2, by omega⟩
  have ediv : r * 2 ^ (52 + z) = r * 2 ^ z * 4503599627370496 := by rw [Nat.pow_add, two52]; simp only [Nat.mul_assoc, Nat.mul_comm]
  have hM0 : 2 * (r * 2 ^ z) ≠ 0 := by
    have h1 := Nat.mul_pos (Nat.pos_of_ne_zero h0) (Nat.two_pow_pos z)
    omega
  have hM : 2 * (r * 2 ^ z) = r * 2 ^ (z + 1) := by rw [Nat.pow_succ]; simp only [Nat.mul_comm, Nat.mul_left_comm]
  have hlM : (2 * (r * 2 ^ z)).log2 = r.log2 + (z + 1) := by rw [hM, log2_mul_pow h0]
  have hcut : ∃ q, q < r ∧ Toward.even.cut false (2 * (r * 2 ^ z)) (z + 2) = q := by
    refine ⟨_, ?_, rfl⟩
    unfold Toward.cut
    rw [hlM, Nat.min_eq_left (by omega), Nat.one_shiftLeft, hM]
    have p2 : 2 ^ (z + 2) = 2 * 2 ^ (z + 1) := by rw [Nat.pow_succ 2 (z + 1), Nat.mul_comm]
    have hpos := Nat.two_pow_pos (z + 1)
    rw [p2]
    dsimp only
    have d1 : r * 2 ^ (z + 1) / (2 * 2 ^ (z + 1)) = r / 2 := Nat.mul_div_mul_right r 2 hpos
    have d2 : r * 2 ^ (z + 1) % (2 * 2 ^ (z + 1)) = r % 2 * 2 ^ (z + 1) := Nat.mul_mod_mul_right (2 ^ (z + 1)) r 2
    rw [d1, d2]
    generalize 2 ^ (z + 1) = G at *
    rcases Nat.mod_two_eq_zero_or_one r with hm | hm
    · rw [hm]
      have f1 : decide (2 * G < 2 * (0 * G)) = false := decide_eq_false (by omega)
      have f2 : (2 * G == 2 * (0 * G)) = false := by rw [beq_eq_false_iff_ne]; omega
      rw [f1, f2]
      simp
      omega
    · rw [hm]
      have f1 : decide (2 * G < 2 * (1 * G)) = false := decide_eq_false (by omega)
      rw [f1]
      by_cases hr1 : r = 1
      · subst hr1; simp
      · have : ∀ b : Bool, r / 2 + b.toNat < r := by intro b; cases b <;> simp <;> omega
        exact this _
  obtain ⟨q, hq, hcut⟩ := hcut
  refine ⟨q, hq, ?_⟩
  unfold Format.div
  rw [read_word false r hr, pow2_word c, read_word false _ (by unfold pow2; omega), pow2_mag, pow2_ex, e1, e2]
  simp only [Datum.quotient, Bool.xor_false]
  rw [if_neg (by decide)]
  simp only [Option.map_some, Format.write, Option.some_inj]
  rw [hl2, fb_double, hz, Nat.shiftLeft_eq, ediv, Nat.mul_div_cancel _ (by decide), Nat.mul_mod_left]
  simp only [bne_self_eq_false, Bool.toNat_false, Nat.add_zero]
  unfold Format.nearest
  dsimp only
  rw [if_neg hM0, fb_double, lp_double, hlM, binade_double, inf_double]
  have hlast : max (-1074 + ((0 : Nat) : Int) - (-1074 + (c : Int)) - ((52 + z : Nat) : Int) - 1 + ((r.log2 + (z + 1) : Nat) : Int) - ((52 : Nat) : Int)) (-1074) = -1074 := by omega
  rw [hlast]
  have h3 : (-1074 + ((0 : Nat) : Int) - (-1074 + (c : Int)) - ((52 + z : Nat) : Int) - 1 - (-1074)).toNat = 0 := by omega
  have h4 : (-1074 - (-1074 + ((0 : Nat) : Int) - (-1074 + (c : Int)) - ((52 + z : Nat) : Int) - 1)).toNat = z + 2 := by omega
  rw [h3, h4, Nat.shiftLeft_zero, hcut]
  congr 1
  omega

theorem half_inf (k : Nat) (hk : k ≤ 2045) : double.div 9218868437227405312 (pow2 k) = some 9218868437227405312 := by
  have e := read_inf false
  rw [word_def] at e
  simp only [Bool.false_eq_true, if_false] at e
  unfold Format.div
  rw [e, pow2_word, read_word false _ (by unfold pow2; omega)]
  simp [Datum.quotient, Format.write, inf_double, word_def]

end FlCore
