/- The reference's FloatFrom gives the float of a pattern. No condition but that the pattern has 64 bits. -/
import Derived.Test.YtajcbdamgaofcaaDoorFlWalk
import Derived.Deep.Draws
set_option linter.unusedVariables false
set_option linter.unusedSimpArgs false
namespace Go.Proofs.YtajcbdamgaofcaaDoor
open Go.RowKit
open FlCore

/-- What nought over nought gives in this world. -/
def nanOf (x y : Nat) (w : World) : Nat := (Question.nanBits .f64 x y).cut (w.tape w.drawn (.nanBits .f64 x y))
theorem nanOf_spec (x y : Nat) (w : World) : nanOf x y w < 18446744073709551616 ∧ isNan (nanOf x y w) = true := by
  unfold nanOf Question.cut isNan
  generalize w.tape w.drawn _ = t
  dsimp only
  rw [decide_eq_true_eq]
  have h1 : t % 2 < 2 := Nat.mod_lt _ (by omega)
  have h2 : t / 2 % (2 ^ 52 - 1) < 2 ^ 52 - 1 := Nat.mod_lt _ (by omega)
  generalize t % 2 = a at *
  generalize t / 2 % (2 ^ 52 - 1) = c at *
  omega
theorem run_zero_zero (w : World) : (binOp .quo 23 (.float .f64 0) (.float .f64 0)).run Tryd.prog w = .ok (.float .f64 (nanOf 0 0 w)) w.drew := by kernel_rfl

theorem units_normal (E n : Nat) (hE : 1 ≤ E) (hn : n < 4503599627370496) : units (E * 4503599627370496 + n) = (4503599627370496 + n) * 2 ^ (E - 1) := by
  have h := units_up (r := 4503599627370496 + n) (by omega) (E - 1)
  have e : 4503599627370496 + n + (E - 1) * 4503599627370496 = E * 4503599627370496 + n := by omega
  rw [e] at h
  rw [h]
  congr 1
  have := units_up (r := 4503599627370496 + n) (by omega) 0
  have e1 : mag (4503599627370496 + n) = 4503599627370496 + n := by unfold mag; rw [if_neg (by omega)]; omega
  have e2 : ex (4503599627370496 + n) = 0 := by unfold ex; rw [if_neg (by omega)]; omega
  unfold units; rw [e1, e2]; omega

/-- The doubling of a rung, as the walk asks it. -/
theorem run_twice (r q : Nat) (hr : r < 9218868437227405312) (hq : q < 9218868437227405312) (h : units q = units r * 2) (wx : World) :
    (binOp .mul 23 (.float .f64 r) (.float .f64 4611686018427387904)).run Tryd.prog wx = .ok (.float .f64 q) wx := by
  obtain ⟨c, hc⟩ : ∃ c : Nat, c = 1022 := ⟨_, rfl⟩
  have := mul_exact false r q (c + 1) c hr hq (by omega) hc (by rw [h, Nat.pow_succ, Nat.mul_assoc, Nat.mul_comm 2])
  have e : pow2 (c + 1) = 4611686018427387904 := by rw [hc]; rfl
  rw [e] at this
  refine run_float_arith wx .mul 23 .f64 _ _ _ ?_
  rw [word_def, word_def] at this
  exact this
theorem run_half (r q : Nat) (hr : r < 9218868437227405312) (hq : q < 9218868437227405312) (h : units r = units q * 2) (wx : World) :
    (binOp .quo 23 (.float .f64 r) (.float .f64 4611686018427387904)).run Tryd.prog wx = .ok (.float .f64 q) wx := by
  obtain ⟨c, hc⟩ : ∃ c : Nat, c = 1022 := ⟨_, rfl⟩
  have := div_exact false r q (c + 1) c hr hq (by omega) hc (by rw [h, Nat.pow_succ, Nat.mul_assoc, Nat.mul_comm 2])
  have e : pow2 (c + 1) = 4611686018427387904 := by rw [hc]; rfl
  rw [e] at this
  refine run_float_arith wx .quo 23 .f64 _ _ _ ?_
  rw [word_def, word_def] at this
  exact this

theorem conv_int (n r : Nat) (hr : r < 9218868437227405312) (h : units r = n * 2 ^ 1074) : floatOfInt .f64 (n : Int) = r := by
  have := int_exact n r hr h
  rw [word_def] at this
  exact this

theorem run_over52 (r q : Nat) (hr : r < 9218868437227405312) (hq : q < 9218868437227405312) (c d : Nat) (hc : c = 1022) (hd : d = 1074) (n : Nat) (h1 : units r = n * 2 ^ d) (h2 : units q = n * 2 ^ c) (wx : World) :
    (binOp .quo 23 (.float .f64 r) (.float .f64 4841369599423283200)).run Tryd.prog wx = .ok (.float .f64 q) wx := by
  have := div_exact false r q d c hr hq (by omega) hc (by rw [h1, h2]; simp only [Nat.mul_assoc, Nat.mul_comm, Nat.mul_left_comm])
  have e : pow2 d = 4841369599423283200 := by rw [hd]; rfl
  rw [e] at this
  refine run_float_arith wx .quo 23 .f64 _ _ _ ?_
  rw [word_def, word_def] at this
  exact this

theorem negF (s : Bool) (r : Nat) (h : r < 9223372036854775808) : Op.negFloat .f64 (Ieee.double.word s r) = Ieee.double.word (!s) r := neg_word s r h
theorem negF0 (r : Nat) (h : r < 9223372036854775808) : Op.negFloat .f64 r = 9223372036854775808 + r := by
  have := negF false r h
  rw [word_def, word_def] at this
  exact this

theorem run_neg (x y : Nat) (h : Op.negFloat .f64 x = y) (wx : World) : (Op.unary .neg (.float .f64 x)).run Tryd.prog wx = .ok (.float .f64 y) wx := by
  rw [← h]; rfl

theorem add_frac (n r2 z c : Nat) (hn : n < 4503599627370496) (hr2 : r2 < 9218868437227405312) (hc : c = 1022) (hu2 : units r2 = n * 2 ^ c) (hz : z = 1023 * 4503599627370496 + n) (wx : World) :
    (binOp .add 23 (.float .f64 4607182418800017408) (.float .f64 r2)).run Tryd.prog wx = .ok (.float .f64 z) wx := by
  have hu3 : units z = (4503599627370496 + n) * 2 ^ c := by
    have := units_normal (c + 1) n (by omega) hn
    rw [Nat.add_sub_cancel] at this
    have e : (c + 1) * 4503599627370496 + n = z := by omega
    rw [e] at this
    exact this
  refine run_float_arith wx .add 23 .f64 _ _ _ ?_
  have e1 : units 4607182418800017408 = 4503599627370496 * 2 ^ c := by
    have := pow2_units c
    have e : pow2 c = 4607182418800017408 := by rw [hc]; rfl
    rw [e, Nat.pow_add, two52] at this
    exact this
  have := sum_exact 4607182418800017408 r2 z (by omega) hr2 (by omega) (by omega) (by rw [hu3, hu2, e1, Nat.add_mul])
  rw [word_def, word_def, word_def] at this
  exact this

theorem sign_end (b R : Nat) (hR : b % 9223372036854775808 = R) (hb : b < 18446744073709551616) : (b < 9223372036854775808 → R = b) ∧ (9223372036854775808 ≤ b → ∀ wx : World, (Op.unary .neg (.float .f64 R)).run Tryd.prog wx = .ok (.float .f64 b) wx) := by
  constructor
  · intro h; omega
  · intro h wx
    exact run_neg R b (by rw [negF0 R (by omega)]; omega) wx

theorem rung_twice (r : Nat) (h : 4503599627370496 ≤ r) (h2 : r + 4503599627370496 < 9218868437227405312) (wx : World) :
    (binOp .mul 23 (.float .f64 r) (.float .f64 4611686018427387904)).run Tryd.prog wx = .ok (.float .f64 (r + 4503599627370496)) wx :=
  run_twice r _ (by omega) (by omega) (by have := units_up h 1; rw [Nat.one_mul] at this; rw [this, Nat.pow_one]) wx
theorem rung_half (r : Nat) (h : 4503599627370496 ≤ r) (h2 : r + 4503599627370496 < 9218868437227405312) (wx : World) :
    (binOp .quo 23 (.float .f64 (r + 4503599627370496)) (.float .f64 4611686018427387904)).run Tryd.prog wx = .ok (.float .f64 r) wx :=
  run_half _ r (by omega) (by omega) (by have := units_up h 1; rw [Nat.one_mul] at this; rw [this, Nat.pow_one]) wx

/-- What the finite walks start from, in the walk's own spelling. -/
structure Start (b : Int) (E r1 r2 z : Nat) : Prop where
  k1 : floatOfInt .f64 (b % 4503599627370496) = r1
  k2 : ∀ wx : World, (binOp .quo 23 (.float .f64 r1) (.float .f64 4841369599423283200)).run Tryd.prog wx = .ok (.float .f64 r2) wx
  k3 : ∀ wx : World, (binOp .add 23 (.float .f64 4607182418800017408) (.float .f64 r2)).run Tryd.prog wx = .ok (.float .f64 z) wx
  e1 : b / 4503599627370496 % 2048 = (E : Int)
  lz : z = 1023 * 4503599627370496 + b.toNat % 4503599627370496
  r2l : r2 < 9218868437227405312
  u2 : units r2 = b.toNat % 4503599627370496 * 2 ^ 1022

theorem start (b : Int) (b0 : 0 ≤ b) (b1 : b < 18446744073709551616) : ∃ E r1 r2 z, E < 2048 ∧ Start b E r1 r2 z := by
  obtain ⟨n, hn⟩ : ∃ n, n = b.toNat % 4503599627370496 := ⟨_, rfl⟩
  have hnl : n < 4503599627370496 := by omega
  obtain ⟨c, hc⟩ : ∃ c : Nat, c = 1022 := ⟨_, rfl⟩
  obtain ⟨d, hd⟩ : ∃ d : Nat, d = 1074 := ⟨_, rfl⟩
  obtain ⟨r1, hr1, hu1⟩ := rung_of n (by omega) d (by omega)
  obtain ⟨r2, hr2, hu2⟩ := rung_of n (by omega) c (by omega)
  obtain ⟨z, hz⟩ : ∃ z, z = 1023 * 4503599627370496 + n := ⟨_, rfl⟩
  refine ⟨b.toNat / 4503599627370496 % 2048, r1, r2, z, by omega, ?_, run_over52 r1 r2 hr1 hr2 c d hc hd _ hu1 hu2, add_frac n r2 z c hnl hr2 hc hu2 hz, ?_, ?_, hr2, ?_⟩
  · rw [show b % 4503599627370496 = ((n : Nat) : Int) by clear hu1 hu2; omega]
    exact conv_int _ r1 hr1 (by rw [hu1, hd])
  · clear hu1 hu2; omega
  · clear hu1 hu2; omega
  · rw [hu2, hn, hc]

end Go.Proofs.YtajcbdamgaofcaaDoor
