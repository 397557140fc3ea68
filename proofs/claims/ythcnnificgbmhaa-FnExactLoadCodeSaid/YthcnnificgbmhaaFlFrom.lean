/- The reference's FloatFrom gives the float of a pattern. No condition but that the pattern has 64 bits. -/
import Derived.Test.YthcnnificgbmhaaFlWalk
import Derived.Deep.Draws
set_option linter.unusedVariables false
set_option linter.unusedSimpArgs false
namespace Go.Proofs.Ythcnnificgbmhaa
open Go.RowKit
open FlCore

/-- What nought over nought gives in this world. -/
def nanOf (x y : Nat) (w : World) : Nat := (Question.nanBits .f64 x y).cut (w.tape w.drawn (.nanBits .f64 x y))
theorem nanOf_spec (x y : Nat) (w : World) : nanOf x y w < 18446744073709551616 ∧ isNan (nanOf x y w) = true := by
  unfold nanOf Question.cut isNan
  generalize w.tape w.drawn _ = t
  dsimp only
  rw [decide_eq_true_eq]
  have h1 : t % 2 < 2 := Nat.mod_lt _ (by omega)
  have h2 : t / 2 % (2 ^ 52 - 1) < 2 ^ 52 - 1 := Nat.mod_lt _ (by omega)
  generalize t % 2 = a at *
  generalize t / 2 % (2 ^ 52 - 1) = c at *
  omega
theorem run_zero_zero (w : World) : (binOp .quo 52 (.float .f64 0) (.float .f64 0)).run Try.prog w = .ok (.float .f64 (nanOf 0 0 w)) w.drew := by kernel_rfl

theorem units_normal (E n : Nat) (hE : 1 ≤ E) (hn : n < 4503599627370496) : units (E * 4503599627370496 + n) = (4503599627370496 + n) * 2 ^ (E - 1) := by
  have h := units_up (r := 4503599627370496 + n) (by omega) (E - 1)
  have e : 4503599627370496 + n + (E - 1) * 4503599627370496 = E * 4503599627370496 + n := by omega
  rw [e] at h
  rw [h]
  congr 1
  have := units_up (r := 4503599627370496 + n) (by omega) 0
  have e1 : mag (4503599627370496 + n) = 4503599627370496 + n := by unfold mag; rw [if_neg (by omega)]; omega
  have e2 : ex (4503599627370496 + n) = 0 := by unfold ex; rw [if_neg (by omega)]; omega
  unfold units; rw [e1, e2]; omega

/-- The doubling of a rung, as the walk asks it. -/
theorem run_twice (r q : Nat) (hr : r < 9218868437227405312) (hq : q < 9218868437227405312) (h : units q = units r * 2) (wx : World) :
    (binOp .mul 52 (.float .f64 r) (.float .f64 4611686018427387904)).run Try.prog wx = .ok (.float .f64 q) wx := by
  obtain ⟨c, hc⟩ : ∃ c : Nat, c = 1022 := ⟨_, rfl⟩
  have := mul_exact false r q (c + 1) c hr hq (by omega) hc (by rw [h, Nat.pow_succ, Nat.mul_assoc, Nat.mul_comm 2])
  have e : pow2 (c + 1) = 4611686018427387904 := by rw [hc]; rfl
  rw [e] at this
  refine run_float_arith wx .mul 52 .f64 _ _ _ ?_
  rw [word_def, word_def] at this
  exact this
theorem run_half (r q : Nat) (hr : r < 9218868437227405312) (hq : q < 9218868437227405312) (h : units r = units q * 2) (wx : World) :
    (binOp .quo 52 (.float .f64 r) (.float .f64 4611686018427387904)).run Try.prog wx = .ok (.float .f64 q) wx := by
  obtain ⟨c, hc⟩ : ∃ c : Nat, c = 1022 := ⟨_, rfl⟩
  have := div_exact false r q (c + 1) c hr hq (by omega) hc (by rw [h, Nat.pow_succ, Nat.mul_assoc, Nat.mul_comm 2])
  have e : pow2 (c + 1) = 4611686018427387904 := by rw [hc]; rfl
  rw [e] at this
  refine run_float_arith wx .quo 52 .f64 _ _ _ ?_
  rw [word_def, word_def] at this
  exact this

theorem conv_int (n r : Nat) (hr : r < 9218868437227405312) (h : units r = n * 2 ^ 1074) : floatOfInt .f64 (n : Int) = r := by
  have := int_exact n r hr h
  rw [word_def] at this
  exact this

theorem run_over52 (r q : Nat) (hr : r < 9218868437227405312) (hq : q < 9218868437227405312) (c d : Nat) (hc : c = 1022) (hd : d = 1074) (n : Nat) (h1 : units r = n * 2 ^ d) (h2 : units q = n * 2 ^ c) (wx : World) :
    (binOp .quo 52 (.float .f64 r) (.float .f64 4841369599423283200)).run Try.prog wx = .ok (.float .f64 q) wx := by
  have := div_exact false r q d c hr hq (by omega) hc (by rw [h1, h2]; simp only [Nat.mul_assoc, Nat.mul_comm, Nat.mul_left_comm])
  have e : pow2 d = 4841369599423283200 := by rw [hd]; rfl
  rw [e] at this
  refine run_float_arith wx .quo 52 .f64 _ _ _ ?_
  rw [word_def, word_def] at this
  exact this

set_option maxHeartbeats 1000000 in
set_option maxRecDepth 100000 in
/-- Not a number. -/
theorem sFloatFrom_nan (b : Nat) (w : World) (hb : b < 18446744073709551616) (hE : b / 4503599627370496 % 2048 = 2047) (hn : b % 4503599627370496 ≠ 0) :
    Calls Try.prog 29 #[.int .u64 (b : Int)] w fun e w' => ∃ r, e = .returned (.float .f64 r) ∧ r < 18446744073709551616 ∧ isNan r = true ∧ w' = w.drew := by
  obtain ⟨r1, hr1, hu1⟩ := rung_of (b % 4503599627370496) (by omega) 1074 (by omega)
  obtain ⟨r2, hr2, hu2⟩ := rung_of (b % 4503599627370496) (by omega) 1022 (by omega)
  have k1 : floatOfInt .f64 ((b : Int) % 4503599627370496) = r1 := conv_int _ r1 hr1 hu1
  have k2 := run_over52 r1 r2 hr1 hr2 1022 1074 rfl rfl _ hu1 hu2
  have k3 : (FloatKind.f64.format.order r2 0 != some .eq) = true := by
    have := eq0 r2 (by omega)
    rw [bne, this]
    have h0 : r2 ≠ 0 := by
      intro h; subst h
      rw [(units_zero_iff 0).2 rfl] at hu2
      have := Nat.two_pow_pos 1022
      rcases Nat.mul_eq_zero.1 hu2.symm with h | h <;> omega
    have : ¬ r2 % 9223372036854775808 = 0 := by omega
    simp [this]
  have k4 := run_zero_zero
  have kn := nanOf_spec 0 0 w
  have HK := Aside.mk kn
  have e1 : ((b : Int) / 4503599627370496 % 2048) = 2047 := by omega
  have b0 : 0 ≤ (b : Int) := by omega
  have b1 : (b : Int) < 18446744073709551616 := by omega
  clear kn hu1 hu2 hr1 hr2 hE hn hb
  go_enter Try.func29, Try.ntmps29
  go_wp2
  go_ret
  exact ⟨_, rfl, HK.out.1, HK.out.2, rfl⟩

theorem negF (s : Bool) (r : Nat) (h : r < 9223372036854775808) : Op.negFloat .f64 (Ieee.double.word s r) = Ieee.double.word (!s) r := neg_word s r h
theorem negF0 (r : Nat) (h : r < 9223372036854775808) : Op.negFloat .f64 r = 9223372036854775808 + r := by
  have := negF false r h
  rw [word_def, word_def] at this
  exact this

theorem run_neg (x y : Nat) (h : Op.negFloat .f64 x = y) (wx : World) : (Op.unary .neg (.float .f64 x)).run Try.prog wx = .ok (.float .f64 y) wx := by
  rw [← h]; rfl

set_option maxHeartbeats 1000000 in
set_option maxRecDepth 100000 in
/-- Infinite. -/
theorem sFloatFrom_inf (b : Nat) (w : World) (hb : b < 18446744073709551616) (hE : b / 4503599627370496 % 2048 = 2047) (hn : b % 4503599627370496 = 0) :
    Calls Try.prog 29 #[.int .u64 (b : Int)] w fun e w' => e = .returned (.float .f64 b) ∧ w = w' := by
  have hu : units 0 = 0 := (units_zero_iff 0).2 rfl
  have k1 : floatOfInt .f64 ((b : Int) % 4503599627370496) = 0 := by
    have := conv_int 0 0 (by omega) (by omega)
    rw [show (b : Int) % 4503599627370496 = ((0 : Nat) : Int) by omega]; exact this
  have k2 := run_over52 0 0 (by omega) (by omega) 1022 1074 rfl rfl 0 (by omega) (by omega)
  have k3 : (FloatKind.f64.format.order 0 0 != some .eq) = false := by decide
  have e1 : ((b : Int) / 4503599627370496 % 2048) = 2047 := by omega
  have b0 : 0 ≤ (b : Int) := by omega
  have b1 : (b : Int) < 18446744073709551616 := by omega
  obtain ⟨X, hX⟩ : ∃ X : Nat, X = 9218868437227405312 := ⟨_, rfl⟩
  have k4 : ∀ wx : World, (binOp .quo 52 (.float .f64 4607182418800017408) (.float .f64 0)).run Try.prog wx = .ok (.float .f64 X) wx := by
    have k4 := one_over false
    rw [word_def, word_def] at k4
    rw [hX]
    exact k4
  by_cases hs : b < 9223372036854775808
  · have hbb : b = X := by omega
    have hs' : decide ((9223372036854775808 : Int) ≤ (b : Int)) = false := decide_eq_false (by omega)
    have HB := Aside.mk hbb
    clear hu hE hn hb hs hbb hX
    go_enter Try.func29, Try.ntmps29
    go_wp2
    go_ret
    exact ⟨by rw [HB.out]; rfl, rfl⟩
  · have hs' : decide ((9223372036854775808 : Int) ≤ (b : Int)) = true := decide_eq_true (by omega)
    have k5 := run_neg X b (by rw [negF0 X (by omega)]; omega)
    clear hu hE hn hb hs hX
    go_enter Try.func29, Try.ntmps29
    go_wp2
    go_ret
    exact ⟨rfl, rfl⟩

theorem add_frac (n r2 z c : Nat) (hn : n < 4503599627370496) (hr2 : r2 < 9218868437227405312) (hc : c = 1022) (hu2 : units r2 = n * 2 ^ c) (hz : z = 1023 * 4503599627370496 + n) (wx : World) :
    (binOp .add 52 (.float .f64 4607182418800017408) (.float .f64 r2)).run Try.prog wx = .ok (.float .f64 z) wx := by
  have hu3 : units z = (4503599627370496 + n) * 2 ^ c := by
    have := units_normal (c + 1) n (by omega) hn
    rw [Nat.add_sub_cancel] at this
    have e : (c + 1) * 4503599627370496 + n = z := by omega
    rw [e] at this
    exact this
  refine run_float_arith wx .add 52 .f64 _ _ _ ?_
  have e1 : units 4607182418800017408 = 4503599627370496 * 2 ^ c := by
    have := pow2_units c
    have e : pow2 c = 4607182418800017408 := by rw [hc]; rfl
    rw [e, Nat.pow_add, two52] at this
    exact this
  have := sum_exact 4607182418800017408 r2 z (by omega) hr2 (by omega) (by omega) (by rw [hu3, hu2, e1, Nat.add_mul])
  rw [word_def, word_def, word_def] at this
  exact this

theorem sign_end (b R : Nat) (hR : b % 9223372036854775808 = R) (hb : b < 18446744073709551616) : (b < 9223372036854775808 → R = b) ∧ (9223372036854775808 ≤ b → ∀ wx : World, (Op.unary .neg (.float .f64 R)).run Try.prog wx = .ok (.float .f64 b) wx) := by
  constructor
  · intro h; omega
  · intro h wx
    exact run_neg R b (by rw [negF0 R (by omega)]; omega) wx

theorem rung_twice (r : Nat) (h : 4503599627370496 ≤ r) (h2 : r + 4503599627370496 < 9218868437227405312) (wx : World) :
    (binOp .mul 52 (.float .f64 r) (.float .f64 4611686018427387904)).run Try.prog wx = .ok (.float .f64 (r + 4503599627370496)) wx :=
  run_twice r _ (by omega) (by omega) (by have := units_up h 1; rw [Nat.one_mul] at this; rw [this, Nat.pow_one]) wx
theorem rung_half (r : Nat) (h : 4503599627370496 ≤ r) (h2 : r + 4503599627370496 < 9218868437227405312) (wx : World) :
    (binOp .quo 52 (.float .f64 (r + 4503599627370496)) (.float .f64 4611686018427387904)).run Try.prog wx = .ok (.float .f64 r) wx :=
  run_half _ r (by omega) (by omega) (by have := units_up h 1; rw [Nat.one_mul] at this; rw [this, Nat.pow_one]) wx

/-- What the finite walks start from, in the walk's own spelling. -/
structure Start (b : Int) (E r1 r2 z : Nat) : Prop where
  k1 : floatOfInt .f64 (b % 4503599627370496) = r1
  k2 : ∀ wx : World, (binOp .quo 52 (.float .f64 r1) (.float .f64 4841369599423283200)).run Try.prog wx = .ok (.float .f64 r2) wx
  k3 : ∀ wx : World, (binOp .add 52 (.float .f64 4607182418800017408) (.float .f64 r2)).run Try.prog wx = .ok (.float .f64 z) wx
  e1 : b / 4503599627370496 % 2048 = (E : Int)
  lz : z = 1023 * 4503599627370496 + b.toNat % 4503599627370496
  r2l : r2 < 9218868437227405312
  u2 : units r2 = b.toNat % 4503599627370496 * 2 ^ 1022

theorem start (b : Int) (b0 : 0 ≤ b) (b1 : b < 18446744073709551616) : ∃ E r1 r2 z, E < 2048 ∧ Start b E r1 r2 z := by
  obtain ⟨n, hn⟩ : ∃ n, n = b.toNat % 4503599627370496 := ⟨_, rfl⟩
  have hnl : n < 4503599627370496 := by omega
  obtain ⟨c, hc⟩ : ∃ c : Nat, c = 1022 := ⟨_, rfl⟩
  obtain ⟨d, hd⟩ : ∃ d : Nat, d = 1074 := ⟨_, rfl⟩
  obtain ⟨r1, hr1, hu1⟩ := rung_of n (by omega) d (by omega)
  obtain ⟨r2, hr2, hu2⟩ := rung_of n (by omega) c (by omega)
  obtain ⟨z, hz⟩ : ∃ z, z = 1023 * 4503599627370496 + n := ⟨_, rfl⟩
  refine ⟨b.toNat / 4503599627370496 % 2048, r1, r2, z, by omega, ?_, run_over52 r1 r2 hr1 hr2 c d hc hd _ hu1 hu2, add_frac n r2 z c hnl hr2 hc hu2 hz, ?_, ?_, hr2, ?_⟩
  · rw [show b % 4503599627370496 = ((n : Nat) : Int) by clear hu1 hu2; omega]
    exact conv_int _ r1 hr1 (by rw [hu1, hd])
  · clear hu1 hu2; omega
  · clear hu1 hu2; omega
  · rw [hu2, hn, hc]

set_option maxHeartbeats 2000000 in
set_option maxRecDepth 100000 in
/-- Finite, great. -/
theorem sFloatFrom_up (b : Int) (w : World) (b0 : 0 ≤ b) (b1 : b < 18446744073709551616) (E r1 r2 z : Nat) (hS : Start b E r1 r2 z) (hE : E < 2047) (hE0 : 1023 ≤ E) :
    Calls Try.prog 29 #[.int .u64 b] w fun e w' => e = .returned (.float .f64 b.toNat) ∧ w = w' := by
  obtain ⟨k1, k2, k3, e1, lz, r2l, u2⟩ := hS
  clear u2
  obtain ⟨R, hR⟩ : ∃ R, R = b.toNat % 9223372036854775808 := ⟨_, rfl⟩
  have hRz : R = z + (E - 1023) * 4503599627370496 := by omega
  have hs := sign_end b.toNat R hR.symm (by omega)
  have E1 : (1023 : Int) ≤ (E : Int) := by omega
  have E2 : (E : Int) < 2047 := by omega
  have E3 : ((E : Int) == 2047) = false := by rw [beq_eq_false_iff_ne]; omega
  have HS := Aside.mk hs
  have HR := Aside.mk hRz
  have HZ := Aside.mk lz
  clear hs hRz hR lz r2l
  go_enter Try.func29, Try.ntmps29
  go_wp2
  go_loop [3, 5] (fun e v => ∃ k x : Nat, 1023 ≤ k ∧ k ≤ E ∧ e = .int .i64 k ∧ v = .float .f64 x ∧ Aside (x = z + (E - k) * 4503599627370496)) (fun e _ => (intOf e).toNat)
  case atStart => exact ⟨E, z, by omega, by omega, rfl, rfl, ⟨by omega⟩⟩
  case round =>
    obtain ⟨k, x, hk1, hk2, rfl, rfl, HX⟩ := hrel
    by_cases hlt : 1023 < k
    · obtain ⟨y, hy⟩ : ∃ y, y = x + 4503599627370496 := ⟨_, rfl⟩
      have kt : ∀ wx : World, (binOp .mul 52 (.float .f64 x) (.float .f64 4611686018427387904)).run Try.prog wx = .ok (.float .f64 y) wx := by
        have hz := HZ.out
        have hx := HX.out
        rw [hy]
        exact rung_twice x (by omega) (by omega)
      have HY := Aside.mk hy
      clear hy
      go_wp2
      go_round
      case rel => exact ⟨k - 1, y, by omega, by omega, by go_num, rfl, ⟨by have := HX.out; have := HY.out; omega⟩⟩
      case measure => simp [intOf]; omega
    · obtain rfl : k = 1023 := by omega
      have HX : Aside (x = R) := ⟨by rw [HR.out]; exact HX.out⟩
      go_wp2
      go_loop [3, 5] (fun e v => e = .int .i64 1023 ∧ v = .float .f64 x) (fun _ _ => 0)
      case atStart => exact ⟨rfl, rfl⟩
      case round =>
        obtain ⟨rfl, rfl⟩ := hrel
        by_cases hb2 : b < 9223372036854775808
        · have hs' : decide ((9223372036854775808 : Int) ≤ b) = false := decide_eq_false (by omega)
          have HF := Aside.mk (HS.out.1 (by omega))
          clear hb2
          go_wp2
          go_ret
          exact ⟨by rw [← HF.out, ← HX.out]; rfl, rfl⟩
        · have hs' : decide ((9223372036854775808 : Int) ≤ b) = true := decide_eq_true (by omega)
          have kn := HS.out.2 (by omega)
          rw [← HX.out] at kn
          clear hb2
          go_wp2
          go_ret
          exact ⟨rfl, rfl⟩

set_option maxHeartbeats 2000000 in
set_option maxRecDepth 100000 in
/-- Finite, a normal number below 1. -/
theorem sFloatFrom_down (b : Int) (w : World) (b0 : 0 ≤ b) (b1 : b < 18446744073709551616) (E r1 r2 z : Nat) (hS : Start b E r1 r2 z) (hE : E < 1023) (hE0 : 1 ≤ E) :
    Calls Try.prog 29 #[.int .u64 b] w fun e w' => e = .returned (.float .f64 b.toNat) ∧ w = w' := by
  obtain ⟨k1, k2, k3, e1, lz, r2l, u2⟩ := hS
  clear u2
  obtain ⟨R, hR⟩ : ∃ R, R = b.toNat % 9223372036854775808 := ⟨_, rfl⟩
  have hRz : z = R + (1023 - E) * 4503599627370496 ∧ 4503599627370496 ≤ R := by omega
  have hs := sign_end b.toNat R hR.symm (by omega)
  have E1 : (1 : Int) ≤ (E : Int) := by omega
  have E2 : (E : Int) < 1023 := by omega
  have E3 : ((E : Int) == 2047) = false := by rw [beq_eq_false_iff_ne]; omega
  have HS := Aside.mk hs
  have HR := Aside.mk hRz
  have HZ := Aside.mk lz
  clear hs hRz hR lz r2l
  go_enter Try.func29, Try.ntmps29
  go_wp2
  go_loop [3, 5] (fun e v => e = .int .i64 E ∧ v = .float .f64 z) (fun _ _ => 0)
  case atStart => exact ⟨rfl, rfl⟩
  case round =>
    obtain ⟨rfl, rfl⟩ := hrel
    go_wp2
    go_loop [3, 5] (fun e v => ∃ k x : Nat, E ≤ k ∧ k ≤ 1023 ∧ e = .int .i64 k ∧ v = .float .f64 x ∧ Aside (x = R + (1023 - k) * 4503599627370496)) (fun e _ => 1023 - (intOf e).toNat)
    case atStart => exact ⟨E, z, by omega, by omega, rfl, rfl, ⟨HR.out.1⟩⟩
    case round =>
      obtain ⟨k, x, hk1, hk2, rfl, rfl, HX⟩ := hrel
      by_cases hlt : k < 1023
      · obtain ⟨y, hy⟩ : ∃ y, x = y + 4503599627370496 := ⟨x - 4503599627370496, by have := HX.out; omega⟩
        have kt : ∀ wx : World, (binOp .quo 52 (.float .f64 x) (.float .f64 4611686018427387904)).run Try.prog wx = .ok (.float .f64 y) wx := by
          have hz := HZ.out
          have hr := HR.out
          have hx := HX.out
          rw [hy]
          exact rung_half y (by omega) (by omega)
        have HY := Aside.mk hy
        clear hy
        go_wp2
        go_round
        case rel => exact ⟨k + 1, y, by omega, by omega, by go_num, rfl, ⟨by have := HX.out; have := HY.out; omega⟩⟩
        case measure => simp [intOf]; omega
      · obtain rfl : k = 1023 := by omega
        have HX : Aside (x = R) := ⟨by have := HX.out; omega⟩
        by_cases hb2 : b < 9223372036854775808
        · have hs' : decide ((9223372036854775808 : Int) ≤ b) = false := decide_eq_false (by omega)
          have HF := Aside.mk (HS.out.1 (by omega))
          clear hb2
          go_wp2
          go_ret
          exact ⟨by rw [← HF.out, ← HX.out]; rfl, rfl⟩
        · have hs' : decide ((9223372036854775808 : Int) ≤ b) = true := decide_eq_true (by omega)
          have kn := HS.out.2 (by omega)
          rw [← HX.out] at kn
          clear hb2
          go_wp2
          go_ret
          exact ⟨rfl, rfl⟩

set_option maxHeartbeats 2000000 in
set_option maxRecDepth 100000 in
/-- Finite, none of the normal numbers. -/
theorem sFloatFrom_sub (b : Int) (w : World) (b0 : 0 ≤ b) (b1 : b < 18446744073709551616) (r1 r2 z : Nat) (hS : Start b 0 r1 r2 z) :
    Calls Try.prog 29 #[.int .u64 b] w fun e w' => e = .returned (.float .f64 b.toNat) ∧ w = w' := by
  obtain ⟨k1, k2, k3, e1, lz, r2l, u2⟩ := hS
  obtain ⟨R, hR⟩ : ∃ R, R = b.toNat % 9223372036854775808 := ⟨_, rfl⟩
  have hRn : R = b.toNat % 4503599627370496 := by clear u2; omega
  have hs := sign_end b.toNat R hR.symm (by clear u2; omega)
  rw [← hRn] at u2
  have HU := Aside.mk u2
  have HS := Aside.mk hs
  have HR := Aside.mk (show R < 4503599627370496 by clear u2; omega)
  have HL := Aside.mk r2l
  have e2 : b / 4503599627370496 % 2048 = 0 := e1
  clear hs hRn hR lz u2 r2l e1 k3
  go_enter Try.func29, Try.ntmps29
  go_wp2
  go_loop [3, 5] (fun e v => e = .int .i64 1 ∧ v = .float .f64 r2) (fun _ _ => 0)
  case atStart => exact ⟨rfl, rfl⟩
  case round =>
    obtain ⟨rfl, rfl⟩ := hrel
    go_wp2
    go_loop [3, 5] (fun e v => ∃ k x : Nat, 1 ≤ k ∧ k ≤ 1023 ∧ e = .int .i64 k ∧ v = .float .f64 x ∧ Aside (x < 9218868437227405312 ∧ units x = R * 2 ^ (1023 - k))) (fun e _ => 1023 - (intOf e).toNat)
    case atStart => exact ⟨1, r2, by omega, by omega, rfl, rfl, ⟨HL.out, by rw [show (1023 - 1 : Nat) = 1022 from rfl]; exact HU.out⟩⟩
    case round =>
      obtain ⟨k, x, hk1, hk2, rfl, rfl, HX⟩ := hrel
      by_cases hlt : k < 1023
      · obtain ⟨y, hy, huy⟩ := rung_of R (by have := HR.out; omega) (1023 - (k + 1)) (by omega)
        have kt : ∀ wx : World, (binOp .quo 52 (.float .f64 x) (.float .f64 4611686018427387904)).run Try.prog wx = .ok (.float .f64 y) wx := by
          have hx := HX.out
          refine run_half x y hx.1 hy ?_
          rw [hx.2, huy, Nat.mul_assoc, ← Nat.pow_succ]
          congr 2
          omega
        have HY := Aside.mk (And.intro hy huy)
        clear hy huy
        go_wp2
        go_round
        case rel => exact ⟨k + 1, y, by omega, by omega, by go_num, rfl, HY⟩
        case measure => simp [intOf]; omega
      · obtain rfl : k = 1023 := by omega
        have HX : Aside (x = R) := ⟨by
          have h := HX.out.2
          rw [Nat.sub_self, Nat.pow_zero, Nat.mul_one, ← units_small HR.out] at h
          exact units_inj h⟩
        by_cases hb2 : b < 9223372036854775808
        · have hs' : decide ((9223372036854775808 : Int) ≤ b) = false := decide_eq_false (by omega)
          have HF := Aside.mk (HS.out.1 (by omega))
          clear hb2
          go_wp2
          go_ret
          exact ⟨by rw [← HF.out, ← HX.out]; rfl, rfl⟩
        · have hs' : decide ((9223372036854775808 : Int) ≤ b) = true := decide_eq_true (by omega)
          have kn := HS.out.2 (by omega)
          rw [← HX.out] at kn
          clear hb2
          go_wp2
          go_ret
          exact ⟨rfl, rfl⟩

/-- Whatever the pattern: the same float, all NaNs being one. -/
theorem sFloatFrom_any (b : Int) (w : World) (b0 : 0 ≤ b) (b1 : b < 18446744073709551616) :
    Calls Try.prog 29 #[.int .u64 b] w fun e w' => ∃ r n, e = .returned (.float .f64 r) ∧ r < 18446744073709551616 ∧ canon r = canon b.toNat ∧ w' = w.drewN n := by
  obtain ⟨E, r1, r2, z, hE, hS⟩ := start b b0 b1
  have hb : (b.toNat : Int) = b := by omega
  have e1 := hS.e1
  by_cases h1 : E = 2047
  · by_cases h2 : b.toNat % 4503599627370496 = 0
    · have := sFloatFrom_inf b.toNat w (by omega) (by omega) h2
      rw [hb] at this
      exact this.mono fun e w' ⟨h3, h4⟩ => ⟨_, 0, h3, by omega, rfl, h4.symm⟩
    · have := sFloatFrom_nan b.toNat w (by omega) (by omega) h2
      rw [hb] at this
      exact this.mono fun e w' ⟨r, h3, h4, h5, h6⟩ => ⟨r, 1, h3, h4, by
        have : isNan b.toNat = true := by unfold isNan; rw [decide_eq_true_eq]; omega
        rw [canon_nan h5, canon_nan this], h6⟩
  · have fin : ∀ (e : Ending) (w' : World), (e = .returned (.float .f64 b.toNat) ∧ w = w') → ∃ r n, e = .returned (.float .f64 r) ∧ r < 18446744073709551616 ∧ canon r = canon b.toNat ∧ w' = w.drewN n :=
      fun e w' ⟨h3, h4⟩ => ⟨_, 0, h3, by omega, rfl, h4.symm⟩
    by_cases h3 : 1023 ≤ E
    · exact (sFloatFrom_up b w b0 b1 E r1 r2 z hS (by omega) h3).mono fin
    · by_cases h4 : 1 ≤ E
      · exact (sFloatFrom_down b w b0 b1 E r1 r2 z hS (by omega) h4).mono fin
      · obtain rfl : E = 0 := by omega
        exact (sFloatFrom_sub b w b0 b1 r1 r2 z hS).mono fin

end Go.Proofs.Ythcnnificgbmhaa
