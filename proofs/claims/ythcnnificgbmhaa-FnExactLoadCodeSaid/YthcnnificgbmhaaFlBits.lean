/- The reference's FloatBits gives the pattern of a float, one pattern for all NaNs. No condition but that a float's word has 64 bits. -/
import Derived.Test.YthcnnificgbmhaaFlFrom
set_option linter.unusedVariables false
set_option linter.unusedSimpArgs false
namespace Go.Proofs.Ythcnnificgbmhaa
open Go.RowKit
open FlCore

theorem order_fin_pos (r q : Nat) (hr : r ≤ 9218868437227405312) (hq : q ≤ 9218868437227405312) :
    (FloatKind.f64.format.order r q == some .eq) = (r == q) ∧ (FloatKind.f64.format.order r q == some .lt) = decide (r < q) ∧ (FloatKind.f64.format.order r q == some .gt) = decide (q < r) := by
  have h : FloatKind.f64.format.order r q = some (compare r q) := order_pos r q hr hq
  rw [h]
  rcases Nat.lt_trichotomy r q with g | g | g
  · rw [Nat.compare_eq_lt.2 g]
    refine ⟨?_, ?_, ?_⟩
    · rw [show (r == q) = false by rw [beq_eq_false_iff_ne]; omega]; rfl
    · rw [decide_eq_true g]; rfl
    · rw [decide_eq_false (by omega)]; rfl
  · subst g
    rw [Nat.compare_eq_eq.2 rfl]
    refine ⟨?_, ?_, ?_⟩
    · simp
    · rw [decide_eq_false (by omega)]; rfl
    · rw [decide_eq_false (by omega)]; rfl
  · rw [Nat.compare_eq_gt.2 g]
    refine ⟨?_, ?_, ?_⟩
    · rw [show (r == q) = false by rw [beq_eq_false_iff_ne]; omega]; rfl
    · rw [decide_eq_false (by omega)]; rfl
    · rw [decide_eq_true g]; rfl

theorem half_any (r : Nat) (hr : r < 9218868437227405312) (h0 : r ≠ 0) : ∃ q, q < r ∧ ∀ wx : World,
    (binOp .quo 52 (.float .f64 r) (.float .f64 4611686018427387904)).run Try.prog wx = .ok (.float .f64 q) wx := by
  by_cases h : r < 9007199254740992
  · obtain ⟨c, hc⟩ : ∃ c : Nat, c = 1023 := ⟨_, rfl⟩
    obtain ⟨q, h1, h2⟩ := half_small r h h0 c hc
    refine ⟨q, h1, fun wx => run_float_arith wx .quo 52 .f64 _ _ _ ?_⟩
    have e : pow2 c = 4611686018427387904 := by rw [hc]; rfl
    rw [word_def, word_def, e] at h2
    exact h2
  · refine ⟨r - 4503599627370496, by omega, fun wx => ?_⟩
    have := rung_half (r - 4503599627370496) (by omega) (by omega) wx
    rwa [show r - 4503599627370496 + 4503599627370496 = r by omega] at this

theorem l1infinite_any (r : Nat) (w : World) (hr : r ≤ 9218868437227405312) :
    Calls Try.prog 71 #[.float .f64 r] w fun e w' => e = .returned (.bool (decide (r = 9218868437227405312))) ∧ w = w' := by
  have hz := (order_fin_pos r 0 hr (by omega)).1
  by_cases h0 : r = 0
  · have hz : (FloatKind.f64.format.order r 0 != some .eq) = false := by rw [bne, hz, h0]; rfl
    have HF : Aside (decide (r = 9218868437227405312) = false) := ⟨decide_eq_false (by omega)⟩
    clear h0 hr
    go_enter Try.func71, Try.ntmps71
    go_wp2
    go_ret
    exact ⟨by rw [HF.out]; rfl, rfl⟩
  · have hz : (FloatKind.f64.format.order r 0 != some .eq) = true := by rw [bne, hz, show (r == 0) = false by rw [beq_eq_false_iff_ne]; exact h0]; rfl
    by_cases h1 : r = 9218868437227405312
    · have HF : Aside (decide (r = 9218868437227405312) = true) := ⟨decide_eq_true h1⟩
      have kh : ∀ wx : World, (binOp .quo 52 (.float .f64 r) (.float .f64 4611686018427387904)).run Try.prog wx = .ok (.float .f64 r) wx := by
        intro wx
        obtain ⟨c, hc⟩ : ∃ c : Nat, c = 1023 := ⟨_, rfl⟩
        have e : pow2 c = 4611686018427387904 := by rw [hc]; rfl
        have := half_inf c (by omega)
        rw [e, ← h1] at this
        exact run_float_arith wx .quo 52 .f64 _ _ _ this
      have he : (FloatKind.f64.format.order r r == some .eq) = true := by rw [(order_fin_pos r r hr hr).1]; simp
      clear h0 hr h1
      go_enter Try.func71, Try.ntmps71
      go_wp2
      go_ret
      exact ⟨by rw [HF.out]; rfl, rfl⟩
    · have HF : Aside (decide (r = 9218868437227405312) = false) := ⟨decide_eq_false h1⟩
      obtain ⟨q, hq, kh⟩ := half_any r (by omega) h0
      have he : (FloatKind.f64.format.order q r == some .eq) = false := by
        rw [(order_fin_pos q r (by omega) hr).1, beq_eq_false_iff_ne]; omega
      clear h0 hr h1 hq
      go_enter Try.func71, Try.ntmps71
      go_wp2
      go_ret
      exact ⟨by rw [HF.out]; rfl, rfl⟩

/-- The rung of a number, apart from its sign. -/
def rungOf (b : Nat) : Nat := b % 9223372036854775808

theorem frac_back (n r1 r2 c d : Nat) (hr1 : r1 < 9218868437227405312) (hr2 : r2 < 9218868437227405312) (hc : c = 1022) (hd : d = 1074) (h1 : units r1 = n * 2 ^ d) (h2 : units r2 = n * 2 ^ c) (wx : World) :
    (binOp .mul 52 (.float .f64 r2) (.float .f64 4841369599423283200)).run Try.prog wx = .ok (.float .f64 r1) wx := by
  have := mul_exact false r2 r1 d c hr2 hr1 (by omega) hc (by rw [h1, h2]; simp only [Nat.mul_assoc, Nat.mul_comm, Nat.mul_left_comm])
  have e : pow2 d = 4841369599423283200 := by rw [hd]; rfl
  rw [e] at this
  refine run_float_arith wx .mul 52 .f64 _ _ _ ?_
  rw [word_def, word_def] at this
  exact this

theorem less_one (n r2 z c : Nat) (hn : n < 4503599627370496) (hr2 : r2 < 9218868437227405312) (hc : c = 1022) (hu2 : units r2 = n * 2 ^ c) (hz : z = 1023 * 4503599627370496 + n) (wx : World) :
    (binOp .sub 52 (.float .f64 z) (.float .f64 4607182418800017408)).run Try.prog wx = .ok (.float .f64 r2) wx := by
  have hu3 : units z = (4503599627370496 + n) * 2 ^ c := by
    have := units_normal (c + 1) n (by omega) hn
    rw [Nat.add_sub_cancel] at this
    have e : (c + 1) * 4503599627370496 + n = z := by omega
    rw [e] at this
    exact this
  refine run_float_arith wx .sub 52 .f64 _ _ _ ?_
  have e1 : units 4607182418800017408 = 4503599627370496 * 2 ^ c := by
    have := pow2_units c
    have e : pow2 c = 4607182418800017408 := by rw [hc]; rfl
    rw [e, Nat.pow_add, two52] at this
    exact this
  have := diff_exact z 4607182418800017408 r2 (by omega) (by omega) hr2 (by rw [hu3, hu2, e1, Nat.add_mul])
  rw [word_def, word_def, word_def] at this
  exact this

theorem run_to_u64 (r n d : Nat) (hr : r < 9218868437227405312) (hd : d = 1074) (hn : n < 18446744073709551616) (h : units r = n * 2 ^ d) (wx : World) :
    (convert 52 55 (.float .f64 r)).run Try.prog wx = .ok (.int .u64 (n : Int)) wx := by
  refine run_convert_float_int wx 52 55 .f64 .u64 r n (by kernel_rfl) (by kernel_rfl) ?_
  have := toInt_exact r n hr (by rw [h, hd])
  rw [word_def] at this
  unfold floatToIntVal
  have e : (FloatKind.f64.decode r).toInt .zero = some (n : Int) := this
  rw [e]
  dsimp only
  rw [if_pos ⟨by show (0 : Int) ≤ n; omega, by show (n : Int) ≤ 18446744073709551615; omega⟩]

theorem or_sign (s v : Nat) (hs : s = 0 ∨ s = 9223372036854775808) (hv : v < 9223372036854775808) : bits .or .u64 (s : Int) (v : Int) = ((s + v : Nat) : Int) := by
  rw [u64_or_nat s v (by omega) (by omega), nat_join 63 s v (by omega) (by omega)]
theorem or_exp (s E : Nat) (hs : s = 0 ∨ s = 9223372036854775808) (hE : E < 2048) : bits .or .u64 (s : Int) ((E * 4503599627370496 : Nat) : Int) = ((s + E * 4503599627370496 : Nat) : Int) := by
  rw [u64_or_nat s _ (by omega) (by omega), nat_join 63 s _ (by omega) (by omega)]
theorem or_frac (x n : Nat) (hx : x % 4503599627370496 = 0) (hx2 : x < 18446744073709551616) (hn : n < 4503599627370496) : bits .or .u64 (x : Int) (n : Int) = ((x + n : Nat) : Int) := by
  rw [u64_or_nat x n (by omega) (by omega), nat_join 52 x n (by omega) (by omega)]

set_option maxHeartbeats 2000000 in
set_option maxRecDepth 100000 in
theorem sFloatBits_nan (b : Nat) (w : World) (hb : b < 18446744073709551616) (hn : isNan b = true) :
    Calls Try.prog 58 #[.float .f64 b] w fun e w' => e = .returned (.int .u64 (canon b)) ∧ w = w' := by
  have HC := Aside.mk (canon_nan hn)
  have HN := Aside.mk hn
  clear hn
  go_enter Try.func58, Try.ntmps58
  go_wp2_with fail
  refine (l1nan_any _ _ hb).mono ?_
  rintro e w' ⟨rfl, rfl⟩
  rw [HN.out]
  go_wp2
  go_ret
  exact ⟨by rw [HC.out]; rfl, rfl⟩


set_option maxHeartbeats 2000000 in
set_option maxRecDepth 100000 in
/-- A normal number, its sign false. -/
theorem sFloatBits_false (r : Nat) (w : World) (hr : r ≤ 9218868437227405312) :
    Calls Try.prog 58 #[.float .f64 (Ieee.double.word false r)] w fun e w' => e = .returned (.int .u64 (Ieee.double.word false r)) ∧ w = w' := by
  have hb := word_lt' false r (by omega)
  have HN := Aside.mk (isNan_lo false r hr)
  have hW0 := word_def false r
  obtain ⟨X, hX⟩ : ∃ X : Nat, X = Ieee.double.word false r := ⟨_, rfl⟩
  rw [← hX] at hb HN hW0 ⊢
  have hW : X = 0 + r := by rw [hW0]; simp
  clear hW0
  have HL := l1minus_any false r w hr
  rw [← hX] at HL
  have HL := Aside.mk HL
  have hX0 : X = r := by omega
  subst hX0
  have HW := Aside.mk hW
  have HR := Aside.mk hr
  have ho := order_fin_pos X 4611686018427387904 hr (by omega)
  have hp := order_fin_pos X 4607182418800017408 hr (by omega)
  by_cases hI : X = 9218868437227405312
  · have HI : Aside (decide (X = 9218868437227405312) = true) := ⟨decide_eq_true hI⟩
    have hor : bits .or .u64 0 9218868437227405312 = (X : Int) := by
      have := or_exp 0 2047 (by omega) (by omega)
      rw [hW, hI]
      exact this
    clear hr hX hI hW ho hp
    go_enter Try.func58, Try.ntmps58
    go_wp2_with fail
    refine (l1nan_any _ _ hb).mono ?_
    rintro e w' ⟨rfl, rfl⟩
    rw [HN.out]
    go_wp2_with fail
    refine HL.out.mono ?_
    rintro e w' ⟨rfl, rfl⟩
    go_wp2_with fail
    refine (l1infinite_any X _ HR.out).mono ?_
    rintro e w' ⟨rfl, rfl⟩
    rw [HI.out]
    go_wp2
    go_ret
    exact ⟨rfl, rfl⟩
  · have HI : Aside (decide (X = 9218868437227405312) = false) := ⟨decide_eq_false hI⟩
    have hrf : X < 9218868437227405312 := by omega
    have HF := Aside.mk hrf
    have HHOR : Aside (∀ E n : Nat, 1 ≤ E → E < 2047 → n < 4503599627370496 → X = E * 4503599627370496 + n → bits .or .u64 (bits .or .u64 0 ((E : Int) * 4503599627370496)) (n : Int) = (X : Int)) := ⟨by
      intro E n h1 h2 h3 h4
      have e1 := or_exp 0 E (by omega) (by omega)
      have e3 : ((E * 4503599627370496 : Nat) : Int) = (E : Int) * 4503599627370496 := by omega
      rw [e3] at e1
      have e2 := or_frac (0 + E * 4503599627370496) n (by omega) (by omega) h3
      rw [← e1] at e2
      refine Eq.trans e2 ?_
      omega⟩
    have HHOS : Aside (X < 4503599627370496 → bits .or .u64 0 (X : Int) = (X : Int)) := ⟨by
      intro h1
      have e1 := or_sign 0 X (by omega) (by omega)
      refine Eq.trans e1 ?_
      omega⟩
    clear hr hI hX hW
    clear ho hp
    obtain ⟨n, hn⟩ : ∃ n, n = X % 4503599627370496 := ⟨_, rfl⟩
    obtain ⟨E, hE⟩ : ∃ E, E = X / 4503599627370496 := ⟨_, rfl⟩
    by_cases hge : 1023 ≤ E
    · have HE := Aside.mk (HHOR.out E n (by omega) (by omega) (by omega) (by omega))
      have HQ := Aside.mk (show X = E * 4503599627370496 + n ∧ n < 4503599627370496 ∧ E < 2047 by omega)
      obtain ⟨c, hc⟩ : ∃ c : Nat, c = 1022 := ⟨_, rfl⟩
      obtain ⟨d, hd⟩ : ∃ d : Nat, d = 1074 := ⟨_, rfl⟩
      obtain ⟨r1, hr1, hu1⟩ := rung_of n (by omega) d (by omega)
      obtain ⟨r2, hr2, hu2⟩ := rung_of n (by omega) c (by omega)
      obtain ⟨z, hz⟩ : ∃ z, z = 1023 * 4503599627370496 + n := ⟨_, rfl⟩
      have k1 := less_one n r2 z c (by omega) hr2 hc hu2 hz
      have k2 := frac_back n r1 r2 c d hr1 hr2 hc hd hu1 hu2
      have k3 := run_to_u64 r1 n d hr1 hd (by omega) hu1
      have HZ := Aside.mk hz
      have EE : (E : Int) < 2047 := by omega
      clear hu1 hu2 hr1 hr2 hc hd hn hE hrf hz
      go_enter Try.func58, Try.ntmps58
      go_wp2_with fail
      refine (l1nan_any _ _ hb).mono ?_
      rintro e w' ⟨rfl, rfl⟩
      rw [HN.out]
      go_wp2_with fail
      refine HL.out.mono ?_
      rintro e w' ⟨rfl, rfl⟩
      go_wp2_with fail
      refine (l1infinite_any X _ HR.out).mono ?_
      rintro e w' ⟨rfl, rfl⟩
      rw [HI.out]
      go_wp2
      go_loop [4, 5] (fun m e => ∃ k x : Nat, k + 1023 ≤ E ∧ e = .int .i64 k ∧ m = .float .f64 x ∧ Aside (x + k * 4503599627370496 = X)) (fun _ e => E - (intOf e).toNat)
      case atStart => exact ⟨0, X, by omega, rfl, rfl, ⟨by omega⟩⟩
      case round =>
        obtain ⟨k, x, hk, rfl, rfl, HX⟩ := hrel
        by_cases hlt : k + 1023 < E
        · obtain ⟨y, hy⟩ : ∃ y, x = y + 4503599627370496 := ⟨x - 4503599627370496, by have := HX.out; have := HQ.out; omega⟩
          have kt : ∀ wx : World, (binOp .quo 52 (.float .f64 x) (.float .f64 4611686018427387904)).run Try.prog wx = .ok (.float .f64 y) wx := by
            have hx := HX.out
            have hq := HQ.out
            rw [hy]
            exact rung_half y (by omega) (by omega)
          have ht : (FloatKind.f64.format.order x 4611686018427387904 == some .gt || FloatKind.f64.format.order x 4611686018427387904 == some .eq) = true := by
            have hx := HX.out
            have hq := HQ.out
            have ho := order_fin_pos x 4611686018427387904 (by omega) (by omega)
            rw [ho.1, ho.2.2]
            rcases Nat.lt_or_ge 4611686018427387904 x with h | h
            · rw [decide_eq_true h]; rfl
            · rw [show (x == 4611686018427387904) = true by rw [beq_iff_eq]; omega]; simp
          have HY := Aside.mk hy
          clear hy
          go_wp2
          go_round
          case rel => exact ⟨k + 1, y, by omega, by go_num, rfl, ⟨by have := HX.out; have := HY.out; omega⟩⟩
          case measure => simp [intOf]; omega
        · have hk2 : E = k + 1023 := by omega
          have HXZ : Aside (x = z) := ⟨by have := HX.out; have := HQ.out; have := HZ.out; omega⟩
          have ht : (FloatKind.f64.format.order x 4611686018427387904 == some .gt || FloatKind.f64.format.order x 4611686018427387904 == some .eq) = false := by
            have hx := HX.out
            have hq := HQ.out
            have ho := order_fin_pos x 4611686018427387904 (by omega) (by omega)
            rw [ho.1, ho.2.2, decide_eq_false (by omega), show (x == 4611686018427387904) = false by rw [beq_eq_false_iff_ne]; omega]; rfl
          have hl : (FloatKind.f64.format.order x 4607182418800017408 == some .lt) = false := by
            have hx := HX.out
            have hq := HQ.out
            have ho := order_fin_pos x 4607182418800017408 (by omega) (by omega)
            rw [ho.2.1, decide_eq_false (by omega)]
          rw [← HXZ.out] at k1
          have HK := Aside.mk hk2
          clear hk2 hlt
          go_wp2
          go_loop [4, 5] (fun m e => e = .int .i64 k ∧ m = .float .f64 x) (fun _ _ => 0)
          case atStart => exact ⟨rfl, rfl⟩
          case round =>
            obtain ⟨rfl, rfl⟩ := hrel
            go_wp2
            go_ret
            refine ⟨congrArg Ending.returned (congrArg (Value.int .u64) ?_), rfl⟩
            rw [show ((k : Int) + 1023) = (E : Int) by have := HK.out; omega]
            exact HE.out
    · have hA : (FloatKind.f64.format.order X 4611686018427387904 == some .gt || FloatKind.f64.format.order X 4611686018427387904 == some .eq) = false := by
        have ho := order_fin_pos X 4611686018427387904 (by omega) (by omega)
        rw [ho.1, ho.2.2, decide_eq_false (by omega), show (X == 4611686018427387904) = false by rw [beq_eq_false_iff_ne]; omega]; rfl
      by_cases hE1 : 1 ≤ E
      · have HE := Aside.mk (HHOR.out E n (by omega) (by omega) (by omega) (by omega))
        have HQ := Aside.mk (show X = E * 4503599627370496 + n ∧ n < 4503599627370496 ∧ E < 1023 ∧ 1 ≤ E by omega)
        obtain ⟨c, hc⟩ : ∃ c : Nat, c = 1022 := ⟨_, rfl⟩
        obtain ⟨d, hd⟩ : ∃ d : Nat, d = 1074 := ⟨_, rfl⟩
        obtain ⟨r1, hr1, hu1⟩ := rung_of n (by omega) d (by omega)
        obtain ⟨r2, hr2, hu2⟩ := rung_of n (by omega) c (by omega)
        obtain ⟨z, hz⟩ : ∃ z, z = 1023 * 4503599627370496 + n := ⟨_, rfl⟩
        have k1 := less_one n r2 z c (by omega) hr2 hc hu2 hz
        have k2 := frac_back n r1 r2 c d hr1 hr2 hc hd hu1 hu2
        have k3 := run_to_u64 r1 n d hr1 hd (by omega) hu1
        have HZ := Aside.mk hz
        have EE : (E : Int) < 1023 := by omega
        have E1 : (1 : Int) ≤ (E : Int) := by omega
        clear hu1 hu2 hr1 hr2 hc hd hn hE hrf hz hge hE1
        go_enter Try.func58, Try.ntmps58
        go_wp2_with fail
        refine (l1nan_any _ _ hb).mono ?_
        rintro e w' ⟨rfl, rfl⟩
        rw [HN.out]
        go_wp2_with fail
        refine HL.out.mono ?_
        rintro e w' ⟨rfl, rfl⟩
        go_wp2_with fail
        refine (l1infinite_any X _ HR.out).mono ?_
        rintro e w' ⟨rfl, rfl⟩
        rw [HI.out]
        go_wp2
        go_loop [4, 5] (fun m e => e = .int .i64 0 ∧ m = .float .f64 X) (fun _ _ => 0)
        case atStart => exact ⟨rfl, rfl⟩
        case round =>
          obtain ⟨rfl, rfl⟩ := hrel
          go_wp2
          go_loop [4, 5] (fun m e => ∃ k x : Nat, k + E ≤ 1023 ∧ e = .int .i64 (-(k : Int)) ∧ m = .float .f64 x ∧ Aside (x = X + k * 4503599627370496)) (fun _ e => (1023 + intOf e).toNat)
          case atStart => exact ⟨0, X, by have := HQ.out; omega, rfl, rfl, ⟨by omega⟩⟩
          case round =>
            obtain ⟨k, x, hk, rfl, rfl, HX⟩ := hrel
            by_cases hlt : k + E < 1023
            · obtain ⟨y, hy⟩ : ∃ y, y = x + 4503599627370496 := ⟨_, rfl⟩
              have kt : ∀ wx : World, (binOp .mul 52 (.float .f64 x) (.float .f64 4611686018427387904)).run Try.prog wx = .ok (.float .f64 y) wx := by
                have hx := HX.out
                have hq := HQ.out
                rw [hy]
                exact rung_twice x (by omega) (by omega)
              have hl : (FloatKind.f64.format.order x 4607182418800017408 == some .lt) = true := by
                have hx := HX.out
                have hq := HQ.out
                have ho := order_fin_pos x 4607182418800017408 (by omega) (by omega)
                rw [ho.2.1, decide_eq_true (by omega)]
              have he : decide ((-1022 : Int) < -(k : Int)) = true := decide_eq_true (by have := HQ.out; omega)
              have HY := Aside.mk hy
              clear hy
              go_wp2
              go_round
              case rel => exact ⟨k + 1, y, by omega, by go_num, rfl, ⟨by have := HX.out; have := HY.out; omega⟩⟩
              case measure => simp [intOf]; have := HQ.out; omega
            · have HK := Aside.mk (show (-(k : Int)) + 1023 = (E : Int) by omega)
              have HXZ : Aside (x = z) := ⟨by have := HX.out; have := HQ.out; have := HZ.out; omega⟩
              have hl : (FloatKind.f64.format.order x 4607182418800017408 == some .lt) = false := by
                have hx := HX.out
                have hq := HQ.out
                have ho := order_fin_pos x 4607182418800017408 (by omega) (by omega)
                rw [ho.2.1, decide_eq_false (by omega)]
              rw [← HXZ.out] at k1
              go_wp2
              go_ret
              refine ⟨congrArg Ending.returned (congrArg (Value.int .u64) ?_), rfl⟩
              rw [HK.out]
              exact HE.out
      · have HE := Aside.mk (HHOS.out (by omega))
        have HQ := Aside.mk (show X < 4503599627370496 by omega)
        obtain ⟨c, hc⟩ : ∃ c : Nat, c = 1022 := ⟨_, rfl⟩
        obtain ⟨d, hd⟩ : ∃ d : Nat, d = 1074 := ⟨_, rfl⟩
        obtain ⟨r1, hr1, hu1⟩ := rung_of X (by omega) d (by omega)
        have k3 := run_to_u64 r1 X d hr1 hd (by omega) hu1
        have HU1 := Aside.mk (And.intro hr1 hu1)
        have HC := Aside.mk (And.intro hc hd)
        clear hu1 hr1 hc hd hn hE hrf hge hE1
        go_enter Try.func58, Try.ntmps58
        go_wp2_with fail
        refine (l1nan_any _ _ hb).mono ?_
        rintro e w' ⟨rfl, rfl⟩
        rw [HN.out]
        go_wp2_with fail
        refine HL.out.mono ?_
        rintro e w' ⟨rfl, rfl⟩
        go_wp2_with fail
        refine (l1infinite_any X _ HR.out).mono ?_
        rintro e w' ⟨rfl, rfl⟩
        rw [HI.out]
        go_wp2
        go_loop [4, 5] (fun m e => e = .int .i64 0 ∧ m = .float .f64 X) (fun _ _ => 0)
        case atStart => exact ⟨rfl, rfl⟩
        case round =>
          obtain ⟨rfl, rfl⟩ := hrel
          go_wp2
          go_loop [4, 5] (fun m e => ∃ k x : Nat, k ≤ 1022 ∧ e = .int .i64 (-(k : Int)) ∧ m = .float .f64 x ∧ Aside (x < 9218868437227405312 ∧ units x = X * 2 ^ k)) (fun _ e => (1023 + intOf e).toNat)
          case atStart => exact ⟨0, X, by omega, rfl, rfl, ⟨by have := HQ.out; omega, by rw [units_small HQ.out, Nat.pow_zero, Nat.mul_one]⟩⟩
          case round =>
            obtain ⟨k, x, hk, rfl, rfl, HX⟩ := hrel
            have hl : (FloatKind.f64.format.order x 4607182418800017408 == some .lt) = true := by
              have hx := HX.out
              have hq := HQ.out
              have ho := order_fin_pos x 4607182418800017408 (by omega) (by omega)
              rw [ho.2.1]
              refine decide_eq_true ?_
              refine Nat.lt_of_not_le fun h => ?_
              have hu : units 4607182418800017408 ≤ units x := by
                rcases Nat.lt_or_ge 4607182418800017408 x with h2 | h2
                · exact Nat.le_of_lt (units_lt h2)
                · rw [show x = 4607182418800017408 by omega]; exact Nat.le_refl _
              have e1 : units 4607182418800017408 = 4503599627370496 * 2 ^ c := by
                have := pow2_units c
                have e : pow2 c = 4607182418800017408 := by rw [HC.out.1]; rfl
                rw [e, Nat.pow_add, two52] at this
                exact this
              rw [e1, hx.2] at hu
              have h3 : X * 2 ^ k < 4503599627370496 * 2 ^ c := Nat.lt_of_lt_of_le (Nat.mul_lt_mul_of_pos_right hq (Nat.two_pow_pos k)) (Nat.mul_le_mul_left _ (Nat.pow_le_pow_right (by omega) (by rw [HC.out.1]; exact hk)))
              omega
            by_cases hlt : k < 1022
            · obtain ⟨y, hy, huy⟩ := rung_of X (by have := HQ.out; omega) (k + 1) (by omega)
              have kt : ∀ wx : World, (binOp .mul 52 (.float .f64 x) (.float .f64 4611686018427387904)).run Try.prog wx = .ok (.float .f64 y) wx := by
                have hx := HX.out
                exact run_twice x y hx.1 hy (by rw [hx.2, huy, Nat.pow_succ, Nat.mul_assoc])
              have he : decide ((-1022 : Int) < -(k : Int)) = true := decide_eq_true (by omega)
              have HY := Aside.mk (And.intro hy huy)
              clear hy huy
              go_wp2
              go_round
              case rel => exact ⟨k + 1, y, by omega, by go_num, rfl, HY⟩
              case measure => simp [intOf]; omega
            · have he : decide ((-1022 : Int) < -(k : Int)) = false := decide_eq_false (by omega)
              have k2 : ∀ wx : World, (binOp .mul 52 (.float .f64 x) (.float .f64 4841369599423283200)).run Try.prog wx = .ok (.float .f64 r1) wx := by
                have hx := HX.out
                exact frac_back X r1 x c d HU1.out.1 hx.1 HC.out.1 HC.out.2 HU1.out.2 (by rw [hx.2, show k = c by have := HC.out.1; omega])
              go_wp2
              go_ret
              refine ⟨congrArg Ending.returned (congrArg (Value.int .u64) ?_), rfl⟩
              exact HE.out

set_option maxHeartbeats 2000000 in
set_option maxRecDepth 100000 in
/-- A normal number, its sign true. -/
theorem sFloatBits_true (r : Nat) (w : World) (hr : r ≤ 9218868437227405312) :
    Calls Try.prog 58 #[.float .f64 (Ieee.double.word true r)] w fun e w' => e = .returned (.int .u64 (Ieee.double.word true r)) ∧ w = w' := by
  have hb := word_lt' true r (by omega)
  have HN := Aside.mk (isNan_lo true r hr)
  have hW0 := word_def true r
  obtain ⟨X, hX⟩ : ∃ X : Nat, X = Ieee.double.word true r := ⟨_, rfl⟩
  rw [← hX] at hb HN hW0 ⊢
  have hW : X = 9223372036854775808 + r := by rw [hW0]; simp
  clear hW0
  have HL := l1minus_any true r w hr
  rw [← hX] at HL
  have HL := Aside.mk HL
  have kn : ∀ wx : World, (Op.unary .neg (.float .f64 X)).run Try.prog wx = .ok (.float .f64 r) wx := fun wx => run_neg X _ (by rw [hX]; exact negF true r (by omega)) wx
  have HW := Aside.mk hW
  have HR := Aside.mk hr
  have ho := order_fin_pos r 4611686018427387904 hr (by omega)
  have hp := order_fin_pos r 4607182418800017408 hr (by omega)
  by_cases hI : r = 9218868437227405312
  · have HI : Aside (decide (r = 9218868437227405312) = true) := ⟨decide_eq_true hI⟩
    have hor : bits .or .u64 9223372036854775808 9218868437227405312 = (X : Int) := by
      have := or_exp 9223372036854775808 2047 (by omega) (by omega)
      rw [hW, hI]
      exact this
    clear hr hX hI hW ho hp
    go_enter Try.func58, Try.ntmps58
    go_wp2_with fail
    refine (l1nan_any _ _ hb).mono ?_
    rintro e w' ⟨rfl, rfl⟩
    rw [HN.out]
    go_wp2_with fail
    refine HL.out.mono ?_
    rintro e w' ⟨rfl, rfl⟩
    go_wp2_with fail
    refine (l1infinite_any r _ HR.out).mono ?_
    rintro e w' ⟨rfl, rfl⟩
    rw [HI.out]
    go_wp2
    go_ret
    exact ⟨rfl, rfl⟩
  · have HI : Aside (decide (r = 9218868437227405312) = false) := ⟨decide_eq_false hI⟩
    have hrf : r < 9218868437227405312 := by omega
    have HF := Aside.mk hrf
    have HHOR : Aside (∀ E n : Nat, 1 ≤ E → E < 2047 → n < 4503599627370496 → r = E * 4503599627370496 + n → bits .or .u64 (bits .or .u64 9223372036854775808 ((E : Int) * 4503599627370496)) (n : Int) = (X : Int)) := ⟨by
      intro E n h1 h2 h3 h4
      have e1 := or_exp 9223372036854775808 E (by omega) (by omega)
      have e3 : ((E * 4503599627370496 : Nat) : Int) = (E : Int) * 4503599627370496 := by omega
      rw [e3] at e1
      have e2 := or_frac (9223372036854775808 + E * 4503599627370496) n (by omega) (by omega) h3
      rw [← e1] at e2
      refine Eq.trans e2 ?_
      omega⟩
    have HHOS : Aside (r < 4503599627370496 → bits .or .u64 9223372036854775808 (r : Int) = (X : Int)) := ⟨by
      intro h1
      have e1 := or_sign 9223372036854775808 r (by omega) (by omega)
      refine Eq.trans e1 ?_
      omega⟩
    clear hr hI hX hW
    clear ho hp
    obtain ⟨n, hn⟩ : ∃ n, n = r % 4503599627370496 := ⟨_, rfl⟩
    obtain ⟨E, hE⟩ : ∃ E, E = r / 4503599627370496 := ⟨_, rfl⟩
    by_cases hge : 1023 ≤ E
    · have HE := Aside.mk (HHOR.out E n (by omega) (by omega) (by omega) (by omega))
      have HQ := Aside.mk (show r = E * 4503599627370496 + n ∧ n < 4503599627370496 ∧ E < 2047 by omega)
      obtain ⟨c, hc⟩ : ∃ c : Nat, c = 1022 := ⟨_, rfl⟩
      obtain ⟨d, hd⟩ : ∃ d : Nat, d = 1074 := ⟨_, rfl⟩
      obtain ⟨r1, hr1, hu1⟩ := rung_of n (by omega) d (by omega)
      obtain ⟨r2, hr2, hu2⟩ := rung_of n (by omega) c (by omega)
      obtain ⟨z, hz⟩ : ∃ z, z = 1023 * 4503599627370496 + n := ⟨_, rfl⟩
      have k1 := less_one n r2 z c (by omega) hr2 hc hu2 hz
      have k2 := frac_back n r1 r2 c d hr1 hr2 hc hd hu1 hu2
      have k3 := run_to_u64 r1 n d hr1 hd (by omega) hu1
      have HZ := Aside.mk hz
      have EE : (E : Int) < 2047 := by omega
      clear hu1 hu2 hr1 hr2 hc hd hn hE hrf hz
      go_enter Try.func58, Try.ntmps58
      go_wp2_with fail
      refine (l1nan_any _ _ hb).mono ?_
      rintro e w' ⟨rfl, rfl⟩
      rw [HN.out]
      go_wp2_with fail
      refine HL.out.mono ?_
      rintro e w' ⟨rfl, rfl⟩
      go_wp2_with fail
      refine (l1infinite_any r _ HR.out).mono ?_
      rintro e w' ⟨rfl, rfl⟩
      rw [HI.out]
      go_wp2
      go_loop [4, 5] (fun m e => ∃ k x : Nat, k + 1023 ≤ E ∧ e = .int .i64 k ∧ m = .float .f64 x ∧ Aside (x + k * 4503599627370496 = r)) (fun _ e => E - (intOf e).toNat)
      case atStart => exact ⟨0, r, by omega, rfl, rfl, ⟨by omega⟩⟩
      case round =>
        obtain ⟨k, x, hk, rfl, rfl, HX⟩ := hrel
        by_cases hlt : k + 1023 < E
        · obtain ⟨y, hy⟩ : ∃ y, x = y + 4503599627370496 := ⟨x - 4503599627370496, by have := HX.out; have := HQ.out; omega⟩
          have kt : ∀ wx : World, (binOp .quo 52 (.float .f64 x) (.float .f64 4611686018427387904)).run Try.prog wx = .ok (.float .f64 y) wx := by
            have hx := HX.out
            have hq := HQ.out
            rw [hy]
            exact rung_half y (by omega) (by omega)
          have ht : (FloatKind.f64.format.order x 4611686018427387904 == some .gt || FloatKind.f64.format.order x 4611686018427387904 == some .eq) = true := by
            have hx := HX.out
            have hq := HQ.out
            have ho := order_fin_pos x 4611686018427387904 (by omega) (by omega)
            rw [ho.1, ho.2.2]
            rcases Nat.lt_or_ge 4611686018427387904 x with h | h
            · rw [decide_eq_true h]; rfl
            · rw [show (x == 4611686018427387904) = true by rw [beq_iff_eq]; omega]; simp
          have HY := Aside.mk hy
          clear hy
          go_wp2
          go_round
          case rel => exact ⟨k + 1, y, by omega, by go_num, rfl, ⟨by have := HX.out; have := HY.out; omega⟩⟩
          case measure => simp [intOf]; omega
        · have hk2 : E = k + 1023 := by omega
          have HXZ : Aside (x = z) := ⟨by have := HX.out; have := HQ.out; have := HZ.out; omega⟩
          have ht : (FloatKind.f64.format.order x 4611686018427387904 == some .gt || FloatKind.f64.format.order x 4611686018427387904 == some .eq) = false := by
            have hx := HX.out
            have hq := HQ.out
            have ho := order_fin_pos x 4611686018427387904 (by omega) (by omega)
            rw [ho.1, ho.2.2, decide_eq_false (by omega), show (x == 4611686018427387904) = false by rw [beq_eq_false_iff_ne]; omega]; rfl
          have hl : (FloatKind.f64.format.order x 4607182418800017408 == some .lt) = false := by
            have hx := HX.out
            have hq := HQ.out
            have ho := order_fin_pos x 4607182418800017408 (by omega) (by omega)
            rw [ho.2.1, decide_eq_false (by omega)]
          rw [← HXZ.out] at k1
          have HK := Aside.mk hk2
          clear hk2 hlt
          go_wp2
          go_loop [4, 5] (fun m e => e = .int .i64 k ∧ m = .float .f64 x) (fun _ _ => 0)
          case atStart => exact ⟨rfl, rfl⟩
          case round =>
            obtain ⟨rfl, rfl⟩ := hrel
            go_wp2
            go_ret
            refine ⟨congrArg Ending.returned (congrArg (Value.int .u64) ?_), rfl⟩
            rw [show ((k : Int) + 1023) = (E : Int) by have := HK.out; omega]
            exact HE.out
    · have hA : (FloatKind.f64.format.order r 4611686018427387904 == some .gt || FloatKind.f64.format.order r 4611686018427387904 == some .eq) = false := by
        have ho := order_fin_pos r 4611686018427387904 (by omega) (by omega)
        rw [ho.1, ho.2.2, decide_eq_false (by omega), show (r == 4611686018427387904) = false by rw [beq_eq_false_iff_ne]; omega]; rfl
      by_cases hE1 : 1 ≤ E
      · have HE := Aside.mk (HHOR.out E n (by omega) (by omega) (by omega) (by omega))
        have HQ := Aside.mk (show r = E * 4503599627370496 + n ∧ n < 4503599627370496 ∧ E < 1023 ∧ 1 ≤ E by omega)
        obtain ⟨c, hc⟩ : ∃ c : Nat, c = 1022 := ⟨_, rfl⟩
        obtain ⟨d, hd⟩ : ∃ d : Nat, d = 1074 := ⟨_, rfl⟩
        obtain ⟨r1, hr1, hu1⟩ := rung_of n (by omega) d (by omega)
        obtain ⟨r2, hr2, hu2⟩ := rung_of n (by omega) c (by omega)
        obtain ⟨z, hz⟩ : ∃ z, z = 1023 * 4503599627370496 + n := ⟨_, rfl⟩
        have k1 := less_one n r2 z c (by omega) hr2 hc hu2 hz
        have k2 := frac_back n r1 r2 c d hr1 hr2 hc hd hu1 hu2
        have k3 := run_to_u64 r1 n d hr1 hd (by omega) hu1
        have HZ := Aside.mk hz
        have EE : (E : Int) < 1023 := by omega
        have E1 : (1 : Int) ≤ (E : Int) := by omega
        clear hu1 hu2 hr1 hr2 hc hd hn hE hrf hz hge hE1
        go_enter Try.func58, Try.ntmps58
        go_wp2_with fail
        refine (l1nan_any _ _ hb).mono ?_
        rintro e w' ⟨rfl, rfl⟩
        rw [HN.out]
        go_wp2_with fail
        refine HL.out.mono ?_
        rintro e w' ⟨rfl, rfl⟩
        go_wp2_with fail
        refine (l1infinite_any r _ HR.out).mono ?_
        rintro e w' ⟨rfl, rfl⟩
        rw [HI.out]
        go_wp2
        go_loop [4, 5] (fun m e => e = .int .i64 0 ∧ m = .float .f64 r) (fun _ _ => 0)
        case atStart => exact ⟨rfl, rfl⟩
        case round =>
          obtain ⟨rfl, rfl⟩ := hrel
          go_wp2
          go_loop [4, 5] (fun m e => ∃ k x : Nat, k + E ≤ 1023 ∧ e = .int .i64 (-(k : Int)) ∧ m = .float .f64 x ∧ Aside (x = r + k * 4503599627370496)) (fun _ e => (1023 + intOf e).toNat)
          case atStart => exact ⟨0, r, by have := HQ.out; omega, rfl, rfl, ⟨by omega⟩⟩
          case round =>
            obtain ⟨k, x, hk, rfl, rfl, HX⟩ := hrel
            by_cases hlt : k + E < 1023
            · obtain ⟨y, hy⟩ : ∃ y, y = x + 4503599627370496 := ⟨_, rfl⟩
              have kt : ∀ wx : World, (binOp .mul 52 (.float .f64 x) (.float .f64 4611686018427387904)).run Try.prog wx = .ok (.float .f64 y) wx := by
                have hx := HX.out
                have hq := HQ.out
                rw [hy]
                exact rung_twice x (by omega) (by omega)
              have hl : (FloatKind.f64.format.order x 4607182418800017408 == some .lt) = true := by
                have hx := HX.out
                have hq := HQ.out
                have ho := order_fin_pos x 4607182418800017408 (by omega) (by omega)
                rw [ho.2.1, decide_eq_true (by omega)]
              have he : decide ((-1022 : Int) < -(k : Int)) = true := decide_eq_true (by have := HQ.out; omega)
              have HY := Aside.mk hy
              clear hy
              go_wp2
              go_round
              case rel => exact ⟨k + 1, y, by omega, by go_num, rfl, ⟨by have := HX.out; have := HY.out; omega⟩⟩
              case measure => simp [intOf]; have := HQ.out; omega
            · have HK := Aside.mk (show (-(k : Int)) + 1023 = (E : Int) by omega)
              have HXZ : Aside (x = z) := ⟨by have := HX.out; have := HQ.out; have := HZ.out; omega⟩
              have hl : (FloatKind.f64.format.order x 4607182418800017408 == some .lt) = false := by
                have hx := HX.out
                have hq := HQ.out
                have ho := order_fin_pos x 4607182418800017408 (by omega) (by omega)
                rw [ho.2.1, decide_eq_false (by omega)]
              rw [← HXZ.out] at k1
              go_wp2
              go_ret
              refine ⟨congrArg Ending.returned (congrArg (Value.int .u64) ?_), rfl⟩
              rw [HK.out]
              exact HE.out
      · have HE := Aside.mk (HHOS.out (by omega))
        have HQ := Aside.mk (show r < 4503599627370496 by omega)
        obtain ⟨c, hc⟩ : ∃ c : Nat, c = 1022 := ⟨_, rfl⟩
        obtain ⟨d, hd⟩ : ∃ d : Nat, d = 1074 := ⟨_, rfl⟩
        obtain ⟨r1, hr1, hu1⟩ := rung_of r (by omega) d (by omega)
        have k3 := run_to_u64 r1 r d hr1 hd (by omega) hu1
        have HU1 := Aside.mk (And.intro hr1 hu1)
        have HC := Aside.mk (And.intro hc hd)
        clear hu1 hr1 hc hd hn hE hrf hge hE1
        go_enter Try.func58, Try.ntmps58
        go_wp2_with fail
        refine (l1nan_any _ _ hb).mono ?_
        rintro e w' ⟨rfl, rfl⟩
        rw [HN.out]
        go_wp2_with fail
        refine HL.out.mono ?_
        rintro e w' ⟨rfl, rfl⟩
        go_wp2_with fail
        refine (l1infinite_any r _ HR.out).mono ?_
        rintro e w' ⟨rfl, rfl⟩
        rw [HI.out]
        go_wp2
        go_loop [4, 5] (fun m e => e = .int .i64 0 ∧ m = .float .f64 r) (fun _ _ => 0)
        case atStart => exact ⟨rfl, rfl⟩
        case round =>
          obtain ⟨rfl, rfl⟩ := hrel
          go_wp2
          go_loop [4, 5] (fun m e => ∃ k x : Nat, k ≤ 1022 ∧ e = .int .i64 (-(k : Int)) ∧ m = .float .f64 x ∧ Aside (x < 9218868437227405312 ∧ units x = r * 2 ^ k)) (fun _ e => (1023 + intOf e).toNat)
          case atStart => exact ⟨0, r, by omega, rfl, rfl, ⟨by have := HQ.out; omega, by rw [units_small HQ.out, Nat.pow_zero, Nat.mul_one]⟩⟩
          case round =>
            obtain ⟨k, x, hk, rfl, rfl, HX⟩ := hrel
            have hl : (FloatKind.f64.format.order x 4607182418800017408 == some .lt) = true := by
              have hx := HX.out
              have hq := HQ.out
              have ho := order_fin_pos x 4607182418800017408 (by omega) (by omega)
              rw [ho.2.1]
              refine decide_eq_true ?_
              refine Nat.lt_of_not_le fun h => ?_
              have hu : units 4607182418800017408 ≤ units x := by
                rcases Nat.lt_or_ge 4607182418800017408 x with h2 | h2
                · exact Nat.le_of_lt (units_lt h2)
                · rw [show x = 4607182418800017408 by omega]; exact Nat.le_refl _
              have e1 : units 4607182418800017408 = 4503599627370496 * 2 ^ c := by
                have := pow2_units c
                have e : pow2 c = 4607182418800017408 := by rw [HC.out.1]; rfl
                rw [e, Nat.pow_add, two52] at this
                exact this
              rw [e1, hx.2] at hu
              have h3 : r * 2 ^ k < 4503599627370496 * 2 ^ c := Nat.lt_of_lt_of_le (Nat.mul_lt_mul_of_pos_right hq (Nat.two_pow_pos k)) (Nat.mul_le_mul_left _ (Nat.pow_le_pow_right (by omega) (by rw [HC.out.1]; exact hk)))
              omega
            by_cases hlt : k < 1022
            · obtain ⟨y, hy, huy⟩ := rung_of r (by have := HQ.out; omega) (k + 1) (by omega)
              have kt : ∀ wx : World, (binOp .mul 52 (.float .f64 x) (.float .f64 4611686018427387904)).run Try.prog wx = .ok (.float .f64 y) wx := by
                have hx := HX.out
                exact run_twice x y hx.1 hy (by rw [hx.2, huy, Nat.pow_succ, Nat.mul_assoc])
              have he : decide ((-1022 : Int) < -(k : Int)) = true := decide_eq_true (by omega)
              have HY := Aside.mk (And.intro hy huy)
              clear hy huy
              go_wp2
              go_round
              case rel => exact ⟨k + 1, y, by omega, by go_num, rfl, HY⟩
              case measure => simp [intOf]; omega
            · have he : decide ((-1022 : Int) < -(k : Int)) = false := decide_eq_false (by omega)
              have k2 : ∀ wx : World, (binOp .mul 52 (.float .f64 x) (.float .f64 4841369599423283200)).run Try.prog wx = .ok (.float .f64 r1) wx := by
                have hx := HX.out
                exact frac_back r r1 x c d HU1.out.1 hx.1 HC.out.1 HC.out.2 HU1.out.2 (by rw [hx.2, show k = c by have := HC.out.1; omega])
              go_wp2
              go_ret
              refine ⟨congrArg Ending.returned (congrArg (Value.int .u64) ?_), rfl⟩
              exact HE.out

theorem sFloatBits_any (b : Nat) (w : World) (hb : b < 18446744073709551616) :
    Calls Try.prog 58 #[.float .f64 b] w fun e w' => e = .returned (.int .u64 (canon b)) ∧ w = w' := by
  cases hn : isNan b
  · rw [canon_num hn]
    obtain ⟨s, r, hr, rfl⟩ := word_of b hb
    have hr2 : r ≤ 9218868437227405312 := by rw [isNan_word s r hr] at hn; simpa using hn
    cases s
    · exact sFloatBits_false r w hr2
    · exact sFloatBits_true r w hr2
  · exact sFloatBits_nan b w hb hn

end Go.Proofs.Ythcnnificgbmhaa
