/- ExpFloat, the program's and the reference's: both are one function of the operand's word, all NaNs being one. No condition but that a float's word has 64 bits. -/
import Derived.Test.YtjmobjiaoklfdaaMem
set_option linter.unusedVariables false
set_option linter.unusedSimpArgs false
namespace Go.Proofs.Ytjmobjiaoklfdaa
open Go.RowKit
open FlCore

/-- The float of a small whole number. -/
def fint (n : Nat) : Nat := floatOfInt .f64 (n : Int)
/-- The series, n steps of it, from the last on. -/
def ser (r : Nat) : Nat → Nat
  | 0 => 4607182418800017408
  | n + 1 => fop .add (fop .quo (fop .mul r (ser r n)) (fint (14 - n))) 4607182418800017408
def sq (p : Nat) : Nat → Nat
  | 0 => p
  | n + 1 => fop .mul (sq p n) (sq p n)

theorem fint_lt (n : Nat) : fint n < 18446744073709551616 := by
  have := floatOfInt_wf .f64 (n : Int)
  unfold fint
  simpa [Lit.wf] using this

theorem ser_canon (r n : Nat) : canon (ser r n) = ser r n := by
  cases n with
  | zero => exact canon_num (show isNan 4607182418800017408 = false by decide)
  | succ n => exact fop_canon _ _ _

theorem Is.op {b c x y : Nat} (op : BinOp) (h : Is b x) (k : Is c y) : fop op b c = fop op x y := by
  rw [← h.eq, ← k.eq]; exact (fop_of op h.lt k.lt).symm
theorem Is.num {x : Nat} (h : x < 18446744073709551616) (h2 : isNan x = false) : Is x x := ⟨h, canon_num h2⟩
theorem fint_num (n : Nat) : isNan (fint n) = false := write_notNan (.number (decide ((n : Int) < 0)) (n : Int).natAbs 0) rfl
theorem Is.fint (n : Nat) : Is (fint n) (fint n) := .num (fint_lt n) (fint_num n)
theorem Is.one : Is 4607182418800017408 4607182418800017408 := .num (by omega) (by decide)
theorem Is.mk' {b x : Nat} (op : BinOp) {c d : Nat} (hb : b < 18446744073709551616) (h : canon b = fop op c d) (hx : fop op c d = x) : Is b x := ⟨hb, h.trans hx⟩

set_option maxHeartbeats 1000000 in
/-- The reference's series. -/
theorem l1series_any (r r0 : Nat) (hr : Is r r0) (n : Nat) : ∀ (k : Int) (w : World), 0 ≤ k → k + n = 15 →
    Calls Try.prog 97 #[.float .f64 r, .int .i64 k] w fun e w' => ∃ b m, e = .returned (.float .f64 b) ∧ Is b (ser r0 n) ∧ w' = w.drewN m := by
  induction n with
  | zero =>
    intro k w h0 h1
    have h2 : (14 : Int) < k := by omega
    have H1 := Aside.mk h1
    clear h1
    go_enter Try.func97, Try.ntmps97
    go_wp2
    go_ret
    exact ⟨_, 0, rfl, .one, rfl⟩
  | succ n ih =>
    intro k w h0 h1
    have h2 : ¬ (14 : Int) < k := by omega
    have h2 : k ≤ 14 := by omega
    have H1 := Aside.mk h1
    have IH := Aside.mk ih
    have HR := Aside.mk hr
    clear h1 ih hr
    go_enter Try.func97, Try.ntmps97
    go_wp2_with fail
    refine (IH.out (k + 1) _ (by omega) (by have := H1.out; omega)).mono ?_
    rintro e w' ⟨b, m, rfl, hb, rfl⟩
    have HB := Aside.mk hb
    clear hb
    obtain ⟨j, hj⟩ : ∃ j : Nat, k = (j : Int) := ⟨k.toNat, by omega⟩
    have HJ : Aside (j = 14 - n) := ⟨by have := H1.out; omega⟩
    subst hj
    have HK : Aside (Is (floatOfInt .f64 (j : Int)) (fint (14 - n))) := ⟨by have := Is.fint j; rw [HJ.out] at this ⊢; exact this⟩
    go_wp2_with (first | (refine wpList_flt rfl .mul _ _ _ _ rfl _ _ rfl rfl (by simp) ?_; intro b2 m2 hb2 hc2; have HB2 : Aside (Is b2 (fop .mul r0 (ser r0 n))) := ⟨.mk' _ hb2 hc2 (HR.out.op _ HB.out)⟩; clear hb2 hc2) | (refine wpList_flt rfl .quo _ _ _ _ rfl _ _ rfl rfl (by simp) ?_; intro b3 m3 hb3 hc3; have HB3 : Aside (Is b3 (fop .quo (fop .mul r0 (ser r0 n)) (fint (14 - n)))) := ⟨.mk' _ hb3 hc3 (HB2.out.op _ HK.out)⟩; clear hb3 hc3) | (refine wpList_flt rfl .add _ _ _ _ rfl _ _ rfl rfl (by simp) ?_; intro b4 m4 hb4 hc4; have HB4 : Aside (Is b4 (ser r0 (n + 1))) := ⟨.mk' _ hb4 hc4 (HB3.out.op _ Is.one)⟩; clear hb4 hc4))
    go_ret
    exact ⟨_, _, rfl, HB4.out, rfl⟩


theorem one_zero (wx : World) : (binOp .quo 51 (.float .f64 4607182418800017408) (.float .f64 0)).run Try.prog wx = .ok (.float .f64 9218868437227405312) wx := by
  have := one_over false wx
  rw [word_def, word_def] at this
  exact this

/-- What both ExpFloats give. -/
def expF (x : Nat) : Nat :=
  if isNan x then 9221120237041090560
  else if FloatKind.f64.format.order x 4652007308841189376 == some .gt then 9218868437227405312
  else if FloatKind.f64.format.order x 13875379345695965184 == some .lt then 0
  else sq (ser (fop .quo x 4652218415073722368) 14) 10

theorem Is.inf : Is 9218868437227405312 9218868437227405312 := .num (by omega) (by decide)
theorem Is.zero : Is 0 0 := .num (by omega) (by decide)
theorem is_fop {b : Nat} (op : BinOp) {c d : Nat} (hb : b < 18446744073709551616) (h : canon b = fop op c d) : Is b (fop op c d) := ⟨hb, h⟩

set_option maxHeartbeats 1000000 in
set_option maxRecDepth 100000 in
theorem sExp_any (x : Nat) (w : World) (hx : x < 18446744073709551616) :
    Calls Try.prog 88 #[.float .f64 x] w fun e w' => ∃ b m, e = .returned (.float .f64 b) ∧ Is b (expF x) ∧ w' = w.drewN m := by
  have HX := Aside.mk hx
  have HE := Aside.mk (show expF x = _ from rfl)
  cases hn : isNan x
  · have HN := Aside.mk hn
    cases hg : (FloatKind.f64.format.order x 4652007308841189376 == some .gt)
    · cases hl : (FloatKind.f64.format.order x 13875379345695965184 == some .lt)
      · have HF : Aside (expF x = sq (ser (fop .quo x 4652218415073722368) 14) 10) := ⟨by unfold expF; rw [hn, hg, hl]; rfl⟩
        clear hn hx
        go_enter Try.func88, Try.ntmps88
        go_wp2_with fail
        refine (l1nan_any _ _ HX.out).mono ?_
        rintro e w' ⟨rfl, rfl⟩
        rw [HN.out]
        go_wp2_with (refine wpList_flt rfl .quo _ _ _ _ rfl _ _ rfl rfl (by simp) ?_; intro b2 m2 hb2 hc2; have HB2 := Aside.mk (is_fop _ hb2 hc2); clear hb2 hc2)
        refine (l1series_any b2 _ HB2.out 14 1 _ (by omega) (by omega)).mono ?_
        rintro e w' ⟨b, m, rfl, hb, rfl⟩
        have HB := Aside.mk hb
        clear hb
        go_wp2
        go_loopw [4, 5] (fun p i wr => ∃ c n k : Nat, k ≤ 10 ∧ i = .int .i64 k ∧ p = .float .f64 c ∧ Aside (Is c (sq (ser (fop .quo x 4652218415073722368) 14) k)) ∧ wr = w.drewN n) (fun _ i _ => 10 - (intOf i).toNat)
        case atStart => exact ⟨b, _, 0, by omega, rfl, rfl, HB, rfl⟩
        case round =>
          obtain ⟨c, n, k, hk, rfl, rfl, HC, rfl⟩ := hrel
          by_cases hlt : k < 10
          · go_wp2_with (refine wpList_flt rfl .mul _ _ _ _ rfl _ _ rfl rfl (by simp) ?_; intro b3 m3 hb3 hc3; have HB3 : Aside (Is b3 (sq (ser (fop .quo x 4652218415073722368) 14) (k + 1))) := ⟨.mk' _ hb3 hc3 (HC.out.op _ HC.out)⟩; clear hb3 hc3)
            go_roundw
            case rel => exact ⟨b3, _, k + 1, by omega, by go_num, rfl, HB3, rfl⟩
            case measure => simp [intOf]; omega
          · obtain rfl : k = 10 := by omega
            go_wp2
            go_ret
            exact ⟨_, _, rfl, by rw [HF.out]; exact HC.out, rfl⟩
      · have HF : Aside (expF x = 0) := ⟨by unfold expF; rw [hn, hg, hl]; rfl⟩
        clear hn hx
        go_enter Try.func88, Try.ntmps88
        go_wp2_with fail
        refine (l1nan_any _ _ HX.out).mono ?_
        rintro e w' ⟨rfl, rfl⟩
        rw [HN.out]
        go_wp2
        go_ret
        exact ⟨_, 0, rfl, by rw [HF.out]; exact .zero, rfl⟩
    · have HF : Aside (expF x = 9218868437227405312) := ⟨by unfold expF; rw [hn, hg]; rfl⟩
      have ko := one_zero
      clear hn hx
      go_enter Try.func88, Try.ntmps88
      go_wp2_with fail
      refine (l1nan_any _ _ HX.out).mono ?_
      rintro e w' ⟨rfl, rfl⟩
      rw [HN.out]
      go_wp2
      go_ret
      exact ⟨_, 0, rfl, by rw [HF.out]; exact .inf, rfl⟩
  · have HN := Aside.mk hn
    have HF : Aside (Is x (expF x)) := ⟨⟨hx, by unfold expF; rw [hn, canon_nan hn]; rfl⟩⟩
    clear hn hx
    go_enter Try.func88, Try.ntmps88
    go_wp2_with fail
    refine (l1nan_any _ _ HX.out).mono ?_
    rintro e w' ⟨rfl, rfl⟩
    rw [HN.out]
    go_wp2
    go_ret
    exact ⟨_, 0, rfl, HF.out, rfl⟩

theorem inf_any (w : World) : Calls Try.prog 91 #[.int .i64 1] w fun e w' => e = .returned (.float .f64 9218868437227405312) ∧ w = w' := by
  have k := f64from
  go_enter Try.func91, Try.ntmps91
  go_wp2
  go_ret
  exact ⟨rfl, rfl⟩

set_option maxHeartbeats 1000000 in
set_option maxRecDepth 100000 in
theorem iExp_any (x : Nat) (w : World) (hx : x < 18446744073709551616) :
    Calls Try.prog 83 #[.float .f64 x] w fun e w' => ∃ b m, e = .returned (.float .f64 b) ∧ Is b (expF x) ∧ w' = w.drewN m := by
  have HX := Aside.mk hx
  have n1 := nan_ne x hx
  cases hn : isNan x
  · rw [hn] at n1
    cases hg : (FloatKind.f64.format.order x 4652007308841189376 == some .gt)
    · cases hl : (FloatKind.f64.format.order x 13875379345695965184 == some .lt)
      · have HF : Aside (expF x = sq (ser (fop .quo x 4652218415073722368) 14) 10) := ⟨by unfold expF; rw [hn, hg, hl]; rfl⟩
        clear hn hx
        go_enter Try.func83, Try.ntmps83
        go_wp2_with (refine wpList_flt rfl .quo _ _ _ _ rfl _ _ rfl rfl (by simp) ?_; intro b2 m2 hb2 hc2; have HB2 := Aside.mk (is_fop _ hb2 hc2); clear hb2 hc2)
        go_loopw [4, 5] (fun p i wr => ∃ c n j : Nat, j ≤ 14 ∧ i = .int .i64 j ∧ p = .float .f64 c ∧ Aside (Is c (ser (fop .quo x 4652218415073722368) (14 - j))) ∧ wr = w.drewN n) (fun _ i _ => (intOf i).toNat)
        case atStart => exact ⟨_, _, 14, by omega, rfl, rfl, ⟨.one⟩, rfl⟩
        case round =>
          obtain ⟨c, n, j, hk, rfl, rfl, HC, rfl⟩ := hrel
          by_cases hlt : 1 ≤ j
          · have HK : Aside (Is (floatOfInt .f64 (j : Int)) (fint (14 - (14 - j)))) := ⟨by have := Is.fint j; rw [show 14 - (14 - j) = j by omega]; exact this⟩
            go_wp2_with (first | (refine wpList_flt rfl .mul _ _ _ _ rfl _ _ rfl rfl (by simp) ?_; intro b5 m5 hb5 hc5; have HB5 : Aside (Is b5 (fop .mul (fop .quo x 4652218415073722368) (ser (fop .quo x 4652218415073722368) (14 - j)))) := ⟨.mk' _ hb5 hc5 (HB2.out.op _ HC.out)⟩; clear hb5 hc5) | (refine wpList_flt rfl .quo _ _ _ _ rfl _ _ rfl rfl (by simp) ?_; intro b3 m3 hb3 hc3; have HB3 : Aside (Is b3 (fop .quo (fop .mul (fop .quo x 4652218415073722368) (ser (fop .quo x 4652218415073722368) (14 - j))) (fint (14 - (14 - j))))) := ⟨.mk' _ hb3 hc3 (HB5.out.op _ HK.out)⟩; clear hb3 hc3) | (refine wpList_flt rfl .add _ _ _ _ rfl _ _ rfl rfl (by simp) ?_; intro b4 m4 hb4 hc4; have HB4 : Aside (Is b4 (ser (fop .quo x 4652218415073722368) (14 - j + 1))) := ⟨.mk' _ hb4 hc4 (HB3.out.op _ Is.one)⟩; clear hb4 hc4))
            go_roundw
            case rel => exact ⟨b4, _, j - 1, by omega, by go_num, rfl, ⟨by rw [show 14 - (j - 1) = 14 - j + 1 by omega]; exact HB4.out⟩, rfl⟩
            case measure => simp [intOf]; omega
          · obtain rfl : j = 0 := by omega
            rw [show (((0 : Nat) : Int)) = 0 from rfl]
            go_wp2
            go_loopw [4, 33] (fun p i wr => ∃ d n k : Nat, k ≤ 10 ∧ i = .int .i64 k ∧ p = .float .f64 d ∧ Aside (Is d (sq (ser (fop .quo x 4652218415073722368) 14) k)) ∧ wr = w.drewN n) (fun _ i _ => 10 - (intOf i).toNat)
            case atStart => exact ⟨c, _, 0, by omega, rfl, rfl, HC, rfl⟩
            case round =>
              obtain ⟨d, n, k, hk, rfl, rfl, HD, rfl⟩ := hrel
              by_cases hlt2 : k < 10
              · go_wp2_with (refine wpList_flt rfl .mul _ _ _ _ rfl _ _ rfl rfl (by simp) ?_; intro b6 m6 hb6 hc6; have HB6 : Aside (Is b6 (sq (ser (fop .quo x 4652218415073722368) 14) (k + 1))) := ⟨.mk' _ hb6 hc6 (HD.out.op _ HD.out)⟩; clear hb6 hc6)
                go_roundw
                case rel => exact ⟨b6, _, k + 1, by omega, by go_num, rfl, HB6, rfl⟩
                case measure => simp [intOf]; omega
              · obtain rfl : k = 10 := by omega
                go_wp2
                go_ret
                exact ⟨_, _, rfl, by rw [HF.out]; exact HD.out, rfl⟩
      · have HF : Aside (expF x = 0) := ⟨by unfold expF; rw [hn, hg, hl]; rfl⟩
        clear hn hx
        go_enter Try.func83, Try.ntmps83
        go_wp2
        go_ret
        exact ⟨_, 0, rfl, by rw [HF.out]; exact .zero, rfl⟩
    · have HF : Aside (expF x = 9218868437227405312) := ⟨by unfold expF; rw [hn, hg]; rfl⟩
      clear hn hx
      go_enter Try.func83, Try.ntmps83
      go_wp2_with fail
      refine (inf_any _).mono ?_
      rintro e w' ⟨rfl, rfl⟩
      go_wp2
      go_ret
      exact ⟨_, 0, rfl, by rw [HF.out]; exact .inf, rfl⟩
  · rw [hn] at n1
    have HF : Aside (Is x (expF x)) := ⟨⟨hx, by unfold expF; rw [hn, canon_nan hn]; rfl⟩⟩
    clear hn hx
    go_enter Try.func83, Try.ntmps83
    go_wp2
    go_ret
    exact ⟨_, 0, rfl, HF.out, rfl⟩

end Go.Proofs.Ytjmobjiaoklfdaa
