/- The law FnFloat, walked: it returns true and writes nothing that was there. No condition. -/
import Derived.Test.YtkmhbppimkphbaaDraw
import Derived.Test.YtkmhbppimkphbaaFlBits
namespace Go.Proofs.Ytkmhbppimkphbaa
open Go.RowKit
open FlCore

theorem BytesAt.below {w w' : World} {A : Option Addr} {bs : List Int} (h : BytesAt w A bs) (hb : Below w.heap.size w w') : BytesAt w' A bs :=
  ⟨h.len, fun hp => by
    obtain ⟨b, off, e, hlt, hc⟩ := h.at_ hp
    refine ⟨b, off, e, Nat.lt_of_lt_of_le hlt hb.size, fun j hj => ?_⟩
    rw [hb.cell (p := ⟨b, off + j, none⟩) hlt]
    exact hc j hj, h.range⟩
theorem below_then {B : Nat} {w w1 w2 : World} (h : Below B w w1) (hB : B ≤ w1.heap.size) (k : Below w1.heap.size w1 w2) : Below B w w2 :=
  h.trans ⟨k.os, k.tape, k.output, k.size, fun i hi => k.block i (Nat.lt_of_lt_of_le hi hB)⟩
theorem below_drewN (w : World) (n : Nat) : Below w.heap.size w (w.drewN n) := ⟨rfl, rfl, rfl, Nat.le_refl _, fun _ _ => rfl⟩
theorem below_drewN' {B : Nat} {w w1 : World} (h : Below B w w1) (n : Nat) : Below B w (w1.drewN n) := ⟨h.os, h.tape, h.output, h.size, h.block⟩
theorem Drew.below {w0 w w' : World} {g i : Nat} {bs : List Int} (h : Drew w w' g bs i) (hb : Below w0.heap.size w0 w) (hg : w0.heap.size ≤ g) : Below w0.heap.size w0 w' :=
  hb.grown h.grown hb.size (by rintro k hk; injection hk with hk; omega)

/-- A float, whichever. -/
def SomeF (w : World) (e : Ending) (w' : World) : Prop := ∃ b, e = .returned (.float .f64 b) ∧ b < 18446744073709551616 ∧ Below w.heap.size w w'

theorem drawFloatBits_any (A : Option Addr) (c : Nat) (bs : List Int) (w : World) (h : BytesAt w A bs) (hc : bs.length ≤ c) :
    Calls Try.prog 20 #[.slice A bs.length c] w (SomeF w) := by
  have HB := Aside.mk h
  have HC := Aside.mk hc
  clear h hc
  go_enter Try.func20, Try.ntmps20
  go_wp2_with fail
  refine (open_any A c bs _ HB.out HC.out).mono ?_
  rintro e w1 ⟨g, rfl, hg, hr, hb⟩
  have HR := Aside.mk (And.intro hg (And.intro hr hb))
  clear hg hr hb
  go_wp2_with fail
  refine (drawFloat_any g _ 0 _ HR.out.2.1).mono ?_
  rintro e w2 ⟨b, rfl, hb, hd⟩
  have HD := Aside.mk (And.intro hb.lt (hd.below HR.out.2.2 HR.out.1))
  clear hb hd
  go_wp2
  go_ret
  exact ⟨_, rfl, HD.out⟩

/-- Two floats, whichever. -/
def SomeFF (w : World) (e : Ending) (w' : World) : Prop := ∃ a b, e = .returned (.tuple #[.float .f64 a, .float .f64 b]) ∧ a < 18446744073709551616 ∧ b < 18446744073709551616 ∧ Below w.heap.size w w'

theorem drawSameFloat_any (A : Option Addr) (c : Nat) (bs : List Int) (w : World) (h : BytesAt w A bs) (hc : bs.length ≤ c) :
    Calls Try.prog 22 #[.slice A bs.length c] w (SomeFF w) := by
  have HB := Aside.mk h
  have HC := Aside.mk hc
  have kneg := run_neg'
  clear h hc
  go_enter Try.func22, Try.ntmps22
  go_wp2_with fail
  refine (open_any A c bs _ HB.out HC.out).mono ?_
  rintro e w1 ⟨g, rfl, hg, hr, hb⟩
  have HR := Aside.mk (And.intro hg (And.intro hr hb))
  clear hg hr hb
  go_wp2_with fail
  refine (next_any g _ 0 _ HR.out.2.1).mono ?_
  rintro e w2 ⟨rfl, hr, hg⟩
  have hx := HR.out.2.1.range
  obtain ⟨hx0, hx1⟩ := hx
  have HR2 : Aside (Rd w2 g (bs.take 500) (adv (bs.take 500) 0) ∧ Below w.heap.size w w2) := ⟨hr, (Drew.mk hr hg).below HR.out.2.2 HR.out.1⟩
  clear hr hg
  generalize rdb (bs.take 500) 0 = x at *
  go_wp2_with fail
  refine (drawFloat_any g _ _ _ HR2.out.1).mono ?_
  rintro e w3 ⟨b, rfl, hb, hd⟩
  have HD := Aside.mk (And.intro hb.lt (And.intro hd.rd (hd.below HR2.out.2 HR.out.1)))
  clear hb hd
  by_cases h0 : x % 4 = 0
  · have h0b : (x % 4 == 0) = true := beq_iff_eq.2 h0
    go_wp2
    go_ret2
    exact ⟨_, _, rfl, HD.out.1, HD.out.1, HD.out.2.2⟩
  · have h0b : (x % 4 == 0) = false := beq_eq_false_iff_ne.2 h0
    by_cases h1 : x % 4 = 1
    · have h1b : (x % 4 == 1) = true := beq_iff_eq.2 h1
      go_wp2
      go_ret2
      exact ⟨_, _, rfl, HD.out.1, neg_lt HD.out.1, HD.out.2.2⟩
    · have h1b : (x % 4 == 1) = false := beq_eq_false_iff_ne.2 h1
      go_wp2_with fail
      refine (drawFloat_any g _ _ _ HD.out.2.1).mono ?_
      rintro e w4 ⟨b2, rfl, hb, hd⟩
      have HD2 := Aside.mk (And.intro hb.lt (hd.below HD.out.2.2 HR.out.1))
      clear hb hd
      go_wp2
      go_ret2
      exact ⟨_, _, rfl, HD.out.1, HD2.out.1, HD2.out.2⟩

theorem bits_u64_range (op : BinOp) (a b : Int) : 0 ≤ bits op .u64 a b ∧ bits op .u64 a b < 18446744073709551616 := by
  unfold bits
  rw [IntKind.wrap_u64]
  omega

/-- A pattern, whichever. -/
def SomeU (w : World) (e : Ending) (w' : World) : Prop := ∃ x : Int, e = .returned (.int .u64 x) ∧ 0 ≤ x ∧ x < 18446744073709551616 ∧ Below w.heap.size w w'

set_option maxHeartbeats 1000000 in
theorem drawFloatFrom_any (A : Option Addr) (c : Nat) (bs : List Int) (w : World) (h : BytesAt w A bs) (hc : bs.length ≤ c) :
    Calls Try.prog 23 #[.slice A bs.length c] w (SomeU w) := by
  have HB := Aside.mk h
  have HC := Aside.mk hc
  clear h hc
  go_enter Try.func23, Try.ntmps23
  go_wp2_with fail
  refine (open_any A c bs _ HB.out HC.out).mono ?_
  rintro e w1 ⟨g, rfl, hg, hr, hb⟩
  have HR := Aside.mk (And.intro hg (And.intro hr hb))
  clear hg hr hb
  go_wp2_with fail
  refine (next_any g _ 0 _ HR.out.2.1).mono ?_
  rintro e w2 ⟨rfl, hr, hg⟩
  have hx := HR.out.2.1.range
  obtain ⟨hx0, hx1⟩ := hx
  have HR2 : Aside (Rd w2 g (bs.take 500) (adv (bs.take 500) 0) ∧ Below w.heap.size w w2) := ⟨hr, (Drew.mk hr hg).below HR.out.2.2 HR.out.1⟩
  clear hr hg
  generalize rdb (bs.take 500) 0 = x at *
  go_wp2
  go_loopw [5, 6] (fun b i wr => ∃ (k p : Nat) (y : Int), k ≤ 8 ∧ i = .int .i64 k ∧ b = .int .u64 y ∧ 0 ≤ y ∧ y < 18446744073709551616 ∧ Aside (Rd wr g (bs.take 500) p ∧ Below w.heap.size w wr)) (fun _ i _ => 8 - (intOf i).toNat)
  case atStart => exact ⟨0, _, 0, by omega, rfl, rfl, by omega, by omega, HR2⟩
  case round =>
    obtain ⟨k, p, y, hk, rfl, rfl, hy0, hy1, HP⟩ := hrel
    by_cases hlt : k < 8
    · go_wp2_with fail
      refine (next_any g _ p _ HP.out.1).mono ?_
      rintro e w3 ⟨rfl, hr, hg⟩
      have HR3 : Aside (Rd w3 g (bs.take 500) (adv (bs.take 500) p) ∧ Below w.heap.size w w3) := ⟨hr, (Drew.mk hr hg).below HP.out.2 HR.out.1⟩
      clear hr hg
      have hd := HP.out.1.range
      obtain ⟨hd0, hd1⟩ := hd
      generalize rdb (bs.take 500) p = d at *
      go_wp2
      go_roundw
      case rel => exact ⟨k + 1, _, _, by omega, by go_num, rfl, by rw [IntKind.wrap_u64]; omega, by rw [IntKind.wrap_u64]; omega, HR3⟩
      case measure => simp [intOf]; omega
    · obtain rfl : k = 8 := by omega
      have r1 := bits_u64_range .and y 9227875636482146303
      have r2 := bits_u64_range .or y 9218868437227405312
      have r3 := bits_u64_range .and y 18442240474082181120
      have r4 := bits_u64_range .and y 9223372036854776063
      have HRG := Aside.mk (And.intro r1 (And.intro r2 (And.intro r3 r4)))
      clear r1 r2 r3 r4
      have hx8 : x % 8 = 0 ∨ x % 8 = 1 ∨ x % 8 = 2 ∨ x % 8 = 3 ∨ x % 8 = 4 ∨ 5 ≤ x % 8 := by omega
      rcases hx8 with h | h | h | h | h | h
      · have b0 : (x % 8 == 0) = true := by rw [h]; rfl
        have b1 : (x % 8 == 1) = false := by rw [h]; rfl
        have b2 : (x % 8 == 2) = false := by rw [h]; rfl
        have b3 : (x % 8 == 3) = false := by rw [h]; rfl
        have b4 : (x % 8 == 4) = false := by rw [h]; rfl
        clear h
        go_wp2
        go_ret
        exact ⟨_, rfl, HRG.out.1.1, HRG.out.1.2, HP.out.2⟩
      · have b0 : (x % 8 == 0) = false := by rw [h]; rfl
        have b1 : (x % 8 == 1) = true := by rw [h]; rfl
        have b2 : (x % 8 == 2) = false := by rw [h]; rfl
        have b3 : (x % 8 == 3) = false := by rw [h]; rfl
        have b4 : (x % 8 == 4) = false := by rw [h]; rfl
        clear h
        go_wp2
        go_ret
        exact ⟨_, rfl, HRG.out.2.1.1, HRG.out.2.1.2, HP.out.2⟩
      · have b0 : (x % 8 == 0) = false := by rw [h]; rfl
        have b1 : (x % 8 == 1) = false := by rw [h]; rfl
        have b2 : (x % 8 == 2) = true := by rw [h]; rfl
        have b3 : (x % 8 == 3) = false := by rw [h]; rfl
        have b4 : (x % 8 == 4) = false := by rw [h]; rfl
        clear h
        go_wp2
        go_ret
        exact ⟨_, rfl, HRG.out.2.2.1.1, HRG.out.2.2.1.2, HP.out.2⟩
      · have b0 : (x % 8 == 0) = false := by rw [h]; rfl
        have b1 : (x % 8 == 1) = false := by rw [h]; rfl
        have b2 : (x % 8 == 2) = false := by rw [h]; rfl
        have b3 : (x % 8 == 3) = true := by rw [h]; rfl
        have b4 : (x % 8 == 4) = false := by rw [h]; rfl
        clear h
        go_wp2_with fail
        refine (drawFloat_any g _ _ _ HP.out.1).mono ?_
        rintro e w4 ⟨b2, rfl, hb, hd⟩
        have HD2 := Aside.mk (And.intro hb.lt (hd.below HP.out.2 HR.out.1))
        clear hb hd
        go_wp2_with fail
        refine (sFloatBits_any b2 _ HD2.out.1).mono ?_
        rintro e w5 ⟨rfl, rfl⟩
        go_wp2
        go_ret
        exact ⟨_, rfl, by omega, by have := canon_lt HD2.out.1; omega, HD2.out.2⟩
      · have b0 : (x % 8 == 0) = false := by rw [h]; rfl
        have b1 : (x % 8 == 1) = false := by rw [h]; rfl
        have b2 : (x % 8 == 2) = false := by rw [h]; rfl
        have b3 : (x % 8 == 3) = false := by rw [h]; rfl
        have b4 : (x % 8 == 4) = true := by rw [h]; rfl
        clear h
        go_wp2
        go_ret
        exact ⟨_, rfl, HRG.out.2.2.2.1, HRG.out.2.2.2.2, HP.out.2⟩
      · have b0 : (x % 8 == 0) = false := by rw [beq_eq_false_iff_ne]; omega
        have b1 : (x % 8 == 1) = false := by rw [beq_eq_false_iff_ne]; omega
        have b2 : (x % 8 == 2) = false := by rw [beq_eq_false_iff_ne]; omega
        have b3 : (x % 8 == 3) = false := by rw [beq_eq_false_iff_ne]; omega
        have b4 : (x % 8 == 4) = false := by rw [beq_eq_false_iff_ne]; omega
        clear h
        go_wp2
        go_ret
        exact ⟨_, rfl, hy0, hy1, HP.out.2⟩

/-- The laws' other comparison. -/
theorem sameF_any (a b : Nat) (w : World) (ha : a < 18446744073709551616) (hb : b < 18446744073709551616) :
    Calls Try.prog 21 #[.float .f64 a, .float .f64 b] w fun e w' => e = .returned (.bool (feq a b)) ∧ w = w' := by
  have n1 := nan_ne a ha
  have n2 := nan_ne b hb
  have e1 := eq0 a ha
  have e2 := eq0 b hb
  cases ha0 : isNan a
  · cases hb0 : isNan b
    · rw [ha0] at n1
      rw [hb0] at n2
      by_cases hz : a % 9223372036854775808 = 0 ∧ b % 9223372036854775808 = 0
      · rw [decide_eq_true hz.1] at e1
        rw [decide_eq_true hz.2] at e2
        obtain ⟨s, rfl⟩ := zero_or a ha hz.1
        obtain ⟨t, rfl⟩ := zero_or b hb hz.2
        have o1 := one_over s
        have o2 := one_over t
        have g1 : (FloatKind.f64.format.order (Ieee.double.word s 9218868437227405312) 0 == some .lt) = s := by
          show (Ieee.double.order _ 0 == some .lt) = s
          rw [order_zero s _ (by omega) (by omega)]; cases s <;> rfl
        have g2 : (FloatKind.f64.format.order (Ieee.double.word t 9218868437227405312) 0 == some .lt) = t := by
          show (Ieee.double.order _ 0 == some .lt) = t
          rw [order_zero t _ (by omega) (by omega)]; cases t <;> rfl
        have HF : Aside (feq (Ieee.double.word s 0) (Ieee.double.word t 0) = (s == t)) := ⟨by
          rw [feq_num (isNan_lo s 0 (by omega)) (isNan_lo t 0 (by omega))]
          cases s <;> cases t <;> decide⟩
        generalize Ieee.double.word s 0 = x at *
        generalize Ieee.double.word t 0 = y at *
        generalize Ieee.double.word s 9218868437227405312 = X at *
        generalize Ieee.double.word t 9218868437227405312 = Y at *
        clear ha hb ha0 hb0 hz
        go_enter Try.func21, Try.ntmps21
        go_wp2
        go_ret
        exact ⟨by simp [HF.out], rfl⟩
      · have e3 := eql_num ha hb ha0 hz
        rw [← feq_num ha0 hb0] at e3
        generalize feq a b = F at *
        by_cases hz1 : a % 9223372036854775808 = 0
        · rw [decide_eq_true hz1] at e1
          rw [decide_eq_false (fun h2 => hz ⟨hz1, h2⟩)] at e2
          clear ha hb ha0 hb0 hz hz1
          go_enter Try.func21, Try.ntmps21
          go_wp2
          go_ret
          exact ⟨by rfl, rfl⟩
        · rw [decide_eq_false hz1] at e1
          clear ha hb ha0 hb0 hz hz1 e2
          go_enter Try.func21, Try.ntmps21
          go_wp2
          go_ret
          exact ⟨by rfl, rfl⟩
    · rw [ha0] at n1
      rw [hb0] at n2
      have HF : Aside (feq a b = false) := ⟨by rw [feq_comm, feq_left hb0, ha0]⟩
      clear ha hb ha0 hb0 e1 e2
      go_enter Try.func21, Try.ntmps21
      go_wp2
      go_ret
      exact ⟨by rw [HF.out]; rfl, rfl⟩
  · rw [ha0] at n1
    have HF : Aside (feq a b = isNan b) := ⟨feq_left ha0⟩
    generalize isNan b = B at *
    clear ha hb ha0 e1 e2
    go_enter Try.func21, Try.ntmps21
    go_wp2
    go_ret
    exact ⟨by rw [HF.out]; rfl, rfl⟩

theorem canon_idem (x : Nat) : canon (canon x) = canon x := by
  cases h : isNan x
  · rw [canon_num h, canon_num h]
  · rw [canon_nan h]; exact canon_nan (by decide)

theorem and_exp (x : Nat) (hx : x < 18446744073709551616) : bits .and .u64 (x : Int) 9218868437227405312 = ((x / 4503599627370496 % 2048 * 4503599627370496 : Nat) : Int) := by
  have h := u64_and_nat x 9218868437227405312 hx (by omega)
  refine Eq.trans h ?_
  congr 1
  have e : (9218868437227405312 : Nat) = 2047 * 2 ^ 52 := by decide +kernel
  have e2 : x &&& 2047 * 2 ^ 52 = (x / 2 ^ 52 &&& 2047) * 2 ^ 52 := by
    apply Nat.eq_of_testBit_eq
    intro j
    rw [Nat.testBit_and, Nat.testBit_mul_two_pow, Nat.testBit_mul_two_pow, Nat.testBit_and, Nat.testBit_div_two_pow]
    by_cases hj : 52 ≤ j
    · simp only [hj, decide_true, Bool.true_and]
      rw [show j - 52 + 52 = j by omega]
    · simp [hj]
  rw [e, e2, nat_mask11, two52]

theorem and_frac (x : Nat) (hx : x < 18446744073709551616) : bits .and .u64 (x : Int) 4503599627370495 = ((x % 4503599627370496 : Nat) : Int) := by
  have h := u64_and_nat x 4503599627370495 hx (by omega)
  refine Eq.trans h ?_
  congr 1
  exact Nat.and_two_pow_sub_one_eq_mod x 52

set_option maxHeartbeats 1000000 in
set_option maxRecDepth 100000 in
theorem FnFloat_walk (w : World) {A : Option Addr} {c : Nat} {bs : List Int} (hB : BytesAt w A bs ∧ bs.length ≤ c) :
    Calls Try.prog 8 #[.slice A bs.length c] w fun e w' => e = .returned (.bool true) ∧ Below w.heap.size w w' := by
  have HB := Aside.mk hB
  have hl := hB.1.len
  clear hB
  by_cases hgt : 1048576 < bs.length
  · have hgtI : (1048576 : Int) < (bs.length : Int) := by omega
    clear hgt
    go_enter Try.func8, Try.ntmps8
    go_wp2
    go_ret
    exact ⟨rfl, Below.refl _ _⟩
  · have hgtI : (bs.length : Int) ≤ (1048576 : Int) := by omega
    clear hgt
    go_enter Try.func8, Try.ntmps8
    go_wp2_with fail
    refine (drawFloatBits_any A c bs _ HB.out.1 HB.out.2).mono ?_
    rintro e w1 ⟨b, rfl, hb, hw1⟩
    have HB1 := Aside.mk (And.intro hb hw1)
    clear hb hw1
    go_wp2_with fail
    refine (iFloatBits_any b _ HB1.out.1).mono ?_
    rintro e w' ⟨rfl, rfl⟩
    go_wp2_with fail
    refine (iFloatFrom_any (canon b) _ (by omega)).mono ?_
    rintro e w' ⟨rfl, rfl⟩
    rw [Int.toNat_natCast]
    have HSame : Aside (feq b (canon b) = true) := ⟨by
      unfold feq
      rw [canon_idem]; simp⟩
    go_wp2_with fail
    refine (sameF_any b (canon b) _ HB1.out.1 (canon_lt HB1.out.1)).mono ?_
    rintro e w' ⟨rfl, rfl⟩
    rw [HSame.out]
    go_wp2_with fail
    refine (iSameFloat_any b (canon b) _ HB1.out.1 (canon_lt HB1.out.1)).mono ?_
    rintro e w' ⟨rfl, rfl⟩
    rw [HSame.out]
    go_wp2_with fail
    refine (drawSameFloat_any A c bs _ (HB.out.1.below HB1.out.2) HB.out.2).mono ?_
    rintro e w2 ⟨x, y, rfl, hx, hy, hw2⟩
    have HX := Aside.mk (And.intro hx (And.intro hy (below_then HB1.out.2 HB1.out.2.size hw2)))
    clear hx hy hw2
    go_wp2_with fail
    refine (iSameFloat_any x y _ HX.out.1 HX.out.2.1).mono ?_
    rintro e w' ⟨rfl, rfl⟩
    go_wp2_with fail
    refine (sameF_any x y _ HX.out.1 HX.out.2.1).mono ?_
    rintro e w' ⟨rfl, rfl⟩
    go_wp2_with fail
    refine (iFloatBits_any x _ HX.out.1).mono ?_
    rintro e w' ⟨rfl, rfl⟩
    go_wp2_with fail
    refine (iFloatBits_any y _ HX.out.2.1).mono ?_
    rintro e w' ⟨rfl, rfl⟩
    have hfe : ((canon x : Int) == (canon y : Int)) = feq x y := feq_int x y
    have hfe2 : (canon x == canon y) = feq x y := rfl
    have HFEQ : Aside (∀ v, v = feq x y → v = feq x y) := ⟨fun _ h => h⟩
    generalize hf : feq x y = F at *
    have HF := Aside.mk hf
    clear hf
    go_wp2_with fail
    refine (sameF_any x y _ HX.out.1 HX.out.2.1).mono ?_
    rintro e w' ⟨rfl, rfl⟩
    rw [HF.out]
    go_wp2_with fail
    refine (drawFloatFrom_any A c bs _ (HB.out.1.below HX.out.2.2) HB.out.2).mono ?_
    rintro e w3 ⟨u, rfl, hu0, hu1, hw3⟩
    have HU := Aside.mk (below_then HX.out.2.2 HX.out.2.2.size hw3)
    clear hw3 hfe hfe2
    obtain ⟨n, rfl⟩ := Int.eq_ofNat_of_zero_le hu0
    have hn : n < 18446744073709551616 := by omega
    have HN := Aside.mk hn
    have HA := Aside.mk (And.intro (and_exp n hn) (and_frac n hn))
    clear hn
    have fin : ∀ X Y : Nat, X = Y → ((X : Int) == (Y : Int)) = true := fun X Y h => by rw [h]; simp
    by_cases h1 : n / 4503599627370496 % 2048 = 2047
    · have t1 : (bits .and .u64 (n : Int) 9218868437227405312 == 9218868437227405312) = true := by rw [HA.out.1, h1]; rfl
      by_cases h2 : n % 4503599627370496 = 0
      · have t2 : (bits .and .u64 (n : Int) 4503599627370495 != 0) = false := by rw [HA.out.2, h2]; rfl
        have HC : Aside (canon n = n) := ⟨canon_num (by unfold isNan; rw [decide_eq_false_iff_not]; have := HN.out; omega)⟩
        clear h1 h2 fin
        go_wp2_with fail
        refine (iFloatFrom_any n _ (by omega)).mono ?_
        rintro e w' ⟨rfl, rfl⟩
        rw [Int.toNat_natCast]
        go_wp2_with fail
        refine (iFloatBits_any n _ HN.out).mono ?_
        rintro e w' ⟨rfl, rfl⟩
        rw [HC.out]
        go_wp2
        go_ret
        exact ⟨by simp, HU.out⟩
      · have t2 : (bits .and .u64 (n : Int) 4503599627370495 != 0) = true := by rw [HA.out.2, bne_iff_ne]; omega
        have HC : Aside (canon n = 9221120237041090560) := ⟨canon_nan (by unfold isNan; rw [decide_eq_true_eq]; have := HN.out; omega)⟩
        clear h1 h2 fin
        go_wp2_with fail
        refine (iFloatFrom_any n _ (by omega)).mono ?_
        rintro e w' ⟨rfl, rfl⟩
        rw [Int.toNat_natCast]
        go_wp2_with fail
        refine (iFloatBits_any n _ HN.out).mono ?_
        rintro e w' ⟨rfl, rfl⟩
        rw [HC.out]
        go_wp2
        go_ret
        exact ⟨by rfl, HU.out⟩
    · have t1 : (bits .and .u64 (n : Int) 9218868437227405312 == 9218868437227405312) = false := by rw [HA.out.1, beq_eq_false_iff_ne]; omega
      have HC : Aside (canon n = n) := ⟨canon_num (by unfold isNan; rw [decide_eq_false_iff_not]; have := HN.out; omega)⟩
      clear h1 fin
      go_wp2_with fail
      refine (iFloatFrom_any n _ (by omega)).mono ?_
      rintro e w' ⟨rfl, rfl⟩
      rw [Int.toNat_natCast]
      go_wp2_with fail
      refine (iFloatBits_any n _ HN.out).mono ?_
      rintro e w' ⟨rfl, rfl⟩
      rw [HC.out]
      go_wp2
      go_ret
      exact ⟨by simp, HU.out⟩

end Go.Proofs.Ytkmhbppimkphbaa
