/- The laws on single floats, walked: each returns true and writes nothing that was there. No condition but that a float's word has 64 bits. -/
import Derived.Test.YtkmhbppimkphbaaFlWalk
import Derived.Test.YtkmhbppimkphbaaFlFrom
import Derived.Deep.Draws
namespace Go.Proofs.Ytkmhbppimkphbaa
open Go.RowKit
open FlCore

theorem FnExactSameFloat_walk (a : Nat) (ha : a < 18446744073709551616) (b : Nat) (hb : b < 18446744073709551616) (w : World) :
    Calls Try.prog 4 #[.float .f64 a, .float .f64 b] w fun e w' => e = .returned (.bool true) ∧ Below w.heap.size w w' := by
  go_enter Try.func4, Try.ntmps4
  go_wp2_with fail
  refine (sSameFloat_any a b _ ha hb).mono ?_
  rintro e w' ⟨rfl, rfl⟩
  go_wp2_with fail
  refine (iSameFloat_any a b _ ha hb).mono ?_
  rintro e w' ⟨rfl, rfl⟩
  go_wp2
  go_ret
  exact ⟨rfl, Below.refl _ _⟩

theorem below_drewN (w : World) (n : Nat) : Below w.heap.size w (w.drewN n) := ⟨rfl, rfl, rfl, Nat.le_refl _, fun _ _ => rfl⟩

theorem FnExactFloatFrom_walk (b : Int) (hb : 0 ≤ b ∧ b < 18446744073709551616) (w : World) :
    Calls Try.prog 5 #[.int .u64 b] w fun e w' => e = .returned (.bool true) ∧ Below w.heap.size w w' := by
  obtain ⟨b0, b1⟩ := hb
  have B0 := Aside.mk b0
  have B1 := Aside.mk b1
  clear b0 b1
  go_enter Try.func5, Try.ntmps5
  go_wp2_with fail
  refine (sFloatFrom_any b _ B0.out B1.out).mono ?_
  rintro e w' ⟨r, n, rfl, hr, hc, rfl⟩
  have HR := Aside.mk (And.intro hr hc)
  clear hr hc
  go_wp2_with fail
  refine (iFloatFrom_any b _ B0.out).mono ?_
  rintro e w' ⟨rfl, rfl⟩
  go_wp2_with fail
  refine (sameFloat_any _ r _ (by have := B0.out; have := B1.out; omega) HR.out.1).mono ?_
  rintro e w' ⟨rfl, rfl⟩
  have h : feq b.toNat r = true := by unfold feq; rw [HR.out.2]; simp
  rw [h]
  go_wp2
  go_ret
  exact ⟨rfl, below_drewN _ _⟩

end Go.Proofs.Ytkmhbppimkphbaa
