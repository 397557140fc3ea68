/- The law FnExactExpFloat, walked: it returns true and writes nothing that was there. No condition but that a float's word has 64 bits. -/
import Derived.Test.YtkmhbppimkphbaaFlExp
namespace Go.Proofs.Ytkmhbppimkphbaa
open Go.RowKit
open FlCore

theorem below_drewN (w : World) (n : Nat) : Below w.heap.size w (w.drewN n) := ⟨rfl, rfl, rfl, Nat.le_refl _, fun _ _ => rfl⟩
theorem Is.feq {a b x : Nat} (h : Is a x) (k : Is b x) : feq a b = true := by unfold Proofs.Ytkmhbppimkphbaa.feq; rw [h.eq, k.eq]; simp

theorem FnExactExpFloat_walk (a : Nat) (ha : a < 18446744073709551616) (w : World) :
    Calls Try.prog 7 #[.float .f64 a] w fun e w' => e = .returned (.bool true) ∧ Below w.heap.size w w' := by
  have HA := Aside.mk ha
  clear ha
  go_enter Try.func7, Try.ntmps7
  go_wp2_with fail
  refine (sExp_any a _ HA.out).mono ?_
  rintro e w' ⟨b, n, rfl, hb, rfl⟩
  have HB := Aside.mk hb
  clear hb
  go_wp2_with fail
  refine (iExp_any a _ HA.out).mono ?_
  rintro e w' ⟨c, m, rfl, hc, rfl⟩
  have HC := Aside.mk hc
  clear hc
  go_wp2_with fail
  refine (sameFloat_any c b _ HC.out.lt HB.out.lt).mono ?_
  rintro e w' ⟨rfl, rfl⟩
  rw [HC.out.feq HB.out]
  go_wp2
  go_ret
  exact ⟨rfl, below_drewN _ _⟩

end Go.Proofs.Ytkmhbppimkphbaa
