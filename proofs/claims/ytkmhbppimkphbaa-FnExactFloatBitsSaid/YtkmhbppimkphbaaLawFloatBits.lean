/- The law FnExactFloatBits, walked: it returns true and writes nothing that was there. No condition but that a float's word has 64 bits. -/
import Derived.Test.YtkmhbppimkphbaaFlBits
namespace Go.Proofs.Ytkmhbppimkphbaa
open Go.RowKit
open FlCore

theorem FnExactFloatBits_walk (a : Nat) (ha : a < 18446744073709551616) (w : World) :
    Calls Try.prog 6 #[.float .f64 a] w fun e w' => e = .returned (.bool true) ∧ Below w.heap.size w w' := by
  have HA := Aside.mk ha
  clear ha
  go_enter Try.func6, Try.ntmps6
  go_wp2_with fail
  refine (sFloatBits_any a _ HA.out).mono ?_
  rintro e w' ⟨rfl, rfl⟩
  go_wp2_with fail
  refine (iFloatBits_any a _ HA.out).mono ?_
  rintro e w' ⟨rfl, rfl⟩
  go_wp2
  go_ret
  exact ⟨rfl, Below.refl _ _⟩

end Go.Proofs.Ytkmhbppimkphbaa
