/- The laws on single floats, walked: each returns true and writes nothing that was there. No condition but that a float's word has 64 bits. -/
import Derived.Test.YtkmhbppimkphbaaFlWalk
namespace Go.Proofs.Ytkmhbppimkphbaa
open Go.RowKit
open FlCore

theorem FnExactSameFloat_walk (a : Nat) (ha : a < 18446744073709551616) (b : Nat) (hb : b < 18446744073709551616) (w : World) :
    Calls Try.prog 4 #[.float .f64 a, .float .f64 b] w fun e w' => e = .returned (.bool true) ∧ Below w.heap.size w w' := by
  go_enter Try.func4, Try.ntmps4
  go_wp2_with fail
  refine (sSameFloat_any a b _ ha hb).mono ?_
  rintro e w' ⟨rfl, rfl⟩
  go_wp2_with fail
  refine (iSameFloat_any a b _ ha hb).mono ?_
  rintro e w' ⟨rfl, rfl⟩
  go_wp2
  go_ret
  exact ⟨rfl, Below.refl _ _⟩

end Go.Proofs.Ytkmhbppimkphbaa
