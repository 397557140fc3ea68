/- Order and sign of floats, all NaNs being one. No condition. -/
import Derived.Test.YtajcbdamgaofcaaDoorFlRun
set_option linter.unusedVariables false
set_option linter.unusedSimpArgs false
namespace Go.Proofs.YtajcbdamgaofcaaDoor
open Go.RowKit
open FlCore

theorem ord_canon_left {x : Nat} (y : Nat) (hx : x < 18446744073709551616) : Ieee.double.order (canon x) y = Ieee.double.order x y := by
  cases h : isNan x
  · rw [canon_num h]
  · obtain ⟨s, r, hr, rfl⟩ := word_of x hx
    have h2 := h
    rw [isNan_word s r hr, decide_eq_true_eq] at h
    rw [order_nan_left s r y h hr, canon_nan h2, show (9221120237041090560 : Nat) = Ieee.double.word false 9221120237041090560 by rw [word_def]; rfl, order_nan_left _ _ _ (by omega) (by omega)]
theorem ord_canon_right (x : Nat) {y : Nat} (hy : y < 18446744073709551616) : Ieee.double.order x (canon y) = Ieee.double.order x y := by
  cases h : isNan y
  · rw [canon_num h]
  · obtain ⟨s, r, hr, rfl⟩ := word_of y hy
    have h2 := h
    rw [isNan_word s r hr, decide_eq_true_eq] at h
    rw [order_nan_right s r x h hr, canon_nan h2, show (9221120237041090560 : Nat) = Ieee.double.word false 9221120237041090560 by rw [word_def]; rfl, order_nan_right _ _ _ (by omega) (by omega)]
theorem Is.ord {b c x y : Nat} (h : Is b x) (k : Is c y) : Ieee.double.order b c = Ieee.double.order x y := by
  rw [← h.eq, ← k.eq, ord_canon_left _ h.lt, ord_canon_right _ k.lt]

theorem negw_lt {x : Nat} (h : x < 18446744073709551616) : Op.negFloat .f64 x < 18446744073709551616 := by
  obtain ⟨s, r, hr, rfl⟩ := word_of x h
  rw [negF s r hr]; exact word_lt' _ _ hr
theorem Is.negw {b x : Nat} (h : Is b x) : Is (Op.negFloat .f64 b) (canon (Op.negFloat .f64 x)) := by
  refine ⟨negw_lt h.lt, ?_⟩
  rw [← h.eq]
  obtain ⟨s, r, hr, rfl⟩ := word_of b h.lt
  cases hn : isNan (Ieee.double.word s r)
  · rw [canon_num hn]
  · rw [canon_nan hn, negF s r hr]
    rw [isNan_word s r hr] at hn
    rw [canon_nan (by rw [isNan_word _ r hr]; exact hn)]
    decide
end Go.Proofs.YtajcbdamgaofcaaDoor
