/- The tables of this seat's types, written by this session's own program out of the translation, and held against the program by a Bool. No condition. -/
import Derived.Test.YtjmobjiaoklfdaaAmUse
import Derived.Test.YtjmobjiaoklfdaaProg
import Derived.KernelRfl
namespace Go.Proofs.Ytjmobjiaoklfdaa
open Go.Am

def tbl : List (Nat × TI) := [
  (3, ⟨1, 8, false, .scalar, [.int .i64 0]⟩),
  (53, ⟨6, 48, true, .struct [(0, 1, false), (1, 1, false), (2, 1, false), (3, 1, false), (4, 1, false), (5, 1, false)], [.int .i64 0, .int .i64 0, .int .i64 0, .int .i64 0, .int .i64 0, .float .f64 0]⟩),
  (29, ⟨3, 72, true, .struct [(0, 1, false), (1, 1, false), (2, 1, false)], [.slice none 0 0, .slice none 0 0, .slice none 0 0]⟩),
  (22, ⟨1, 24, false, .slice 3, [.slice none 0 0]⟩),
  (51, ⟨1, 8, false, .scalar, [.float .f64 0]⟩),
  (27, ⟨1, 24, false, .slice 53, [.slice none 0 0]⟩),
  (69, ⟨1, 24, false, .slice 51, [.slice none 0 0]⟩),
  (25, ⟨3, 72, true, .struct [(0, 1, false), (1, 1, false), (2, 1, false)], [.slice none 0 0, .slice none 0 0, .slice none 0 0]⟩),
  (66, ⟨1, 24, false, .slice 4, [.slice none 0 0]⟩),
  (4, ⟨1, 1, false, .bool, [.bool false]⟩),
  (55, ⟨6, 48, true, .struct [(0, 1, false), (1, 1, false), (2, 1, false), (3, 1, false), (4, 1, false), (5, 1, false)], [.int .i64 0, .int .i64 0, .int .i64 0, .int .i64 0, .int .i64 0, .float .f64 0]⟩),
  (63, ⟨3, 24, true, .array 3 3, [.int .i64 0, .int .i64 0, .int .i64 0]⟩),
  (23, ⟨1, 24, false, .slice 55, [.slice none 0 0]⟩),
  (74, ⟨1, 8, false, .map (.rcd [.int .i64, .int .i64, .int .i64, .int .i64, .int .i64, .int .u64]) (.int .i64 0), [.map none]⟩),
  (82, ⟨3, 72, true, .array 3 69, [.slice none 0 0, .slice none 0 0, .slice none 0 0]⟩),
  (68, ⟨1, 24, false, .slice 69, [.slice none 0 0]⟩),
  (78, ⟨6, 48, true, .struct [(0, 1, false), (1, 1, false), (2, 1, false), (3, 1, false), (4, 1, false), (5, 1, false)], [.int .i64 0, .int .i64 0, .int .i64 0, .int .i64 0, .int .i64 0, .int .u64 0]⟩),
  (76, ⟨1, 8, false, .scalar, [.int .u64 0]⟩),
  (57, ⟨5, 40, true, .array 5 49, [.nilFunc, .nilFunc, .nilFunc, .nilFunc, .nilFunc]⟩),
  (81, ⟨1, 8, false, .scalar, [.nilFunc]⟩),
  (90, ⟨1, 24, false, .slice 89, [.slice none 0 0]⟩),
  (92, ⟨1, 8, false, .scalar, [.nilFunc]⟩),
  (89, ⟨1, 8, false, .scalar, [.pointer none]⟩),
  (95, ⟨1, 8, false, .scalar, [.nilFunc]⟩),
  (49, ⟨1, 8, false, .scalar, [.nilFunc]⟩)]
def ctbl : List (Nat × Cv) := [(3, .int .i64), (51, .float), (76, .int .u64)]
abbrev TT : Tab := lk tbl
abbrev CC : CTab := cvT ctbl
theorem tblB : (tbl.all fun x => rowB Try.prog x.1 x.2) = true := by kernel_rfl
theorem ctblB : (ctbl.all fun x => cvB Try.prog x.1 x.2) = true := by kernel_rfl
theorem ctx : Ctx Try.prog TT CC := ⟨tok_of tblB, cok_of ctblB, by kernel_rfl⟩
end Go.Proofs.Ytjmobjiaoklfdaa
