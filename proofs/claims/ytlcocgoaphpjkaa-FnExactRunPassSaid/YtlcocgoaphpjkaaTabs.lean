/- The tables of this seat's types, written by this session's own program out of the translation, and held against the program by a Bool. No condition. -/
import Derived.Test.YtlcocgoaphpjkaaAmUse
import Derived.Test.YtlcocgoaphpjkaaProg
import Derived.KernelRfl
namespace Go.Proofs.Ytlcocgoaphpjkaa
open Go.Am

def tbl : List (Nat × TI) := [
  (3, ⟨1, 8, false, .scalar, [.int .i64 0]⟩),
  (54, ⟨6, 48, true, .struct [(0, 1, false), (1, 1, false), (2, 1, false), (3, 1, false), (4, 1, false), (5, 1, false)], [.int .i64 0, .int .i64 0, .int .i64 0, .int .i64 0, .int .i64 0, .float .f64 0]⟩),
  (29, ⟨3, 72, true, .struct [(0, 1, false), (1, 1, false), (2, 1, false)], [.slice none 0 0, .slice none 0 0, .slice none 0 0]⟩),
  (22, ⟨1, 24, false, .slice 3, [.slice none 0 0]⟩),
  (52, ⟨1, 8, false, .scalar, [.float .f64 0]⟩),
  (27, ⟨1, 24, false, .slice 54, [.slice none 0 0]⟩),
  (65, ⟨1, 24, false, .slice 52, [.slice none 0 0]⟩),
  (25, ⟨3, 72, true, .struct [(0, 1, false), (1, 1, false), (2, 1, false)], [.slice none 0 0, .slice none 0 0, .slice none 0 0]⟩),
  (62, ⟨1, 24, false, .slice 4, [.slice none 0 0]⟩),
  (4, ⟨1, 1, false, .bool, [.bool false]⟩),
  (56, ⟨6, 48, true, .struct [(0, 1, false), (1, 1, false), (2, 1, false), (3, 1, false), (4, 1, false), (5, 1, false)], [.int .i64 0, .int .i64 0, .int .i64 0, .int .i64 0, .int .i64 0, .float .f64 0]⟩),
  (69, ⟨3, 24, true, .array 3 3, [.int .i64 0, .int .i64 0, .int .i64 0]⟩),
  (23, ⟨1, 24, false, .slice 56, [.slice none 0 0]⟩),
  (71, ⟨1, 8, false, .map (.rcd [.int .i64, .int .i64, .int .i64, .int .i64, .int .i64, .int .u64]) (.int .i64 0), [.map none]⟩),
  (79, ⟨3, 72, true, .array 3 65, [.slice none 0 0, .slice none 0 0, .slice none 0 0]⟩),
  (64, ⟨1, 24, false, .slice 65, [.slice none 0 0]⟩),
  (75, ⟨6, 48, true, .struct [(0, 1, false), (1, 1, false), (2, 1, false), (3, 1, false), (4, 1, false), (5, 1, false)], [.int .i64 0, .int .i64 0, .int .i64 0, .int .i64 0, .int .i64 0, .int .u64 0]⟩),
  (73, ⟨1, 8, false, .scalar, [.int .u64 0]⟩),
  (44, ⟨5, 40, true, .array 5 43, [.nilFunc, .nilFunc, .nilFunc, .nilFunc, .nilFunc]⟩),
  (78, ⟨1, 8, false, .scalar, [.nilFunc]⟩),
  (88, ⟨1, 24, false, .slice 87, [.slice none 0 0]⟩),
  (90, ⟨1, 8, false, .scalar, [.nilFunc]⟩),
  (87, ⟨1, 8, false, .scalar, [.pointer none]⟩),
  (93, ⟨1, 8, false, .scalar, [.nilFunc]⟩),
  (43, ⟨1, 8, false, .scalar, [.nilFunc]⟩)]
def ctbl : List (Nat × Cv) := [(3, .int .i64), (52, .float), (73, .int .u64)]
abbrev TT : Tab := lk tbl
abbrev CC : CTab := cvT ctbl
theorem tblB : (tbl.all fun x => rowB Try.prog x.1 x.2) = true := by kernel_rfl
theorem ctblB : (ctbl.all fun x => cvB Try.prog x.1 x.2) = true := by kernel_rfl
theorem ctx : Ctx Try.prog TT CC := ⟨tok_of tblB, cok_of ctblB, by kernel_rfl⟩
end Go.Proofs.Ytlcocgoaphpjkaa
