/- The tables of this seat's types, written by this session's own program out of the translation, and held against the program by a Bool. No condition. -/
import Derived.Test.YtanlmmfnpncpbaaAmUse
import Derived.Test.YtanlmmfnpncpbaaProg
import Derived.KernelRfl
namespace Go.Proofs.Ytanlmmfnpncpbaa
open Go.Am

def tbl : List (Nat × TI) := [
  (3, ⟨1, 8, false, .scalar, [.int .i64 0]⟩),
  (63, ⟨8, 64, true, .struct [(0, 1, false), (1, 1, false), (2, 1, false), (3, 1, false), (4, 1, false), (5, 1, false), (6, 1, false), (7, 1, false)], [.int .i64 0, .int .i64 0, .int .i64 0, .int .i64 0, .int .i64 0, .int .i64 0, .int .i64 0, .float .f64 0]⟩),
  (46, ⟨1, 24, false, .slice 61, [.slice none 0 0]⟩),
  (35, ⟨4, 80, true, .struct [(0, 1, false), (1, 1, false), (2, 1, false), (3, 1, false)], [.slice none 0 0, .slice none 0 0, .slice none 0 0, .int .i64 0]⟩),
  (61, ⟨1, 8, false, .scalar, [.float .f64 0]⟩),
  (69, ⟨2, 16, true, .struct [(0, 1, false), (1, 1, false)], [.int .i64 0, .int .i64 0]⟩),
  (72, ⟨6, 48, true, .struct [(0, 1, false), (1, 1, false), (2, 1, false), (3, 1, false), (4, 1, false), (5, 1, false)], [.int .i64 0, .int .i64 0, .int .i64 0, .int .i64 0, .int .i64 0, .float .f64 0]⟩),
  (27, ⟨1, 24, false, .slice 46, [.slice none 0 0]⟩),
  (32, ⟨1, 24, false, .slice 63, [.slice none 0 0]⟩),
  (22, ⟨1, 24, false, .slice 3, [.slice none 0 0]⟩),
  (33, ⟨1, 24, false, .slice 69, [.slice none 0 0]⟩),
  (26, ⟨4, 80, true, .struct [(0, 1, false), (1, 1, false), (2, 1, false), (3, 1, false)], [.slice none 0 0, .slice none 0 0, .slice none 0 0, .int .i64 0]⟩),
  (75, ⟨8, 64, true, .struct [(0, 1, false), (1, 1, false), (2, 1, false), (3, 1, false), (4, 1, false), (5, 1, false), (6, 1, false), (7, 1, false)], [.int .i64 0, .int .i64 0, .int .i64 0, .int .i64 0, .int .i64 0, .int .i64 0, .int .i64 0, .float .f64 0]⟩),
  (80, ⟨1, 24, false, .slice 4, [.slice none 0 0]⟩),
  (23, ⟨1, 24, false, .slice 75, [.slice none 0 0]⟩),
  (24, ⟨1, 24, false, .slice 77, [.slice none 0 0]⟩),
  (85, ⟨3, 72, true, .array 3 46, [.slice none 0 0, .slice none 0 0, .slice none 0 0]⟩),
  (82, ⟨1, 8, false, .scalar, [.nilFunc]⟩),
  (4, ⟨1, 1, false, .bool, [.bool false]⟩),
  (77, ⟨2, 16, true, .struct [(0, 1, false), (1, 1, false)], [.int .i64 0, .int .i64 0]⟩),
  (79, ⟨1, 8, false, .scalar, [.nilFunc]⟩),
  (99, ⟨1, 8, false, .scalar, [.nilFunc]⟩),
  (102, ⟨1, 8, false, .scalar, [.nilFunc]⟩),
  (107, ⟨1, 8, false, .scalar, [.int .u64 0]⟩)]
def ctbl : List (Nat × Cv) := [(3, .int .i64), (61, .float), (107, .int .u64)]
abbrev TT : Tab := lk tbl
abbrev CC : CTab := cvT ctbl
theorem tblB : (tbl.all fun x => rowB Try.prog x.1 x.2) = true := by kernel_rfl
theorem ctblB : (ctbl.all fun x => cvB Try.prog x.1 x.2) = true := by kernel_rfl
theorem ctx : Ctx Try.prog TT CC := ⟨tok_of tblB, cok_of ctblB, by kernel_rfl⟩
end Go.Proofs.Ytanlmmfnpncpbaa
