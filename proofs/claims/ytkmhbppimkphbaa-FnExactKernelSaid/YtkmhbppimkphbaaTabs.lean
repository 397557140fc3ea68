/- The tables of this seat's types, written by this session's own program out of the translation, and held against the program by a Bool. No condition. -/
import Derived.Test.YtkmhbppimkphbaaAmUse
import Derived.Test.YtkmhbppimkphbaaProg
import Derived.KernelRfl
namespace Go.Proofs.Ytkmhbppimkphbaa
open Go.Am

def tbl : List (Nat × TI) := [
  (3, ⟨1, 8, false, .scalar, [.int .i64 0]⟩),
  (23, ⟨1, 8, false, .scalar, [.float .f64 0]⟩),
  (53, ⟨6, 48, true, .struct [(0, 1, false), (1, 1, false), (2, 1, false), (3, 1, false), (4, 1, false), (5, 1, false)], [.int .i64 0, .int .i64 0, .int .i64 0, .int .i64 0, .int .i64 0, .float .f64 0]⟩),
  (51, ⟨1, 24, false, .slice 23, [.slice none 0 0]⟩),
  (37, ⟨1, 24, false, .slice 3, [.slice none 0 0]⟩),
  (45, ⟨3, 72, true, .struct [(0, 1, false), (1, 1, false), (2, 1, false)], [.slice none 0 0, .slice none 0 0, .slice none 0 0]⟩),
  (25, ⟨1, 8, false, .scalar, [.int .u64 0]⟩),
  (43, ⟨1, 24, false, .slice 53, [.slice none 0 0]⟩),
  (40, ⟨3, 72, true, .struct [(0, 1, false), (1, 1, false), (2, 1, false)], [.slice none 0 0, .slice none 0 0, .slice none 0 0]⟩),
  (50, ⟨6, 48, true, .struct [(0, 1, false), (1, 1, false), (2, 1, false), (3, 1, false), (4, 1, false), (5, 1, false)], [.int .i64 0, .int .i64 0, .int .i64 0, .int .i64 0, .int .i64 0, .float .f64 0]⟩),
  (31, ⟨1, 24, false, .slice 5, [.slice none 0 0]⟩),
  (62, ⟨1, 8, false, .scalar, [.pointer none]⟩),
  (89, ⟨3, 24, true, .array 3 3, [.int .i64 0, .int .i64 0, .int .i64 0]⟩),
  (38, ⟨1, 24, false, .slice 50, [.slice none 0 0]⟩),
  (87, ⟨2, 32, true, .struct [(0, 1, false), (1, 1, false)], [.slice none 0 0, .int .i64 0]⟩),
  (4, ⟨1, 1, false, .bool, [.bool false]⟩),
  (30, ⟨1, 8, false, .scalar, [.nilFunc]⟩),
  (5, ⟨1, 1, false, .scalar, [.int .u8 0]⟩),
  (84, ⟨1, 8, false, .scalar, [.nilFunc]⟩)]
def ctbl : List (Nat × Cv) := [(3, .int .i64), (23, .float), (25, .int .u64), (5, .int .u8)]
abbrev TT : Tab := lk tbl
abbrev CC : CTab := cvT ctbl
theorem tblB : (tbl.all fun x => rowB Try.prog x.1 x.2) = true := by kernel_rfl
theorem ctblB : (ctbl.all fun x => cvB Try.prog x.1 x.2) = true := by kernel_rfl
theorem ctx : Ctx Try.prog TT CC := ⟨tok_of tblB, cok_of ctblB, by kernel_rfl⟩
end Go.Proofs.Ytkmhbppimkphbaa
