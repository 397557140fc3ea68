/- The tables of this seat's types, written by this session's own program out of the translation, and held against the program by a Bool. No condition. -/
import Derived.Test.YthcnnificgbmhaaAmUse
import Derived.Test.YthcnnificgbmhaaProg
import Derived.KernelRfl
namespace Go.Proofs.Ythcnnificgbmhaa
open Go.Am

def tbl : List (Nat × TI) := [
  (3, ⟨1, 8, false, .scalar, [.int .i64 0]⟩),
  (54, ⟨8, 64, true, .struct [(0, 1, false), (1, 1, false), (2, 1, false), (3, 1, false), (4, 1, false), (5, 1, false), (6, 1, false), (7, 1, false)], [.int .i64 0, .int .i64 0, .int .i64 0, .int .i64 0, .int .i64 0, .int .i64 0, .int .i64 0, .float .f64 0]⟩),
  (27, ⟨4, 80, true, .struct [(0, 1, false), (1, 1, false), (2, 1, false), (3, 1, false)], [.slice none 0 0, .slice none 0 0, .slice none 0 0, .int .i64 0]⟩),
  (22, ⟨1, 24, false, .slice 5, [.slice none 0 0]⟩),
  (23, ⟨1, 24, false, .slice 3, [.slice none 0 0]⟩),
  (24, ⟨1, 24, false, .slice 54, [.slice none 0 0]⟩),
  (58, ⟨2, 16, true, .struct [(0, 1, false), (1, 1, false)], [.int .i64 0, .int .i64 0]⟩),
  (25, ⟨1, 24, false, .slice 58, [.slice none 0 0]⟩),
  (52, ⟨1, 8, false, .scalar, [.float .f64 0]⟩),
  (84, ⟨6, 48, true, .struct [(0, 1, false), (1, 1, false), (2, 1, false), (3, 1, false), (4, 1, false), (5, 1, false)], [.int .i64 0, .int .i64 0, .int .i64 0, .int .i64 0, .int .i64 0, .float .f64 0]⟩),
  (55, ⟨1, 8, false, .scalar, [.int .u64 0]⟩),
  (5, ⟨1, 1, false, .scalar, [.int .u8 0]⟩),
  (40, ⟨1, 8, false, .scalar, [.pointer none]⟩),
  (42, ⟨2, 32, true, .struct [(0, 1, false), (1, 1, false)], [.slice none 0 0, .bool false]⟩),
  (4, ⟨1, 1, false, .bool, [.bool false]⟩),
  (72, ⟨1, 24, false, .slice 4, [.slice none 0 0]⟩),
  (9, ⟨1, 16, false, .string, [.string ByteArray.empty]⟩),
  (74, ⟨1, 8, false, .scalar, [.nilFunc]⟩),
  (69, ⟨1, 24, false, .slice 68, [.slice none 0 0]⟩),
  (71, ⟨1, 8, false, .scalar, [.nilFunc]⟩),
  (68, ⟨1, 8, false, .scalar, [.pointer none]⟩)]
def ctbl : List (Nat × Cv) := [(3, .int .i64), (52, .float), (55, .int .u64), (5, .int .u8)]
abbrev TT : Tab := lk tbl
abbrev CC : CTab := cvT ctbl
theorem tblB : (tbl.all fun x => rowB Try.prog x.1 x.2) = true := by kernel_rfl
theorem ctblB : (ctbl.all fun x => cvB Try.prog x.1 x.2) = true := by kernel_rfl
theorem ctx : Ctx Try.prog TT CC := ⟨tok_of tblB, cok_of ctblB, by kernel_rfl⟩
end Go.Proofs.Ythcnnificgbmhaa
