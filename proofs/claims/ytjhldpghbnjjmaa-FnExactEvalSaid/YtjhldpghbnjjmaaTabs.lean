/- The tables of this seat's types, written by this session's own program out of the translation, and held against the program by a Bool. No condition. -/
import Derived.Test.YtjhldpghbnjjmaaAmUse
import Derived.Test.YtjhldpghbnjjmaaProg
import Derived.KernelRfl
namespace Go.Proofs.Ytjhldpghbnjjmaa
open Go.Am

def tbl : List (Nat × TI) := [
  (3, ⟨1, 8, false, .scalar, [.int .i64 0]⟩),
  (47, ⟨3, 72, true, .struct [(0, 1, false), (1, 1, false), (2, 1, false)], [.slice none 0 0, .slice none 0 0, .slice none 0 0]⟩),
  (98, ⟨6, 48, true, .struct [(0, 1, false), (1, 1, false), (2, 1, false), (3, 1, false), (4, 1, false), (5, 1, false)], [.int .i64 0, .int .i64 0, .int .i64 0, .int .i64 0, .int .i64 0, .float .f64 0]⟩),
  (22, ⟨1, 24, false, .slice 3, [.slice none 0 0]⟩),
  (32, ⟨4, 80, true, .struct [(0, 1, false), (1, 1, false), (2, 1, false), (3, 1, false)], [.slice none 0 0, .slice none 0 0, .slice none 0 0, .int .i64 0]⟩),
  (73, ⟨8, 64, true, .struct [(0, 1, false), (1, 1, false), (2, 1, false), (3, 1, false), (4, 1, false), (5, 1, false), (6, 1, false), (7, 1, false)], [.int .i64 0, .int .i64 0, .int .i64 0, .int .i64 0, .int .i64 0, .int .i64 0, .int .i64 0, .float .f64 0]⟩),
  (45, ⟨1, 24, false, .slice 98, [.slice none 0 0]⟩),
  (71, ⟨1, 8, false, .scalar, [.float .f64 0]⟩),
  (116, ⟨1, 24, false, .slice 71, [.slice none 0 0]⟩),
  (36, ⟨1, 24, false, .slice 5, [.slice none 0 0]⟩),
  (103, ⟨1, 8, false, .scalar, [.pointer none]⟩),
  (79, ⟨2, 16, true, .struct [(0, 1, false), (1, 1, false)], [.int .i64 0, .int .i64 0]⟩),
  (56, ⟨1, 24, false, .slice 116, [.slice none 0 0]⟩),
  (29, ⟨1, 24, false, .slice 73, [.slice none 0 0]⟩),
  (30, ⟨1, 24, false, .slice 79, [.slice none 0 0]⟩),
  (43, ⟨3, 72, true, .struct [(0, 1, false), (1, 1, false), (2, 1, false)], [.slice none 0 0, .slice none 0 0, .slice none 0 0]⟩),
  (144, ⟨1, 8, false, .scalar, [.int .u64 0]⟩),
  (167, ⟨3, 24, true, .array 3 108, [.nilFunc, .nilFunc, .nilFunc]⟩),
  (26, ⟨4, 80, true, .struct [(0, 1, false), (1, 1, false), (2, 1, false), (3, 1, false)], [.slice none 0 0, .slice none 0 0, .slice none 0 0, .int .i64 0]⟩),
  (4, ⟨1, 1, false, .bool, [.bool false]⟩),
  (5, ⟨1, 1, false, .scalar, [.int .u8 0]⟩),
  (85, ⟨1, 24, false, .slice 4, [.slice none 0 0]⟩),
  (110, ⟨4, 80, true, .struct [(0, 3, true), (3, 1, false)], [.slice none 0 0, .slice none 0 0, .slice none 0 0, .int .i64 0]⟩),
  (166, ⟨1, 8, false, .scalar, [.map none]⟩),
  (108, ⟨1, 8, false, .scalar, [.nilFunc]⟩),
  (126, ⟨1, 8, false, .scalar, [.pointer none]⟩),
  (128, ⟨2, 32, true, .struct [(0, 1, false), (1, 1, false)], [.slice none 0 0, .bool false]⟩),
  (133, ⟨8, 64, true, .struct [(0, 1, false), (1, 1, false), (2, 1, false), (3, 1, false), (4, 1, false), (5, 1, false), (6, 1, false), (7, 1, false)], [.int .i64 0, .int .i64 0, .int .i64 0, .int .i64 0, .int .i64 0, .int .i64 0, .int .i64 0, .float .f64 0]⟩),
  (157, ⟨6, 48, true, .struct [(0, 1, false), (1, 1, false), (2, 1, false), (3, 1, false), (4, 1, false), (5, 1, false)], [.int .i64 0, .int .i64 0, .int .i64 0, .int .i64 0, .int .i64 0, .float .f64 0]⟩),
  (186, ⟨3, 24, true, .array 3 3, [.int .i64 0, .int .i64 0, .int .i64 0]⟩),
  (23, ⟨1, 24, false, .slice 133, [.slice none 0 0]⟩),
  (24, ⟨1, 24, false, .slice 135, [.slice none 0 0]⟩),
  (41, ⟨1, 24, false, .slice 157, [.slice none 0 0]⟩),
  (120, ⟨3, 72, true, .array 3 116, [.slice none 0 0, .slice none 0 0, .slice none 0 0]⟩),
  (185, ⟨1, 24, false, .slice 184, [.slice none 0 0]⟩),
  (87, ⟨1, 8, false, .scalar, [.nilFunc]⟩),
  (9, ⟨1, 16, false, .string, [.string ByteArray.empty]⟩),
  (135, ⟨2, 16, true, .struct [(0, 1, false), (1, 1, false)], [.int .i64 0, .int .i64 0]⟩),
  (159, ⟨0, 0, true, .struct [], []⟩),
  (161, ⟨1, 8, false, .scalar, [.map none]⟩),
  (84, ⟨1, 8, false, .scalar, [.nilFunc]⟩),
  (174, ⟨1, 8, false, .scalar, [.nilFunc]⟩),
  (184, ⟨1, 8, false, .scalar, [.pointer none]⟩),
  (20, ⟨1, 16, false, .iface, [.nilIface]⟩),
  (177, ⟨1, 8, false, .scalar, [.nilFunc]⟩)]
def ctbl : List (Nat × Cv) := [(3, .int .i64), (71, .float), (144, .int .u64), (5, .int .u8)]
abbrev TT : Tab := lk tbl
abbrev CC : CTab := cvT ctbl
theorem tblB : (tbl.all fun x => rowB Try.prog x.1 x.2) = true := by kernel_rfl
theorem ctblB : (ctbl.all fun x => cvB Try.prog x.1 x.2) = true := by kernel_rfl
theorem ctx : Ctx Try.prog TT CC := ⟨tok_of tblB, cok_of ctblB, by kernel_rfl⟩
end Go.Proofs.Ytjhldpghbnjjmaa
