/- The tables of this seat's types, written by this session's own program out of the translation, and held against the program by a Bool. No condition. -/
import Derived.Test.YtaaelokodfildaaAmUse
import Derived.Test.YtaaelokodfildaaProg
import Derived.KernelRfl
namespace Go.Proofs.Ytaaelokodfildaa
open Go.Am

def tbl : List (Nat × TI) := [
  (3, ⟨1, 8, false, .scalar, [.int .i64 0]⟩),
  (29, ⟨3, 72, true, .struct [(0, 1, false), (1, 1, false), (2, 1, false)], [.slice none 0 0, .slice none 0 0, .slice none 0 0]⟩),
  (41, ⟨6, 48, true, .struct [(0, 1, false), (1, 1, false), (2, 1, false), (3, 1, false), (4, 1, false), (5, 1, false)], [.int .i64 0, .int .i64 0, .int .i64 0, .int .i64 0, .int .i64 0, .float .f64 0]⟩),
  (22, ⟨1, 24, false, .slice 3, [.slice none 0 0]⟩),
  (27, ⟨1, 24, false, .slice 41, [.slice none 0 0]⟩),
  (47, ⟨1, 8, false, .scalar, [.pointer none]⟩),
  (83, ⟨3, 24, true, .array 3 52, [.nilFunc, .nilFunc, .nilFunc]⟩),
  (39, ⟨1, 8, false, .scalar, [.float .f64 0]⟩),
  (25, ⟨3, 72, true, .struct [(0, 1, false), (1, 1, false), (2, 1, false)], [.slice none 0 0, .slice none 0 0, .slice none 0 0]⟩),
  (54, ⟨4, 80, true, .struct [(0, 3, true), (3, 1, false)], [.slice none 0 0, .slice none 0 0, .slice none 0 0, .int .i64 0]⟩),
  (4, ⟨1, 1, false, .bool, [.bool false]⟩),
  (60, ⟨1, 24, false, .slice 4, [.slice none 0 0]⟩),
  (71, ⟨6, 48, true, .struct [(0, 1, false), (1, 1, false), (2, 1, false), (3, 1, false), (4, 1, false), (5, 1, false)], [.int .i64 0, .int .i64 0, .int .i64 0, .int .i64 0, .int .i64 0, .float .f64 0]⟩),
  (87, ⟨3, 24, true, .array 3 3, [.int .i64 0, .int .i64 0, .int .i64 0]⟩),
  (23, ⟨1, 24, false, .slice 71, [.slice none 0 0]⟩),
  (82, ⟨1, 8, false, .map (.one (.int .i64)) (.int .i64 0), [.map none]⟩),
  (74, ⟨0, 0, true, .struct [], []⟩),
  (52, ⟨1, 8, false, .func, [.nilFunc]⟩),
  (90, ⟨1, 24, false, .slice 91, [.slice none 0 0]⟩),
  (76, ⟨1, 8, false, .map (.one (.int .i64)) (.nilFunc), [.map none]⟩),
  (20, ⟨1, 16, false, .iface, [.nilIface]⟩),
  (91, ⟨1, 8, false, .scalar, [.pointer none]⟩),
  (79, ⟨1, 8, false, .func, [.nilFunc]⟩)]
def ctbl : List (Nat × Cv) := [(3, .int .i64), (39, .float)]
abbrev TT : Tab := lk tbl
abbrev CC : CTab := cvT ctbl
theorem tblB : (tbl.all fun x => rowB Try.prog x.1 x.2) = true := by kernel_rfl
theorem ctblB : (ctbl.all fun x => cvB Try.prog x.1 x.2) = true := by kernel_rfl
theorem ctx : Ctx Try.prog TT CC := ⟨tok_of tblB, cok_of ctblB, by kernel_rfl⟩
end Go.Proofs.Ytaaelokodfildaa
