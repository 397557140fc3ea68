/- strings.Cut at one byte. Condition: strings of fewer than 2^62 bytes. -/
import Derived.Test.YtajcbdamgaofcaaDoorStr
set_option linter.unusedVariables false
set_option linter.unusedSimpArgs false
namespace Go.Proofs.YtajcbdamgaofcaaDoor
open Go.Am

theorem indexByte_pc (s : List UInt8) (c : UInt8) (H : Heap) :
    PC Tryd.prog 30 [.string (st s), .int .u8 (c.toNat : Int)] H (.int .i64 (Go.Lib.indexByte s c)) := by
  refine EC_fn ctx (fun _ => true) Tryd.func30 rfl rfl rfl ?_
  refine ⟨_, indexByteString_pc s c H, ?_, fun v K hR => by obtain ⟨h, _⟩ := hR; cases h⟩
  rintro v K ⟨h, rfl⟩
  cases h
  exact ⟨rfl, rfl⟩
/-- Index of one byte. -/
theorem index_one_pc (s : List UInt8) (c : UInt8) (H : Heap) :
    PC Tryd.prog 17 [.string (st s), .string (st [c])] H (.int .i64 (Go.Lib.indexByte s c)) := by
  refine EC_fn ctx (fun _ => true) Tryd.func17 rfl rfl rfl ?_
  refine ⟨fun h => ?_, fun _ => ?_⟩
  · have h : [c] = s := by
      have hn : ¬ st [c] = ByteArray.empty := fun e => by have := congrArg ByteArray.size e; simp [st_size] at this
      simpa [st_toList, hn] using h
    subst h
    exact pint (by simp [Go.Lib.indexByte])
  refine ⟨fun h => ?_, fun h => by simp [st_size] at h⟩
  refine ⟨.int .u8 (c.toNat : Int), ⟨by omega, c, rfl, rfl⟩, _, indexByte_pc s c H, ?_, fun v K hR => by obtain ⟨h, _⟩ := hR; cases h⟩
  rintro v K ⟨h, rfl⟩
  cases h
  exact ⟨rfl, rfl⟩
def cutB (s : List UInt8) (c : UInt8) : List UInt8 × List UInt8 × Bool :=
  if 0 ≤ Go.Lib.indexByte s c then (s.take (Go.Lib.indexByte s c).toNat, s.drop ((Go.Lib.indexByte s c).toNat + 1), true) else (s, [], false)
theorem indexByte_lt {s : List UInt8} {c : UInt8} (h : 0 ≤ Go.Lib.indexByte s c) : (Go.Lib.indexByte s c).toNat < s.length := by
  have := (Go.Lib.indexByte_some (l := s) (c := c) (o := (Go.Lib.indexByte s c).toNat) (by omega)).1
  exact (List.getElem?_eq_some_iff.1 this).1
theorem liteCut_pc (s : List UInt8) (c : UInt8) (hs : s.length < 4611686018427387904) (H : Heap) :
    PC Tryd.prog 13 [.string (st s), .string (st [c])] H (.tuple #[.string (st (cutB s c).1), .string (st (cutB s c).2.1), .bool (cutB s c).2.2]) := by
  refine EC_fn ctx (fun _ => true) Tryd.func13 rfl rfl rfl ?_
  refine ⟨_, index_one_pc s c H, ?_, fun v K hR => by obtain ⟨h, _⟩ := hR; cases h⟩
  rintro v K ⟨h, rfl⟩
  cases h
  refine ⟨fun h => ?_, fun h => ?_⟩
  · have h : 0 ≤ Go.Lib.indexByte s c := by simpa using h
    have hlt := indexByte_lt h
    have hw : IntKind.i64.wrap (Go.Lib.indexByte s c + ((1 : Nat) : Int)) = Go.Lib.indexByte s c + 1 := wrap_i64 (by omega) (by omega)
    have hw : IntKind.i64.wrap (Go.Lib.indexByte s c + ((st [c]).size : Int)) = Go.Lib.indexByte s c + 1 := by rw [st_size]; exact hw
    refine ⟨.leaf [([0, 1, 2, 3, 4, 5, 6, 7, 8, 9, 10, 11], none)] [], by kernel_rfl, ⟨by omega, h, by rw [st_size]; omega⟩, ⟨by rw [hw]; omega, by rw [hw, st_size]; omega, by omega⟩, ?_⟩
    refine ⟨?_, rfl⟩
    simp only [cutB, if_pos h, hw]
    rw [st_extract, st_extract]
    have e2 : (((st s).size : Int)).toNat - (Go.Lib.indexByte s c + 1).toNat = s.length - ((Go.Lib.indexByte s c).toNat + 1) := by rw [st_size]; omega
    have e3 : (Go.Lib.indexByte s c + 1).toNat = (Go.Lib.indexByte s c).toNat + 1 := by omega
    rw [e2, e3, List.take_of_length_le (l := s.drop ((Go.Lib.indexByte s c).toNat + 1)) (by rw [List.length_drop]; omega)]
    rfl
  · have h : ¬ 0 ≤ Go.Lib.indexByte s c := by simpa using h
    simp only [cutB, if_neg h]
    exact ⟨rfl, rfl⟩
theorem cut_pc (s : List UInt8) (c : UInt8) (hs : s.length < 4611686018427387904) (H : Heap) :
    PC Tryd.prog 10 [.string (st s), .string (st [c])] H (.tuple #[.string (st (cutB s c).1), .string (st (cutB s c).2.1), .bool (cutB s c).2.2]) := by
  refine EC_fn ctx (fun _ => true) Tryd.func10 rfl rfl rfl ?_
  refine ⟨_, liteCut_pc s c hs H, ?_, fun v K hR => by obtain ⟨h, _⟩ := hR; cases h⟩
  rintro v K ⟨h, rfl⟩
  cases h
  exact ⟨rfl, rfl⟩
end Go.Proofs.YtajcbdamgaofcaaDoor
