/- Strings as lists of bytes, and the library's search for one byte. No condition but those stated. -/
import Derived.Test.YtajcbdamgaofcaaDoorDat
import Derived.Lib.Bytealg
import Derived.Lib.IndexLaws
import Derived.Laws.StandIn
set_option linter.unusedVariables false
set_option linter.unusedSimpArgs false
namespace Go.Proofs.YtajcbdamgaofcaaDoor
open Go.Am

def st (l : List UInt8) : ByteArray := ⟨l.toArray⟩
theorem st_size (l : List UInt8) : (st l).size = l.length := by simp [st, ByteArray.size]
theorem st_data (l : List UInt8) : (st l).data.toList = l := by simp [st]
theorem st_get (l : List UInt8) (k : Nat) : (st l).data[k]? = l[k]? := by simp [st]
theorem st_of (s : ByteArray) : s = st s.data.toList := ByteArray.ext (by simp [st])
theorem st_eq {s : ByteArray} {l : List UInt8} (h : s.data.toList = l) : s = st l := by rw [← h]; exact st_of s
theorem st_extract (l : List UInt8) (a b : Nat) : (st l).extract a b = st ((l.drop a).take (b - a)) := st_eq (by rw [Go.Lib.extract_data, st_data])
theorem st_append (a b : List UInt8) : st a ++ st b = st (a ++ b) := st_eq (by simp [st, ByteArray.data_append])
theorem st_toList (l : List UInt8) : (st l).toList = l := by rw [Go.Lib.toList_data, st_data]
theorem st_beq (a b : List UInt8) : ((st a).toList == (st b).toList) = (a == b) := by rw [st_toList, st_toList]
theorem bytesS_st (ns : List Int) : bytesS ns = st (ns.map fun n => UInt8.ofNat n.toNat) := by
  have key : ∀ (ns : List Int) (a : ByteArray), (ns.foldl (fun r n => r.push (UInt8.ofNat n.toNat)) a).data.toList = a.data.toList ++ ns.map fun n => UInt8.ofNat n.toNat := by
    intro ns
    induction ns with
    | nil => intro a; simp
    | cons n r ih => intro a; rw [List.foldl_cons, ih]; simp
  exact st_eq (by simp [bytesS, key])
theorem u8_of (b : UInt8) : UInt8.ofNat ((b.toNat : Int)).toNat = b := by simp

/-- The byte's first place: the model's own. -/
theorem indexByteString_pc (s : List UInt8) (c : UInt8) (H : Heap) :
    PC Tryd.prog 43 [.string (st s), .int .u8 (c.toNat : Int)] H (.int .i64 (Go.Lib.indexByte s c)) where
  run ρ own w cargs h1 h2 h3 := by
    cases h3 with
    | cons q1 q2 => cases q2 with
      | cons q2 q3 =>
        cases q3; cases q1; cases q2
        unfold CallRun
        rw [show ([Value.string (st s), Value.int .u8 (c.toNat : Int)] : List Value).toArray = #[.string (st s), .int .u8 (c.toNat : Int)] from rfl]
        rw [run_callFunc_indexByte (P := Tryd.prog) Tryd.func43 (by kernel_rfl) rfl (by rfl) (by rfl)]
        rw [Go.Lib.run_indexByteString, st_data]
        simp only [Result.andThen_ok]
        rw [show ((c.toNat : Int)).toNat.toUInt8 = c from by simp]
        exact ⟨_, H, ρ, own, ⟨rfl, rfl⟩, .int _ _, h1, h2, Guar.refl _ _ _⟩
end Go.Proofs.YtajcbdamgaofcaaDoor
