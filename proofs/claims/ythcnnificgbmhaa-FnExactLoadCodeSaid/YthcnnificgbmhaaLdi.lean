/- The program's loader: what it takes from its bytes. Conditions: those of each. -/
import Derived.Test.YthcnnificgbmhaaLde
set_option linter.unusedVariables false
set_option linter.unusedSimpArgs false
namespace Go.Proofs.Ythcnnificgbmhaa
open Go.Am
open FlCore (canon isNan)

/-- A loader: the block L, the bytes that are left, whether it went wrong. -/
structure LS (B : Nat) (K : Heap) (L : Nat) (p : Option Addr) (xs : List Int) (bad : Bool) : Prop where
  blk : K.blk L = some (.cells [sv p xs, .bool bad] 2 true)
  rd : Rd dByte K p xs
  ne : 0 < xs.length → ∀ o, p ≠ some ⟨L, o, none⟩
  byte : ByteL xs
  len : xs.length ≤ 1048576
  low : 0 < xs.length → ∀ b o, p = some ⟨b, o, none⟩ → b < B
theorem LS.keep {B : Nat} {K K' : Heap} {L : Nat} {p : Option Addr} {xs : List Int} {bad : Bool} (h : LS B K L p xs bad) (hL : L < B) (e : ∀ b c, b < B → K.blk b = some c → K'.blk b = some c) : LS B K' L p xs bad where
  blk := e _ _ hL h.blk
  rd := ⟨h.rd.sh, fun hx => by
    obtain ⟨b, o, cs, rw_, h1, h2, h3⟩ := h.rd.at_ hx
    exact ⟨b, o, cs, rw_, h1, e _ _ (h.low hx b o h1) h2, h3⟩⟩
  ne := h.ne
  byte := h.byte
  len := h.len
  low := h.low
theorem LS.mono {B : Nat} {K K' : Heap} {L : Nat} {p : Option Addr} {xs : List Int} {bad : Bool} (h : LS B K L p xs bad) (e : Ext K K') : LS B K' L p xs bad := ⟨e.same _ _ h.blk, h.rd.mono e, h.ne, h.byte, h.len, h.low⟩
theorem shl8_any (t : TypeId) (n : Int) : anyRun (binOp .shl t (.int .u64 n) (.int .u64 8)) (.int .u64 (IntKind.u64.wrap (n * 256))) := ⟨rfl, fun P w => by
  simp only [binOp, Op.shift]
  rfl⟩
theorem or_any (t : TypeId) (a b : Nat) (h1 : a % 256 = 0) (h2 : b < 256) (h3 : a + b < 18446744073709551616) : anyRun (binOp .or t (.int .u64 a) (.int .u64 b)) (.int .u64 ((a + b : Nat) : Int)) := ⟨rfl, fun P w => by
  have e : (BitVec.ofInt 64 (a : Int) ||| BitVec.ofInt 64 (b : Int)).toNat = a + b := by
    rw [BitVec.toNat_or, BitVec.toNat_ofInt, BitVec.toNat_ofInt]
    have ea : ((a : Int) % ((2 ^ 64 : Nat) : Int)).toNat = a := by omega
    have eb : ((b : Int) % ((2 ^ 64 : Nat) : Int)).toNat = b := by omega
    rw [ea, eb]
    obtain ⟨m, hm⟩ : ∃ m, a = 2 ^ 8 * m := ⟨a / 256, by omega⟩
    rw [hm, ← Nat.two_pow_add_eq_or_of_lt (by omega)]
  show (Op.intBits .or .u64 a b).run P w = _
  unfold Op.intBits
  show (pure (Value.int .u64 (IntKind.u64.wrap (((BitVec.ofInt 64 (a : Int) ||| BitVec.ofInt 64 (b : Int)).toNat : Nat) : Int))) : Sem Value).run P w = _
  rw [e, wrap_u64 (by omega) (by omega)]
  rfl⟩
/-- What take answers. -/
def TR (B : Nat) (H : Heap) (L n : Nat) (xs : List Int) (bad : Bool) (e : AEnd) (K : Heap) : Prop := ∃ (p' : Option Addr) (xs' : List Int) (bad' : Bool) (v : Nat), e = .ret (.int .u64 v) ∧ LS B K L p' xs' bad' ∧ But (some ⟨L, 0, none⟩) H K ∧ v < 256 ^ n ∧ (n ≤ xs.length → v = valB n xs ∧ xs' = xs.drop n ∧ bad' = bad)
theorem take_ec (B : Nat) (H : Heap) (L : Nat) (p : Option Addr) (xs : List Int) (bad : Bool) (n : Nat) (hn : 1 ≤ n) (hn8 : n ≤ 8) (h : LS B H L p xs bad) :
    EC Try.prog 38 [.pointer (some ⟨L, 0, none⟩), .int .i64 n] H (TR B H L n xs bad) := by
  refine EC_fn ctx (fun _ => true) Try.func38 rfl rfl rfl ?_
  have hcell := cell_of h.blk 0
  have hl := h.len
  have hw1 : IntKind.i64.wrap ((n : Int) - 1) = (n : Int) - 1 := wrap_i64 (by omega) (by omega)
  refine ⟨_, hcell, fun hlt => ?_, fun hge => ?_⟩
  · have hlt : xs.length < n := by simp at hlt; omega
    refine ⟨⟨_, _, h.blk, Nat.le_refl 2⟩, ?_⟩
    have hs := Heap.stor_put h.blk 1 [.bool true]
    have hb : But (some ⟨L, 0, none⟩) H (H.put L (.cells (overL [sv p xs, .bool bad] 1 [.bool true]) 2 true)) := ⟨rfl, fun x c hx hc => by
      have hne : x ≠ L := fun e => hx 0 (by rw [e])
      rw [put_blk _ _ _ _ (H.lt _ _ h.blk), if_neg hne]; exact hc⟩
    rw [← hs] at hb
    have hblk : (H.stor L 1 [.bool true]).blk L = some (.cells [sv p xs, .bool true] 2 true) := by rw [hs, put_blk _ _ _ _ (H.lt _ _ h.blk), if_pos rfl]; rfl
    have hrd : Rd dByte (H.stor L 1 [.bool true]) p xs := ⟨h.rd.sh, fun hx => by
      obtain ⟨b, o, cs, rw_, h1, h2, h3⟩ := h.rd.at_ hx
      exact ⟨b, o, cs, rw_, h1, hb.same _ _ (fun o' e => by cases e; exact h.ne hx o h1) h2, h3⟩⟩
    exact ⟨p, xs, true, 0, rfl, ⟨hblk, hrd, h.ne, h.byte, h.len, h.low⟩, hb, Nat.pow_pos (by decide), fun h => by omega⟩
  · have hge : n ≤ xs.length := by simp at hge; omega
    obtain ⟨b, o, rfl⟩ := rd_some h.rd (by omega)
    have hb := h.byte
    refine loop_ind ctx (fun _ => true) (fun m E K => ∃ j : Nat, j ≤ n ∧ m = n - j ∧ E = ⟨[(0, .pointer (some ⟨L, 0, none⟩)), (1, .int .i64 n), (5, .int .u64 ((valB j (xs.drop (n - j)) : Nat) : Int)), (6, .int .i64 ((n : Int) - 1 - j))], []⟩ ∧ K = H)
      (E0 := ⟨[(0, .pointer (some ⟨L, 0, none⟩)), (1, .int .i64 n), (5, .int .u64 0), (6, .int .i64 ((n : Int) - 1))], []⟩) ⟨0, Nat.zero_le _, rfl, by simp [valB], rfl⟩ (by (refine ⟨?_, ?_⟩ <;> repeat' first | exact trivial | exact congrArg (fun x => some (Value.int .i64 x)) hw1 | exact rfl | refine ⟨?_, ?_⟩ | fail)) ?_
    rintro m E K ⟨j, hj, rfl, rfl, rfl⟩
    refine ⟨fun hlt => ?_, fun hdone => ?_⟩
    · have hlt : j < n := by simp at hlt; omega
      have hvj := valB_lt hb j (n - j)
      have hvi := valB_lt hb (j + 1) (n - (j + 1))
      have hst := valB_step hb j (n - (j + 1))
      have har := at_range hb (n - (j + 1))
      rw [show n - (j + 1) + 1 = n - j by omega] at hst
      have hvp : 256 ^ (j + 1) ≤ 256 ^ 8 := Nat.pow_le_pow_right (by decide) (by omega)
      have h256 : (256 : Nat) ^ 8 = 18446744073709551616 := by decide
      rw [h256] at hvp
      generalize valB j (xs.drop (n - j)) = V at *
      generalize hW : valB (j + 1) (xs.drop (n - (j + 1))) = W at *
      obtain ⟨z, hz⟩ : ∃ z : Nat, at_ xs (n - (j + 1)) = z := ⟨(at_ xs (n - (j + 1))).toNat, by omega⟩
      have hWe : W = V * 256 + z := by omega
      have hs8 := shl8_any 55 (V : Int)
      rw [wrap_u64 (x := (V : Int) * 256) (by omega) (by omega), show (V : Int) * 256 = ((V * 256 : Nat) : Int) by omega] at hs8
      have hor := or_any 55 (V * 256) z (by omega) (by omega) (by omega)
      have hwz : IntKind.u64.wrap (at_ xs (n - (j + 1))) = (z : Int) := by rw [hz, wrap_u64 (by omega) (by omega)]
      have hix : (n : Int) - 1 - j = ((n - (j + 1) : Nat) : Int) := by omega
      have hw6 : IntKind.i64.wrap ((n : Int) - 1 - j - 1) = (n : Int) - 1 - ((j + 1 : Nat) : Int) := by rw [wrap_i64 (by omega) (by omega)]; omega
      refine ⟨_, hs8, _, hcell, ⟨by omega, by omega⟩, _, at_cell h.rd (j := n - (j + 1)) (by omega) hix, .int .u64 ((V * 256 + z : Nat) : Int), by rw [hwz]; exact hor, ?_⟩
      exact ⟨n - (j + 1), ⟨[(0, .pointer (some ⟨L, 0, none⟩)), (1, .int .i64 n), (5, .int .u64 ((valB (j + 1) (xs.drop (n - (j + 1))) : Nat) : Int)), (6, .int .i64 ((n : Int) - 1 - ((j + 1 : Nat) : Int)))], []⟩, by omega, by
        rw [hW, hWe]
        (refine ⟨?_, ?_⟩ <;> repeat' first | exact trivial | exact congrArg (fun x => some (Value.int .i64 x)) hw6 | exact rfl | refine ⟨?_, ?_⟩ | fail), j + 1, by omega, rfl, rfl, rfl⟩
    · have hj : j = n := by simp at hdone; omega
      subst hj
      rw [Nat.sub_self, List.drop_zero]
      have hv := valB_lt hb j 0
      rw [List.drop_zero] at hv
      have hsub := h.rd.sub (l := j) (n := xs.length - j) (by omega)
      rw [List.take_of_length_le (by simp)] at hsub
      refine ⟨_, hcell, ⟨by omega, by omega, by omega, h.rd.ez (by omega)⟩, ⟨_, _, h.blk, by show 0 + 1 ≤ 2; decide⟩, ?_⟩
      have hs := Heap.stor_put h.blk 0 [.slice (some ⟨b, o + j * 1, none⟩) (xs.length - j) (xs.length - j)]
      have hbut : But (some ⟨L, 0, none⟩) K (K.put L (.cells (overL [sv (some ⟨b, o, none⟩) xs, .bool bad] 0 [.slice (some ⟨b, o + j * 1, none⟩) (xs.length - j) (xs.length - j)]) 2 true)) := ⟨rfl, fun x c hx hc => by
        have hne : x ≠ L := fun e => hx 0 (by rw [e])
        rw [put_blk _ _ _ _ (K.lt _ _ h.blk), if_neg hne]; exact hc⟩
      have hne : ∀ o', some (⟨b, o + j * 1, none⟩ : Addr) ≠ some ⟨L, o', none⟩ := fun o' e => by
        injection e with e; injection e with e1 e2
        exact h.ne (by omega) o (by rw [e1])
      rw [← hs] at hbut
      have hblk : (K.stor L 0 [.slice (some ⟨b, o + j * 1, none⟩) (xs.length - j) (xs.length - j)]).blk L = some (.cells [sv (some ⟨b, o + j * 1, none⟩) (xs.drop j), .bool bad] 2 true) := by
        rw [hs, put_blk _ _ _ _ (K.lt _ _ h.blk), if_pos rfl]
        show some (Blk.cells [.slice (some ⟨b, o + j * 1, none⟩) (xs.length - j) (xs.length - j), .bool bad] 2 true) = some (Blk.cells [.slice (some ⟨b, o + j * 1, none⟩) (xs.drop j).length (xs.drop j).length, .bool bad] 2 true)
        rw [List.length_drop]
      have hrd : Rd dByte (K.stor L 0 [.slice (some ⟨b, o + j * 1, none⟩) (xs.length - j) (xs.length - j)]) (some ⟨b, o + j * 1, none⟩) (xs.drop j) := ⟨hsub.sh, fun hx => by
        obtain ⟨b', o', cs, rw_, h1, h2, h3⟩ := hsub.at_ hx
        exact ⟨b', o', cs, rw_, h1, hbut.same _ _ (fun o2 e => by cases e; exact hne o' h1) h2, h3⟩⟩
      exact ⟨some ⟨b, o + j * 1, none⟩, xs.drop j, bad, valB j xs, rfl, ⟨hblk, hrd, fun _ => hne, fun x hx => hb x (List.mem_of_mem_drop hx), by rw [List.length_drop]; omega, fun _ b' o' e => by cases e; exact h.low (by omega) _ _ rfl⟩, hbut, hv, fun _ => ⟨rfl, rfl, rfl⟩⟩
end Go.Proofs.Ythcnnificgbmhaa
