/- strings.Trim of the ten digits; digitsOnly. Condition: strings of fewer than 2^62 bytes. -/
import Derived.Test.YtajcbdamgaofcaaDoorRna
set_option linter.unusedVariables false
set_option linter.unusedSimpArgs false
namespace Go.Proofs.YtajcbdamgaofcaaDoor
open Go.Am

def isD (c : UInt8) : Bool := decide (48 ≤ c.toNat) && decide (c.toNat ≤ 57)
def setC (k : Nat) : List Value := (List.range 256).map fun i => .bool (decide (48 ≤ i) && decide (i < 48 + k))
def digC : List Value := setC 10
def dg : List UInt8 := [48, 49, 50, 51, 52, 53, 54, 55, 56, 57]
theorem digC_get (c : UInt8) : digC[c.toNat]? = some (.bool (isD c)) := by
  have hc : c.toNat < 256 := c.toNat_lt
  unfold digC setC isD
  rw [List.getElem?_map, List.getElem?_range hc]
  simp only [Option.map_some]
  congr 3
  apply decide_eq_decide.2
  omega
theorem contains_pc (c : UInt8) (H : Heap) (b esz : Nat) (rw_ : Bool) (hb : H.blk b = some (.cells digC esz rw_)) :
    PC Tryd.prog 34 [.pointer (some ⟨b, 0, none⟩), .int .u8 (c.toNat : Int)] H (.bool (isD c)) := by
  refine EC_fn ctx (fun _ => true) Tryd.func34 rfl rfl rfl ?_
  have hc : c.toNat < 256 := c.toNat_lt
  refine ⟨⟨by omega, by omega⟩, .bool (isD c), ?_, rfl, rfl⟩
  show H.cell? b (0 + ((c.toNat : Int)).toNat * 1) = _
  rw [Heap.cell?, hb]
  simpa using digC_get c
set_option maxRecDepth 100000 in
theorem makeSet_pc (H : Heap) :
    PC Tryd.prog 20 [.string (st dg)] H (.tuple #[.agg digC.toArray, .bool true]) := by
  refine EC_fn ctx (fun _ => true) Tryd.func20 rfl rfl rfl ?_
  refine loop_ind ctx (fun _ => true) (fun m E K => ∃ k, k ≤ 10 ∧ m = 10 - k ∧ E = ⟨[(0, .string (st dg)), (2, .pointer (some ⟨0, 0, some 0⟩)), (4, .int .i64 (k : Nat))], [setC k]⟩ ∧ K = H)
    ⟨0, Nat.zero_le _, rfl, rfl, rfl⟩ ⟨⟨rfl, trivial, rfl, rfl, rfl, trivial, trivial⟩, ⟨by kernel_rfl, trivial⟩⟩ ?_
  rintro m E K ⟨k, hk, rfl, rfl, rfl⟩
  have hk' : k = 0 ∨ k = 1 ∨ k = 2 ∨ k = 3 ∨ k = 4 ∨ k = 5 ∨ k = 6 ∨ k = 7 ∨ k = 8 ∨ k = 9 ∨ k = 10 := by omega
  rcases hk' with rfl | hk'
  · refine ⟨fun _ => ?_, fun h => by simp [st_size, dg] at h⟩
    refine ⟨.int .u8 48, ⟨by omega, 48, rfl, rfl⟩, fun h => by simp at h, fun _ => ?_⟩
    refine ⟨⟨by omega, by omega⟩, ?_⟩
    refine ⟨10 - 1, ⟨[(0, .string (st dg)), (2, .pointer (some ⟨0, 0, some 0⟩)), (4, .int .i64 ((1 : Nat) : Int))], [setC 1]⟩, by omega, ⟨⟨rfl, trivial, rfl, rfl, rfl, trivial, trivial⟩, ⟨by kernel_rfl, trivial⟩⟩, 1, by omega, rfl, rfl, rfl⟩
  rcases hk' with rfl | hk'
  · refine ⟨fun _ => ?_, fun h => by simp [st_size, dg] at h⟩
    refine ⟨.int .u8 49, ⟨by omega, 49, rfl, rfl⟩, fun h => by simp at h, fun _ => ?_⟩
    refine ⟨⟨by omega, by omega⟩, ?_⟩
    refine ⟨10 - 2, ⟨[(0, .string (st dg)), (2, .pointer (some ⟨0, 0, some 0⟩)), (4, .int .i64 ((2 : Nat) : Int))], [setC 2]⟩, by omega, ⟨⟨rfl, trivial, rfl, rfl, rfl, trivial, trivial⟩, ⟨by kernel_rfl, trivial⟩⟩, 2, by omega, rfl, rfl, rfl⟩
  rcases hk' with rfl | hk'
  · refine ⟨fun _ => ?_, fun h => by simp [st_size, dg] at h⟩
    refine ⟨.int .u8 50, ⟨by omega, 50, rfl, rfl⟩, fun h => by simp at h, fun _ => ?_⟩
    refine ⟨⟨by omega, by omega⟩, ?_⟩
    refine ⟨10 - 3, ⟨[(0, .string (st dg)), (2, .pointer (some ⟨0, 0, some 0⟩)), (4, .int .i64 ((3 : Nat) : Int))], [setC 3]⟩, by omega, ⟨⟨rfl, trivial, rfl, rfl, rfl, trivial, trivial⟩, ⟨by kernel_rfl, trivial⟩⟩, 3, by omega, rfl, rfl, rfl⟩
  rcases hk' with rfl | hk'
  · refine ⟨fun _ => ?_, fun h => by simp [st_size, dg] at h⟩
    refine ⟨.int .u8 51, ⟨by omega, 51, rfl, rfl⟩, fun h => by simp at h, fun _ => ?_⟩
    refine ⟨⟨by omega, by omega⟩, ?_⟩
    refine ⟨10 - 4, ⟨[(0, .string (st dg)), (2, .pointer (some ⟨0, 0, some 0⟩)), (4, .int .i64 ((4 : Nat) : Int))], [setC 4]⟩, by omega, ⟨⟨rfl, trivial, rfl, rfl, rfl, trivial, trivial⟩, ⟨by kernel_rfl, trivial⟩⟩, 4, by omega, rfl, rfl, rfl⟩
  rcases hk' with rfl | hk'
  · refine ⟨fun _ => ?_, fun h => by simp [st_size, dg] at h⟩
    refine ⟨.int .u8 52, ⟨by omega, 52, rfl, rfl⟩, fun h => by simp at h, fun _ => ?_⟩
    refine ⟨⟨by omega, by omega⟩, ?_⟩
    refine ⟨10 - 5, ⟨[(0, .string (st dg)), (2, .pointer (some ⟨0, 0, some 0⟩)), (4, .int .i64 ((5 : Nat) : Int))], [setC 5]⟩, by omega, ⟨⟨rfl, trivial, rfl, rfl, rfl, trivial, trivial⟩, ⟨by kernel_rfl, trivial⟩⟩, 5, by omega, rfl, rfl, rfl⟩
  rcases hk' with rfl | hk'
  · refine ⟨fun _ => ?_, fun h => by simp [st_size, dg] at h⟩
    refine ⟨.int .u8 53, ⟨by omega, 53, rfl, rfl⟩, fun h => by simp at h, fun _ => ?_⟩
    refine ⟨⟨by omega, by omega⟩, ?_⟩
    refine ⟨10 - 6, ⟨[(0, .string (st dg)), (2, .pointer (some ⟨0, 0, some 0⟩)), (4, .int .i64 ((6 : Nat) : Int))], [setC 6]⟩, by omega, ⟨⟨rfl, trivial, rfl, rfl, rfl, trivial, trivial⟩, ⟨by kernel_rfl, trivial⟩⟩, 6, by omega, rfl, rfl, rfl⟩
  rcases hk' with rfl | hk'
  · refine ⟨fun _ => ?_, fun h => by simp [st_size, dg] at h⟩
    refine ⟨.int .u8 54, ⟨by omega, 54, rfl, rfl⟩, fun h => by simp at h, fun _ => ?_⟩
    refine ⟨⟨by omega, by omega⟩, ?_⟩
    refine ⟨10 - 7, ⟨[(0, .string (st dg)), (2, .pointer (some ⟨0, 0, some 0⟩)), (4, .int .i64 ((7 : Nat) : Int))], [setC 7]⟩, by omega, ⟨⟨rfl, trivial, rfl, rfl, rfl, trivial, trivial⟩, ⟨by kernel_rfl, trivial⟩⟩, 7, by omega, rfl, rfl, rfl⟩
  rcases hk' with rfl | hk'
  · refine ⟨fun _ => ?_, fun h => by simp [st_size, dg] at h⟩
    refine ⟨.int .u8 55, ⟨by omega, 55, rfl, rfl⟩, fun h => by simp at h, fun _ => ?_⟩
    refine ⟨⟨by omega, by omega⟩, ?_⟩
    refine ⟨10 - 8, ⟨[(0, .string (st dg)), (2, .pointer (some ⟨0, 0, some 0⟩)), (4, .int .i64 ((8 : Nat) : Int))], [setC 8]⟩, by omega, ⟨⟨rfl, trivial, rfl, rfl, rfl, trivial, trivial⟩, ⟨by kernel_rfl, trivial⟩⟩, 8, by omega, rfl, rfl, rfl⟩
  rcases hk' with rfl | hk'
  · refine ⟨fun _ => ?_, fun h => by simp [st_size, dg] at h⟩
    refine ⟨.int .u8 56, ⟨by omega, 56, rfl, rfl⟩, fun h => by simp at h, fun _ => ?_⟩
    refine ⟨⟨by omega, by omega⟩, ?_⟩
    refine ⟨10 - 9, ⟨[(0, .string (st dg)), (2, .pointer (some ⟨0, 0, some 0⟩)), (4, .int .i64 ((9 : Nat) : Int))], [setC 9]⟩, by omega, ⟨⟨rfl, trivial, rfl, rfl, rfl, trivial, trivial⟩, ⟨by kernel_rfl, trivial⟩⟩, 9, by omega, rfl, rfl, rfl⟩
  rcases hk' with rfl | hk'
  · refine ⟨fun _ => ?_, fun h => by simp [st_size, dg] at h⟩
    refine ⟨.int .u8 57, ⟨by omega, 57, rfl, rfl⟩, fun h => by simp at h, fun _ => ?_⟩
    refine ⟨⟨by omega, by omega⟩, ?_⟩
    refine ⟨10 - 10, ⟨[(0, .string (st dg)), (2, .pointer (some ⟨0, 0, some 0⟩)), (4, .int .i64 ((10 : Nat) : Int))], [setC 10]⟩, by omega, ⟨⟨rfl, trivial, rfl, rfl, rfl, trivial, trivial⟩, ⟨by kernel_rfl, trivial⟩⟩, 10, by omega, rfl, rfl, rfl⟩
  · subst hk'
    refine ⟨fun h => by simp [st_size, dg] at h, fun _ => ?_⟩
    exact ⟨rfl, rfl⟩
theorem trimR_ec (s : List UInt8) (hs : s.length < 4611686018427387904) (H : Heap) (b esz : Nat) (rw_ : Bool) (hb : H.blk b = some (.cells digC esz rw_)) :
    EC Tryd.prog 22 [.string (st s), .pointer (some ⟨b, 0, none⟩)] H fun r H' => H' = H ∧ ∃ k, k ≤ s.length ∧ r = .ret (.string (st (s.take k))) ∧ (∀ c ∈ s.drop k, isD c = true) ∧ (k = 0 ∨ ∃ c, s[k - 1]? = some c ∧ isD c = false) := by
  refine EC_fn ctx (fun _ => true) Tryd.func22 rfl rfl rfl ?_
  refine loop_ind ctx (fun _ => true) (fun m E K => ∃ k, k ≤ s.length ∧ m = k ∧ E = ⟨[(0, .string (st (s.take k))), (1, .pointer (some ⟨b, 0, none⟩))], []⟩ ∧ K = H ∧ ∀ c ∈ s.drop k, isD c = true)
    ⟨s.length, Nat.le_refl _, rfl, rfl, rfl, by simp⟩ ⟨⟨by rw [List.take_length]; rfl, trivial, rfl, trivial, trivial⟩, trivial⟩ ?_
  rintro m E K ⟨k, hk, rfl, rfl, rfl, hd⟩
  have hlen : (s.take m).length = m := by simp; omega
  refine ⟨fun h => ?_, fun h => ?_⟩
  · have h0 : 0 < m := by
      have : 0 < (st (s.take m)).size := by simpa using h
      rw [st_size, hlen] at this; exact this
    have hw : IntKind.i64.wrap (((st (s.take m)).size : Int) - 1) = ((m - 1 : Nat) : Int) := by rw [st_size, hlen, wrap_i64 (by omega) (by omega)]; omega
    obtain ⟨c, hc⟩ : ∃ c, s[m - 1]? = some c := ⟨s[m - 1], List.getElem?_eq_getElem (by omega)⟩
    refine ⟨.int .u8 (c.toNat : Int), ?_, ?_⟩
    · rw [hw]
      refine ⟨by omega, c, ?_, rfl⟩
      rw [st_get, List.getElem?_take, if_pos (by omega)]
      simpa using hc
    refine ⟨_, contains_pc c K b esz rw_ hb, ?_, fun v K hR => by obtain ⟨h, _⟩ := hR; cases h⟩
    rintro v K ⟨h, rfl⟩
    cases h
    refine ⟨fun hn => ?_, fun hn => ?_⟩
    · have hn : isD c = false := by simpa using hn
      exact ⟨rfl, m, hk, rfl, hd, .inr ⟨c, hc, hn⟩⟩
    · have hn : isD c = true := by simpa using hn
      refine ⟨⟨by omega, by rw [hw]; omega, by rw [hw, st_size, hlen]; omega⟩, ?_⟩
      refine ⟨m - 1, ⟨[(0, .string (st (s.take (m - 1)))), (1, .pointer (some ⟨b, 0, none⟩))], []⟩, by omega, ⟨⟨?_, trivial, rfl, trivial, trivial⟩, trivial⟩, m - 1, by omega, rfl, rfl, rfl, ?_⟩
      · refine congrArg (fun x => some (Value.string x)) ?_
        rw [hw, st_extract]
        congr 1
        simp [List.take_take]
      · intro x hx
        rw [List.drop_eq_getElem_cons (by omega)] at hx
        rcases List.mem_cons.1 hx with rfl | hx
        · rw [List.getElem?_eq_getElem (by omega)] at hc
          cases hc; exact hn
        · rw [show m - 1 + 1 = m by omega] at hx
          exact hd x hx
  · have h0 : m = 0 := by
      have : ¬ 0 < (st (s.take m)).size := by simpa using h
      rw [st_size, hlen] at this; omega
    exact ⟨rfl, m, hk, rfl, hd, .inl h0⟩
theorem trimL_ec (s : List UInt8) (hs : s.length < 4611686018427387904) (H : Heap) (b esz : Nat) (rw_ : Bool) (hb : H.blk b = some (.cells digC esz rw_)) :
    EC Tryd.prog 21 [.string (st s), .pointer (some ⟨b, 0, none⟩)] H fun r H' => H' = H ∧ ∃ k, k ≤ s.length ∧ r = .ret (.string (st (s.drop k))) ∧ (∀ c ∈ s.take k, isD c = true) ∧ (k = s.length ∨ ∃ c, s[k]? = some c ∧ isD c = false) := by
  refine EC_fn ctx (fun _ => true) Tryd.func21 rfl rfl rfl ?_
  refine loop_ind ctx (fun _ => true) (fun m E K => ∃ k, k ≤ s.length ∧ m = s.length - k ∧ E = ⟨[(0, .string (st (s.drop k))), (1, .pointer (some ⟨b, 0, none⟩))], []⟩ ∧ K = H ∧ ∀ c ∈ s.take k, isD c = true)
    ⟨0, Nat.zero_le _, rfl, rfl, rfl, by simp⟩ ⟨⟨rfl, trivial, rfl, trivial, trivial⟩, trivial⟩ ?_
  rintro m E K ⟨k, hk, rfl, rfl, rfl, hd⟩
  have hlen : (s.drop k).length = s.length - k := by simp
  refine ⟨fun h => ?_, fun h => ?_⟩
  · have h0 : k < s.length := by
      have : 0 < (st (s.drop k)).size := by simpa using h
      rw [st_size, hlen] at this; omega
    obtain ⟨c, hc⟩ : ∃ c, s[k]? = some c := ⟨s[k], List.getElem?_eq_getElem (by omega)⟩
    refine ⟨.int .u8 (c.toNat : Int), ?_, ?_⟩
    · refine ⟨by omega, c, ?_, rfl⟩
      rw [st_get, List.getElem?_drop]
      simpa using hc
    refine ⟨_, contains_pc c K b esz rw_ hb, ?_, fun v K hR => by obtain ⟨h, _⟩ := hR; cases h⟩
    rintro v K ⟨h, rfl⟩
    cases h
    refine ⟨fun hn => ?_, fun hn => ?_⟩
    · have hn : isD c = false := by simpa using hn
      exact ⟨rfl, k, hk, rfl, hd, .inr ⟨c, hc, hn⟩⟩
    · have hn : isD c = true := by simpa using hn
      refine ⟨⟨by omega, by rw [st_size, hlen]; omega, by omega⟩, ?_⟩
      refine ⟨s.length - (k + 1), ⟨[(0, .string (st (s.drop (k + 1)))), (1, .pointer (some ⟨b, 0, none⟩))], []⟩, by omega, ⟨⟨?_, trivial, rfl, trivial, trivial⟩, trivial⟩, k + 1, by omega, rfl, rfl, rfl, ?_⟩
      · refine congrArg (fun x => some (Value.string x)) ?_
        rw [st_extract, st_size, hlen]
        congr 1
        rw [List.take_of_length_le (by simp; omega)]
        simp
      · intro x hx
        rw [List.take_succ_eq_append_getElem h0] at hx
        rcases List.mem_append.1 hx with hx | hx
        · exact hd x hx
        · rw [List.getElem?_eq_getElem h0] at hc
          cases hc
          rw [List.mem_singleton.1 hx]; exact hn
  · have h0 : k = s.length := by
      have : ¬ 0 < (st (s.drop k)).size := by simpa using h
      rw [st_size, hlen] at this; omega
    exact ⟨rfl, k, hk, rfl, hd, .inl h0⟩
theorem trim_iff {s : List UInt8} {k j : Nat} (hk : k ≤ s.length) (hd : ∀ c ∈ s.drop k, isD c = true) (hl : k = 0 ∨ ∃ c, s[k - 1]? = some c ∧ isD c = false) (hj : j ≤ (s.take k).length) (hd' : ∀ c ∈ (s.take k).take j, isD c = true) :
    (s.take k).drop j = [] ↔ ∀ c ∈ s, isD c = true := by
  constructor
  · intro h c hc
    rw [List.drop_eq_nil_iff] at h
    rw [List.take_of_length_le h] at hd'
    rw [← List.take_append_drop k s] at hc
    rcases List.mem_append.1 hc with hc | hc
    · exact hd' c hc
    · exact hd c hc
  · intro h
    rcases hl with rfl | ⟨c, hc, hn⟩
    · simp
    · rw [h c (List.mem_of_getElem? hc)] at hn; cases hn
def trPv (k : Nat) : Bool := !Nat.beq k 5
set_option maxRecDepth 100000 in
theorem trim_ec (s : List UInt8) (hs : s.length < 4611686018427387904) (H : Heap) :
    EC Tryd.prog 14 [.string (st s), .string (st dg)] H fun r H' => Ext H H' ∧ ∃ t, r = .ret (.string (st t)) ∧ (t = [] ↔ ∀ c ∈ s, isD c = true) := by
  refine EC_fn ctx trPv Tryd.func14 rfl rfl rfl ?_
  refine ⟨fun h => ?_, fun h => ?_⟩
  · have h : s = [] := by
      have h2 : (st s).toList = [] ∨ (st dg).toList = [] := by simpa using h
      rw [st_toList, st_toList] at h2
      exact h2.resolve_right (by simp [dg])
    subst h
    exact ⟨Ext.refl _, [], rfl, by simp⟩
  refine ⟨.int .u8 48, fun h => absurd h (by decide), fun h => absurd h (by decide), fun _ => ?_⟩
  refine ⟨_, makeSet_pc H, ?_, fun v K hR => by obtain ⟨h, _⟩ := hR; cases h⟩
  rintro v K ⟨h, rfl⟩
  cases h
  refine ⟨⟨_, _, push_blk _ _, by decide⟩, fun _ => ?_, fun h => by cases h⟩
  refine ⟨_, trimR_ec s hs _ K.next 256 true ?_, ?_, fun v K hR => by obtain ⟨_, _, _, h, _⟩ := hR; cases h⟩
  · rw [stor_push, push_blk]
    congr 2
  rintro v K1 ⟨rfl, k, hk, e, hd, hl⟩
  cases e
  refine ⟨_, trimL_ec (s.take k) (by simp; omega) _ K.next 256 true ?_, ?_, fun v K hR => by obtain ⟨_, _, _, h, _⟩ := hR; cases h⟩
  · rw [stor_push, push_blk]
    congr 2
  rintro v K1 ⟨rfl, j, hj, e, hd', hl'⟩
  cases e
  refine ⟨?_, (s.take k).drop j, rfl, ?_⟩
  · rw [stor_push]; exact Ext.push _ _
  · exact trim_iff hk hd hl hj hd'
/-- Which blocks a text of digits alone is. -/
def digs (s : List UInt8) : Bool := !s.isEmpty && s.all isD
def dPv (k : Nat) : Bool := !Nat.beq k 1000007
theorem digitsOnly_ec (s : List UInt8) (hs : s.length < 4611686018427387904) (H : Heap) :
    EC Tryd.prog 11 [.string (st s)] H fun r H' => Ext H H' ∧ r = .ret (.bool (digs s)) := by
  refine EC_fn ctx dPv Tryd.func11 rfl rfl rfl ?_
  have e0 : (!((st s).toList == (st []).toList)) = !s.isEmpty := by rw [st_toList, st_toList]; cases s <;> rfl
  refine ⟨fun h => ?_, fun h => ?_⟩
  · have h : (!s.isEmpty) = true := e0 ▸ h
    refine ⟨_, trim_ec s hs H, ?_, fun v K hR => by obtain ⟨_, _, h, _⟩ := hR; cases h⟩
    rintro v K ⟨e1, t, e, ht⟩
    cases e
    refine ⟨e1, ?_⟩
    refine congrArg (fun b => AEnd.ret (.bool b)) ?_
    show (bif !((st s).toList == (st []).toList) then ((st t).toList == (st []).toList) else false) = _
    rw [e0, digs, h, st_toList, st_toList]
    simp only [cond_true, Bool.true_and]
    rw [Bool.eq_iff_iff, List.all_eq_true]
    rw [show ((t == []) = true) = (t = []) from by simp]
    exact ht
  · have h' : (!s.isEmpty) = false := e0 ▸ h
    refine ⟨?_, Ext.refl _, ?_⟩
    · show (true && (!((st s).toList == (st []).toList))) = false
      rw [e0, h']; rfl
    refine congrArg (fun b => AEnd.ret (.bool b)) ?_
    show (bif !((st s).toList == (st []).toList) then false else false) = _
    rw [e0, digs, h']
    rfl
end Go.Proofs.YtajcbdamgaofcaaDoor
