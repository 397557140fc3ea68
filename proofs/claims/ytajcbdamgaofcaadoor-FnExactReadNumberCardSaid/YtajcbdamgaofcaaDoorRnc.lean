/- strconv.ParseInt of at most 15 digits in base 10. Condition: the text is 1 to 15 digits. -/
import Derived.Test.YtajcbdamgaofcaaDoorRnb
set_option linter.unusedVariables false
set_option linter.unusedSimpArgs false
namespace Go.Proofs.YtajcbdamgaofcaaDoor
open Go.Am

/-- The digits' number. -/
@[irreducible] def stepD (n : Nat) (c : UInt8) : Nat := n * 10 + (c.toNat - 48)
def valD (n : Nat) (s : List UInt8) : Nat := s.foldl stepD n
theorem valD_nil (n : Nat) : valD n [] = n := rfl
theorem valD_cons (n : Nat) (c : UInt8) (r : List UInt8) : valD n (c :: r) = valD (stepD n c) r := by unfold valD; rw [List.foldl_cons]
theorem valD_append (n : Nat) (a b : List UInt8) : valD n (a ++ b) = valD (valD n a) b := List.foldl_append
theorem isD_iff {c : UInt8} (h : isD c = true) : 48 ≤ c.toNat ∧ c.toNat ≤ 57 := by
  simpa only [isD, Bool.and_eq_true, decide_eq_true_eq] using h
theorem valD_lt (s : List UInt8) : ∀ (n : Nat), (∀ c ∈ s, isD c = true) → valD n s < (n + 1) * 10 ^ s.length := by
  induction s with
  | nil => intro n _; rw [valD_nil]; simp
  | cons c r ih =>
    intro n h
    have h1 := ih (stepD n c) (fun x hx => h x (List.mem_cons_of_mem _ hx))
    have h2 := isD_iff (h c List.mem_cons_self)
    have h3 : (stepD n c + 1) * 10 ^ r.length ≤ ((n + 1) * 10) * 10 ^ r.length := Nat.mul_le_mul_right _ (by unfold stepD; omega)
    have h4 : ((n + 1) * 10) * 10 ^ r.length = (n + 1) * 10 ^ (r.length + 1) := by rw [Nat.pow_succ, Nat.mul_assoc, Nat.mul_comm 10]
    rw [List.length_cons, ← h4, valD_cons]
    exact Nat.lt_of_lt_of_le h1 h3
theorem valD_lt15 {s : List UInt8} (h : ∀ c ∈ s, isD c = true) (hl : s.length ≤ 15) : valD 0 s < 1000000000000000 := by
  refine Nat.lt_of_lt_of_le (valD_lt s 0 h) ?_
  rw [Nat.zero_add, Nat.one_mul]
  exact Nat.pow_le_pow_right (by decide) hl
theorem shl64_any (t : TypeId) : anyRun (binOp .shl t (.int .u64 1) (.int .u64 64)) (.int .u64 0) := ⟨rfl, fun P w => rfl⟩
theorem shl63_any (t : TypeId) : anyRun (binOp .shl t (.int .u64 1) (.int .u64 63)) (.int .u64 9223372036854775808) := ⟨rfl, fun P w => rfl⟩
set_option maxRecDepth 100000 in
theorem parseUint_ec (s : List UInt8) (hn : s ≠ []) (hd : ∀ c ∈ s, isD c = true) (hl : s.length ≤ 15) (H : Heap) :
    EC Tryd.prog 25 [.string (st s), .int .i64 10, .int .i64 64] H fun r H' => Ext H H' ∧ r = .ret (.tuple #[.int .u64 (valD 0 s : Nat), .nilIface]) := by
  refine EC_fn ctx (fun _ => true) Tryd.func25 rfl rfl rfl ?_
  refine ⟨fun h => ?_, fun _ => ?_⟩
  · have h : (st s).toList = [] := by simpa using h
    rw [st_toList] at h; exact absurd h hn
  have no : ∀ {b : Bool} {Q : Prop}, b = false → b = true → Q := fun h1 h2 => by rw [h1] at h2; cases h2
  have no' : ∀ {b : Bool} {Q : Prop}, b = true → b = false → Q := fun h1 h2 => by rw [h1] at h2; cases h2
  refine ⟨fun _ => ?_, no' rfl⟩
  refine ⟨no rfl, fun _ => ?_⟩
  refine ⟨no rfl, fun _ => ?_⟩
  refine ⟨fun _ => ?_, no' rfl⟩
  refine ⟨_, shl64_any _, ?_⟩
  have hval : ∀ k, valD 0 (s.take k) < 1000000000000000 := fun k => valD_lt15 (fun c hc => hd c (List.mem_of_mem_take hc)) (by simp; omega)
  have hsz : (st s).size = s.length := st_size s
  refine loop_ind ctx (fun _ => true) (fun m E K => ∃ k, k ≤ s.length ∧ m = s.length - k ∧ E = ⟨[(1, .int .i64 10), (8, .bool false), (9, .string (st s)), (10, .int .u64 1844674407370955162), (11, .int .u64 18446744073709551615), (12, .bool false), (13, .int .u64 (valD 0 (s.take k) : Nat)), (99, .slice (some ⟨H.next, 0, none⟩) (st s).size (st s).size), (100, .int .i64 (st s).size), (101, .int .i64 (k : Nat))], []⟩ ∧ K = H.push (.cells (s.map fun b => Value.int .u8 (b.toNat : Int)) 1 false))
    ⟨0, Nat.zero_le _, rfl, rfl, ?_⟩ ⟨⟨rfl, trivial, rfl, trivial, rfl, trivial, rfl, trivial, rfl, trivial, rfl, trivial, rfl, trivial, rfl, trivial, rfl, trivial, rfl, trivial, trivial⟩, trivial⟩ ?_
  · rw [st_data]
  rintro m E K ⟨k, hk, rfl, rfl, rfl⟩
  refine ⟨fun h => ?_, fun h => ?_⟩
  · have h0 : k < s.length := by
      have : k < (st s).size := by simpa using h
      rw [hsz] at this; exact this
    obtain ⟨c, hc⟩ : ∃ c, s[k]? = some c := ⟨s[k], List.getElem?_eq_getElem (by omega)⟩
    have hdc := isD_iff (hd c (List.mem_of_getElem? hc))
    have hlt : c.toNat < 256 := c.toNat_lt
    refine ⟨⟨by omega, by rw [hsz]; omega⟩, .int .u8 (c.toNat : Int), ?_, ?_⟩
    · show (H.push _).cell? H.next (0 + ((k : Int)).toNat * 1) = _
      rw [cell_push]
      simp [List.getElem?_map, hc]
    have w8 : IntKind.u8.wrap ((c.toNat : Int) - 48) = ((c.toNat - 48 : Nat) : Int) := by
      generalize c.toNat = d at *
      rw [show ((d : Int) - 48) = ((d - 48 : Nat) : Int) by omega]
      simp only [IntKind.wrap, IntKind.bits, IntKind.signed]
      simp; omega
    have w10 : IntKind.u8.wrap 10 = 10 := by decide
    have v10 : IntKind.u64.wrap 10 = 10 := by decide
    have hv := hval k
    have w64 : ∀ n : Nat, n < 100000000000000000 → IntKind.u64.wrap (n : Int) = (n : Int) := fun n hn => by
      simp only [IntKind.wrap, IntKind.bits, IntKind.signed]
      simp; omega
    refine ⟨fun h => by simp at h, fun _ => ?_⟩
    refine ⟨fun _ => ?_, fun h => by simp at h; omega⟩
    refine ⟨fun h => by rw [w8] at h; simp [w10] at h; omega, fun _ => ?_⟩
    refine ⟨fun h => by simp at h; omega, fun _ => ?_⟩
    have hs : valD 0 (s.take (k + 1)) = valD 0 (s.take k) * 10 + (c.toNat - 48) := by
      rw [List.take_succ_eq_append_getElem h0, valD_append, valD_cons, valD_nil]
      rw [List.getElem?_eq_getElem h0] at hc
      cases hc
      unfold stepD; rfl
    have hv1 := hval (k + 1)
    have a1 : IntKind.u64.wrap ((valD 0 (s.take k) : Nat) * IntKind.u64.wrap 10 : Int) = ((valD 0 (s.take k) * 10 : Nat) : Int) := by
      rw [v10]
      exact (congrArg IntKind.u64.wrap (by omega : ((valD 0 (s.take k) : Nat) : Int) * 10 = ((valD 0 (s.take k) * 10 : Nat) : Int))).trans (w64 _ (by omega))
    have a2 : IntKind.u64.wrap (IntKind.u64.wrap ((valD 0 (s.take k) : Nat) * IntKind.u64.wrap 10 : Int) + IntKind.u64.wrap (IntKind.u8.wrap ((c.toNat : Int) - 48))) = ((valD 0 (s.take (k + 1)) : Nat) : Int) := by
      rw [a1, w8, w64 (c.toNat - 48) (by omega), hs]
      exact (congrArg IntKind.u64.wrap (by omega : ((valD 0 (s.take k) * 10 : Nat) : Int) + ((c.toNat - 48 : Nat) : Int) = ((valD 0 (s.take k) * 10 + (c.toNat - 48) : Nat) : Int))).trans (w64 _ (by omega))
    refine ⟨fun h => ?_, fun _ => ?_⟩
    · exfalso
      have h : (bif decide ((((valD 0 (s.take (k + 1)) : Nat) : Int)) < ((valD 0 (s.take k) * 10 : Nat) : Int)) then true else decide ((((valD 0 (s.take (k + 1)) : Nat) : Int)) > 18446744073709551615)) = true := by rw [← a2, ← a1]; exact h
      simp at h
      omega
    refine ⟨s.length - (k + 1), ⟨[(1, .int .i64 10), (8, .bool false), (9, .string (st s)), (10, .int .u64 1844674407370955162), (11, .int .u64 18446744073709551615), (12, .bool false), (13, .int .u64 (valD 0 (s.take (k + 1)) : Nat)), (99, .slice (some ⟨H.next, 0, none⟩) (st s).size (st s).size), (100, .int .i64 (st s).size), (101, .int .i64 ((k + 1 : Nat) : Int))], []⟩, by omega,
      ⟨⟨rfl, trivial, rfl, trivial, rfl, trivial, rfl, trivial, rfl, trivial, rfl, trivial, congrArg (fun x => some (Value.int .u64 x)) a2, trivial, rfl, trivial, rfl, trivial, congrArg (fun x => some (Value.int .i64 x)) (wrap_nat (by omega)), trivial, trivial⟩, trivial⟩, k + 1, by omega, rfl, rfl, rfl⟩
  · have hk' : k = s.length := by
      have : ¬ k < (st s).size := by simpa using h
      rw [hsz] at this; omega
    subst hk'
    refine ⟨.bool true, no rfl, ?_⟩
    refine ⟨no rfl, fun _ => ?_⟩
    rw [List.take_length]
    exact ⟨Ext.push _ _, rfl⟩
theorem parseInt_ec (s : List UInt8) (hn : s ≠ []) (hd : ∀ c ∈ s, isD c = true) (hl : s.length ≤ 15) (H : Heap) :
    EC Tryd.prog 15 [.string (st s), .int .i64 10, .int .i64 64] H fun r H' => Ext H H' ∧ r = .ret (.tuple #[.int .i64 (valD 0 s : Nat), .nilIface]) := by
  refine EC_fn ctx (fun _ => true) Tryd.func15 rfl rfl rfl ?_
  have no : ∀ {b : Bool} {Q : Prop}, b = false → b = true → Q := fun h1 h2 => by rw [h1] at h2; cases h2
  have no' : ∀ {b : Bool} {Q : Prop}, b = true → b = false → Q := fun h1 h2 => by rw [h1] at h2; cases h2
  obtain ⟨c, r, rfl⟩ : ∃ c r, s = c :: r := by cases s with
    | nil => exact absurd rfl hn
    | cons c r => exact ⟨c, r, rfl⟩
  have hdc := isD_iff (hd c List.mem_cons_self)
  have hv := valD_lt15 hd hl
  refine ⟨fun h => ?_, fun _ => ?_⟩
  · have h : (st (c :: r)).toList = [] := by simpa using h
    rw [st_toList] at h; exact absurd h hn
  refine ⟨.int .u8 (c.toNat : Int), ⟨by omega, c, rfl, rfl⟩, ?_⟩
  refine ⟨fun h => by simp at h; omega, fun _ => ?_⟩
  refine ⟨fun h => by simp at h; omega, fun _ => ?_⟩
  refine ⟨_, parseUint_ec (c :: r) hn hd hl H, ?_, fun v K hR => by obtain ⟨_, h⟩ := hR; cases h⟩
  rintro v K ⟨e1, e⟩
  cases e
  refine ⟨rfl, no rfl, fun _ => ?_⟩
  refine ⟨no rfl, fun _ => ?_⟩
  refine ⟨.int .u64 9223372036854775808, shl63_any _, ?_⟩
  refine ⟨fun h => by simp at h; omega, fun _ => ?_⟩
  refine ⟨no rfl, fun _ => ?_⟩
  refine ⟨no rfl, fun _ => ?_⟩
  refine ⟨e1, ?_⟩
  refine congrArg (fun n => AEnd.ret (.tuple #[.int .i64 n, .nilIface])) ?_
  exact wrap_i64 (by omega) (by omega)
theorem strParseInt_ec (s : List UInt8) (hn : s ≠ []) (hd : ∀ c ∈ s, isD c = true) (hl : s.length ≤ 15) (H : Heap) :
    EC Tryd.prog 12 [.string (st s), .int .i64 10, .int .i64 64] H fun r H' => Ext H H' ∧ r = .ret (.tuple #[.int .i64 (valD 0 s : Nat), .nilIface]) := by
  refine EC_fn ctx (fun _ => true) Tryd.func12 rfl rfl rfl ?_
  have no : ∀ {b : Bool} {Q : Prop}, b = false → b = true → Q := fun h1 h2 => by rw [h1] at h2; cases h2
  refine ⟨_, parseInt_ec s hn hd hl H, ?_, fun v K hR => by obtain ⟨_, h⟩ := hR; cases h⟩
  rintro v K ⟨e1, e⟩
  cases e
  refine ⟨no rfl, fun _ => ?_⟩
  exact ⟨e1, rfl⟩
end Go.Proofs.YtajcbdamgaofcaaDoor
