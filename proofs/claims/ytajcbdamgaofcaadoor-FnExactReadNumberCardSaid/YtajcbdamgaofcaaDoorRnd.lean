/- ReadNumber, the program's side. Condition: a text of at most 2^20 bytes. -/
import Derived.Test.YtajcbdamgaofcaaDoorRnp
import Derived.Test.YtajcbdamgaofcaaDoorByt
set_option linter.unusedVariables false
set_option linter.unusedSimpArgs false
namespace Go.Proofs.YtajcbdamgaofcaaDoor
open Go.Am

abbrev bI (s : List UInt8) : List Int := s.map fun b => (b.toNat : Int)
theorem bytes_st (s : List UInt8) : bytesS (bI s) = st s := by
  rw [bytesS_st]; congr 1
  rw [List.map_map]
  induction s with
  | nil => rfl
  | cons c r ih => rw [List.map_cons, ih]; simp
theorem run_allB {H : Heap} {b o : Nat} {xs : List Int} (h : Rd dByte H (some ⟨b, o, none⟩) xs) {n : Nat} (hn : xs.length = n + 1) : H.run? b o (n + 1) = some (xs.map (Value.int .u8)) := by
  obtain ⟨b', o', cs, rw_, h1, h2, h3, h4⟩ := h.at_ (by omega)
  cases h1
  have h3 : o + xs.length * 1 ≤ cs.length := h3
  have h4 : (cs.drop o).take (xs.length * 1) = flat dByte xs := h4
  rw [hn, Nat.mul_one] at h3 h4
  unfold Heap.run?
  rw [h2]
  simp only [if_pos h3]
  rw [h4]
  congr 1
  clear h h2 h3 h4 hn
  have key : ∀ xs : List Int, flat dByte xs = xs.map (Value.int .u8) := fun xs => by
   induction xs with
   | nil => rfl
   | cons x r ih => simp only [flat, List.map_cons]; rw [ih]; rfl
  exact key xs
def rnPv (k : Nat) : Bool := !Nat.beq k 1000024
theorem decode_st {s : List UInt8} {k : Nat} {c : UInt8} (hc : s[k]? = some c) (h : c.toNat < 128) : Utf8.decode (st s) k = (c.toNat, 1) := by
  have hk := (List.getElem?_eq_some_iff.1 hc).1
  have e : (st s).get! (k + 0) = c := by
    show (st s).data[k + 0]! = c
    rw [Nat.add_zero, getElem!_def, st_get, hc]
  unfold Utf8.decode
  simp only [e, if_pos h]
theorem put_push (H : Heap) (c c' : Blk) : (H.push c).put H.next c' = H.push c' := Heap.ext' rfl fun x => by
  rw [put_blk _ _ _ _ (Nat.lt_succ_self _)]
  by_cases hx : x = H.next
  · subst hx; rw [if_pos rfl, push_blk]
  · rw [if_neg hx, push_blk_ne _ _ hx, push_blk_ne _ _ hx]
theorem ten_succ {k : Nat} (h : k < 15) : IntKind.i64.wrap (((10 ^ k : Nat) : Int) * 10) = ((10 ^ (k + 1) : Nat) : Int) := by
  have h1 : 10 ^ k ≤ 10 ^ 15 := Nat.pow_le_pow_right (by decide) (by omega)
  have h2 : (10 : Nat) ^ 15 = 1000000000000000 := by decide
  rw [Nat.pow_succ]
  rw [h2] at h1
  generalize 10 ^ k = d at *
  rw [wrap_i64 (by omega) (by omega)]
  omega
theorem rnV_eq (s : List UInt8) : rnV s = if (digs (s.take (ptP s)) && (!decide (ptP s < s.length) || digs (s.drop (ptP s + 1)))) = true then (if 15 < (s.take (ptP s) ++ s.drop (ptP s + 1)).length then .tuple #[.float .f64 0, .int .i64 5] else .tuple #[quoV (valD 0 (s.take (ptP s) ++ s.drop (ptP s + 1))) (10 ^ (s.drop (ptP s + 1)).length), .int .i64 0])
    else .tuple #[.float .f64 0, .int .i64 2] := by
  rw [rnV, remP_all, List.length_drop]
  rfl
theorem readNumber_ec (H : Heap) (p : Option Addr) (s : List UInt8) (h : Rd dByte H p (bI s)) (hl : s.length ≤ 1048576) :
    EC Tryd.prog 6 [sv p (bI s)] H fun r H' => Ext H H' ∧ r = .ret (rnV s) := by
  refine EC_fn ctx rnPv Tryd.func6 rfl rfl rfl ?_
  have cp := cut_pc s 46 (by omega) H
  rw [cutB_eq] at cp
  dsimp only at cp
  have hw : (s.take (ptP s)).length ≤ 1048576 := by simp; omega
  have hp : (s.drop (ptP s + 1)).length ≤ 1048576 := by simp; omega
  have hv := rnV_eq s
  have hq0 : decide (ptP s < s.length) = false → s.drop (ptP s + 1) = [] := fun h => by
    have : ¬ ptP s < s.length := by simpa using h
    rw [List.drop_eq_nil_iff]; omega
  have no : ∀ {b : Bool} {Q : Prop}, b = false → b = true → Q := fun h1 h2 => by rw [h1] at h2; cases h2
  have no' : ∀ {b : Bool} {Q : Prop}, b = true → b = false → Q := fun h1 h2 => by rw [h1] at h2; cases h2
  cases s with
  | nil =>
    refine ⟨_, cp, ?_, fun v K hR => by obtain ⟨h, _⟩ := hR; cases h⟩
    rintro v K ⟨hv, rfl⟩
    cases hv
    refine ⟨_, digitsOnly_ec _ (by omega) K, ?_, fun v K hR => by obtain ⟨_, h⟩ := hR; cases h⟩
    rintro v K1 ⟨e1, e⟩
    cases e
    refine ⟨no rfl, fun _ => ?_⟩
    refine ⟨fun _ => ?_, no' rfl⟩
    exact ⟨e1, rfl⟩
  | cons c r =>
  obtain ⟨b, o, rfl, _⟩ := h.cell (i := 0) (x := (c.toNat : Int)) rfl
  refine ⟨.string (bytesS (bI (c :: r))), ⟨_, run_allB h rfl, rfl⟩, ?_⟩
  rw [bytes_st]
  generalize c :: r = s at *
  generalize s.take (ptP s) = w at *
  generalize s.drop (ptP s + 1) = q at *
  generalize decide (ptP s < s.length) = fd at *
  rw [hv]
  clear hv
  refine ⟨_, cp, ?_, fun v K hR => by obtain ⟨h, _⟩ := hR; cases h⟩
  rintro v K ⟨hv, rfl⟩
  cases hv
  refine ⟨_, digitsOnly_ec _ (by omega) K, ?_, fun v K hR => by obtain ⟨_, h⟩ := hR; cases h⟩
  rintro v K1 ⟨e1, e⟩
  cases e
  have hwq : digs w = true → (fd = true → digs q = true) → w ++ q ≠ [] ∧ ∀ c ∈ w ++ q, isD c = true := fun h1 h2 => by
    obtain ⟨a1, a2⟩ := (digs_iff w).1 h1
    refine ⟨by simp [a1], fun c hc => ?_⟩
    rcases List.mem_append.1 hc with hc | hc
    · exact a2 c hc
    · cases hf : fd
      · rw [hq0 hf] at hc; cases hc
      · exact ((digs_iff q).1 (h2 hf)).2 c hc
  refine ⟨fun hc => ⟨_, digitsOnly_ec _ (by omega) K1, ?_, fun v K hR => by obtain ⟨_, h⟩ := hR; cases h⟩, fun hc => ?_⟩
  · rintro v K2 ⟨e2, e⟩
    cases e
    have hdw : digs w = true := by
      cases hd : digs w
      · rw [hd] at hc; cases fd <;> simp at hc
      · rfl
    have hfd : fd = true := by
      cases fd
      · rw [hdw] at hc; simp at hc
      · rfl
    subst hfd
    rw [hdw]
    have e3 := e1.trans e2
    refine ⟨fun h => ?_, fun h => ?_⟩
    · have h : digs q = false := by simpa using h
      rw [h]
      exact ⟨e3, rfl⟩
    have hdq : digs q = true := by simpa using h
    rw [hdq]
    obtain ⟨hne, hD⟩ := hwq hdw (fun _ => hdq)
    rw [if_pos (show (true && (!true || true)) = true from rfl)]
    clear hc h
    have z1 := st_size w
    have z2 := st_size q
    have zl : (w ++ q).length = w.length + q.length := List.length_append
    have zw : IntKind.i64.wrap (((st w).size : Int) + ((st q).size : Int)) = ((w ++ q).length : Int) := by rw [wrap_i64 (by omega) (by omega)]; omega
    refine ⟨fun h => ?_, fun h => ?_⟩
    · have h15 : 15 < (w ++ q).length := by
        have h : decide (IntKind.i64.wrap (((st w).size : Int) + ((st q).size : Int)) > 15) = true := h
        rw [zw] at h; simp at h; omega
      rw [if_pos h15]; exact ⟨e3, rfl⟩
    have h15 : ¬ 15 < (w ++ q).length := by
      have h : decide (IntKind.i64.wrap (((st w).size : Int) + ((st q).size : Int)) > 15) = false := h
      rw [zw] at h; simp at h; omega
    rw [if_neg h15]
    refine ⟨by show (st w).size + (st q).size ≤ 9223372036854775807; omega, ?_⟩
    rw [st_append]
    refine ⟨_, strParseInt_ec (w ++ q) hne hD (by omega) K2, ?_, fun v K hR => by obtain ⟨_, h⟩ := hR; cases h⟩
    rintro v K3 ⟨e4, e⟩
    cases e
    refine loop_ind ctx rnPv (fun m E K' => ∃ k, k ≤ q.length ∧ m = q.length - k ∧ E = ⟨[(7, .int .i64 (valD 0 (w ++ q) : Nat)), (9, .int .i64 ((10 ^ k : Nat) : Int)), (42, .pointer (some ⟨K3.next, 0, none⟩))], []⟩ ∧ K' = K3.push (.map .iter [(.string (st q), .int .i64 ((k : Nat) : Int))]))
      ⟨0, Nat.zero_le _, rfl, rfl, rfl⟩ ⟨⟨rfl, trivial, rfl, trivial, rfl, trivial, trivial⟩, trivial⟩ ?_
    rintro m E K' ⟨k, hk, rfl, rfl, rfl⟩
    refine ⟨st q, k, push_blk _ _, fun hlt => ?_, fun hge => ?_⟩
    · have hlt : k < q.length := by rw [st_size] at hlt; exact hlt
      obtain ⟨c, hc⟩ : ∃ c, q[k]? = some c := ⟨q[k], List.getElem?_eq_getElem hlt⟩
      have hdc := isD_iff (hD c (by rw [List.mem_append]; exact .inr (List.mem_of_getElem? hc)))
      rw [decode_st hc (by omega), put_push]
      refine ⟨fun _ => ?_, no' rfl⟩
      refine ⟨q.length - (k + 1), ⟨[(7, .int .i64 (valD 0 (w ++ q) : Nat)), (9, .int .i64 ((10 ^ (k + 1) : Nat) : Int)), (42, .pointer (some ⟨K3.next, 0, none⟩))], []⟩, by omega, ⟨⟨rfl, trivial, congrArg (fun x => some (Value.int .i64 x)) (ten_succ (by omega)), trivial, rfl, trivial, trivial⟩, trivial⟩, k + 1, by omega, rfl, rfl, rfl⟩
    · have hk' : k = q.length := by rw [st_size] at hge; omega
      subst hk'
      refine ⟨no rfl, fun _ => ?_⟩
      exact ⟨(e3.trans e4).trans (Ext.push _ _), rfl⟩
  · have hdf : digs w = false ∨ (digs w = true ∧ fd = false) := by
      cases hd : digs w
      · exact .inl rfl
      · rw [hd] at hc; cases fd
        · exact .inr ⟨rfl, rfl⟩
        · simp at hc
    rcases hdf with hdw | ⟨hdw, rfl⟩
    · rw [hdw]
      exact ⟨fun _ => ⟨e1, rfl⟩, no' rfl⟩
    rw [hdw]
    obtain ⟨hne, hD⟩ := hwq hdw (fun h => by cases h)
    refine ⟨no rfl, fun _ => ?_⟩
    rw [if_pos (show (true && (!false || digs q)) = true from rfl)]
    clear hc
    obtain ⟨K2, rfl⟩ : ∃ K2, K2 = K1 := ⟨_, rfl⟩
    have e3 := e1
    have z1 := st_size w
    have z2 := st_size q
    have zl : (w ++ q).length = w.length + q.length := List.length_append
    have zw : IntKind.i64.wrap (((st w).size : Int) + ((st q).size : Int)) = ((w ++ q).length : Int) := by rw [wrap_i64 (by omega) (by omega)]; omega
    refine ⟨fun h => ?_, fun h => ?_⟩
    · have h15 : 15 < (w ++ q).length := by
        have h : decide (IntKind.i64.wrap (((st w).size : Int) + ((st q).size : Int)) > 15) = true := h
        rw [zw] at h; simp at h; omega
      rw [if_pos h15]; exact ⟨e3, rfl⟩
    have h15 : ¬ 15 < (w ++ q).length := by
      have h : decide (IntKind.i64.wrap (((st w).size : Int) + ((st q).size : Int)) > 15) = false := h
      rw [zw] at h; simp at h; omega
    rw [if_neg h15]
    refine ⟨by show (st w).size + (st q).size ≤ 9223372036854775807; omega, ?_⟩
    rw [st_append]
    refine ⟨_, strParseInt_ec (w ++ q) hne hD (by omega) K2, ?_, fun v K hR => by obtain ⟨_, h⟩ := hR; cases h⟩
    rintro v K3 ⟨e4, e⟩
    cases e
    refine loop_ind ctx rnPv (fun m E K' => ∃ k, k ≤ q.length ∧ m = q.length - k ∧ E = ⟨[(7, .int .i64 (valD 0 (w ++ q) : Nat)), (9, .int .i64 ((10 ^ k : Nat) : Int)), (42, .pointer (some ⟨K3.next, 0, none⟩))], []⟩ ∧ K' = K3.push (.map .iter [(.string (st q), .int .i64 ((k : Nat) : Int))]))
      ⟨0, Nat.zero_le _, rfl, rfl, rfl⟩ ⟨⟨rfl, trivial, rfl, trivial, rfl, trivial, trivial⟩, trivial⟩ ?_
    rintro m E K' ⟨k, hk, rfl, rfl, rfl⟩
    refine ⟨st q, k, push_blk _ _, fun hlt => ?_, fun hge => ?_⟩
    · have hlt : k < q.length := by rw [st_size] at hlt; exact hlt
      obtain ⟨c, hc⟩ : ∃ c, q[k]? = some c := ⟨q[k], List.getElem?_eq_getElem hlt⟩
      have hdc := isD_iff (hD c (by rw [List.mem_append]; exact .inr (List.mem_of_getElem? hc)))
      rw [decode_st hc (by omega), put_push]
      refine ⟨fun _ => ?_, no' rfl⟩
      refine ⟨q.length - (k + 1), ⟨[(7, .int .i64 (valD 0 (w ++ q) : Nat)), (9, .int .i64 ((10 ^ (k + 1) : Nat) : Int)), (42, .pointer (some ⟨K3.next, 0, none⟩))], []⟩, by omega, ⟨⟨rfl, trivial, congrArg (fun x => some (Value.int .i64 x)) (ten_succ (by omega)), trivial, rfl, trivial, trivial⟩, trivial⟩, k + 1, by omega, rfl, rfl, rfl⟩
    · have hk' : k = q.length := by rw [st_size] at hge; omega
      subst hk'
      refine ⟨no rfl, fun _ => ?_⟩
      exact ⟨(e3.trans e4).trans (Ext.push _ _), rfl⟩
end Go.Proofs.YtajcbdamgaofcaaDoor
