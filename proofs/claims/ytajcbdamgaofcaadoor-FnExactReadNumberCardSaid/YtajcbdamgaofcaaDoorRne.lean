/- ReadNumber, the reference's side. Condition: a text of at most 2^20 bytes. -/
import Derived.Test.YtajcbdamgaofcaaDoorRnd
set_option linter.unusedVariables false
set_option linter.unusedSimpArgs false
namespace Go.Proofs.YtajcbdamgaofcaaDoor
open Go.Am

theorem l3digit_pc (c : UInt8) (H : Heap) : PC Tryd.prog 9 [.int .u8 (c.toNat : Int)] H (.bool (isD c)) := by
  refine EC_fn ctx (fun _ => true) Tryd.func9 rfl rfl rfl ?_
  refine pbool ?_
  unfold isD
  generalize c.toNat = d
  show (bif decide ((d : Int) ≥ 48) then decide ((d : Int) ≤ 57) else false) = _
  by_cases h1 : 48 ≤ d <;> by_cases h2 : d ≤ 57 <;> simp [h1, h2] <;> omega
/-- What the reference's scan knows of the point. -/
def ptAt (s : List UInt8) (k : Nat) : Int := if ptP s < k then (ptP s : Int) else -1
def dgAt (s : List UInt8) (k : Nat) : Nat := if ptP s < k then k - 1 else k
theorem bI_get (s : List UInt8) {k : Nat} {c : UInt8} (h : s[k]? = some c) : (bI s)[k]? = some (c.toNat : Int) := by rw [List.getElem?_map, h]; rfl
theorem ptAt_ne {s : List UInt8} {k : Nat} (h : k ≠ ptP s) : ptAt s (k + 1) = ptAt s k := by
  unfold ptAt
  by_cases h1 : ptP s < k
  · rw [if_pos h1, if_pos (by omega)]
  · rw [if_neg h1, if_neg (by omega)]
theorem dgAt_ne {s : List UInt8} {k : Nat} (h : k ≠ ptP s) : dgAt s (k + 1) = dgAt s k + 1 := by
  unfold dgAt
  by_cases h1 : ptP s < k
  · rw [if_pos h1, if_pos (by omega)]; omega
  · rw [if_neg h1, if_neg (by omega)]
theorem ptAt_eq (s : List UInt8) : ptAt s (ptP s + 1) = (ptP s : Int) := by unfold ptAt; rw [if_pos (by omega)]
theorem dgAt_eq (s : List UInt8) : dgAt s (ptP s + 1) = dgAt s (ptP s) := by unfold dgAt; rw [if_pos (by omega), if_neg (by omega)]; omega
theorem ptAt_neg {s : List UInt8} {k : Nat} : ptAt s k < 0 ↔ k ≤ ptP s := by
  unfold ptAt
  by_cases h1 : ptP s < k
  · rw [if_pos h1]; omega
  · rw [if_neg h1]; omega
theorem dgAt_le {s : List UInt8} {k : Nat} : dgAt s k ≤ k := by unfold dgAt; split <;> omega
theorem specReadNumber_ec (H : Heap) (p : Option Addr) (s : List UInt8) (h : Rd dByte H p (bI s)) (hl : s.length ≤ 1048576) :
    PC Tryd.prog 4 [sv p (bI s)] H (rnV s) := by
  have hln : (bI s).length = s.length := List.length_map ..
  have no : ∀ {b : Bool} {Q : Prop}, b = false → b = true → Q := fun h1 h2 => by rw [h1] at h2; cases h2
  have no' : ∀ {b : Bool} {Q : Prop}, b = true → b = false → Q := fun h1 h2 => by rw [h1] at h2; cases h2
  refine EC_fn ctx (fun _ => true) Tryd.func4 rfl rfl rfl ?_
  refine loop_ind ctx (fun _ => true) (fun m E K => ∃ k, k ≤ s.length ∧ m = s.length - k ∧ E = ⟨[(0, sv p (bI s)), (4, .int .i64 (ptAt s k)), (5, .int .i64 (dgAt s k : Nat)), (6, .int .i64 (k : Nat))], []⟩ ∧ K = H ∧ ∀ j c, j < k → s[j]? = some c → j ≠ ptP s → isD c = true)
    ⟨0, Nat.zero_le _, rfl, rfl, rfl, fun j c hj => absurd hj (Nat.not_lt_zero _)⟩ ⟨⟨rfl, trivial, congrArg (fun x => some (Value.int .i64 x)) (by simp [ptAt] : (-1 : Int) = ptAt s 0), trivial, congrArg (fun x : Nat => some (Value.int .i64 (x : Int))) (by simp [dgAt] : (0 : Nat) = dgAt s 0), trivial, rfl, trivial, trivial⟩, trivial⟩ ?_
  rintro m E K ⟨k, hk, rfl, rfl, rfl, hd⟩
  have hple := ptP_le s
  refine ⟨fun hlt => ?_, fun hge => ?_⟩
  · have hlt : k < s.length := by simpa using hlt
    obtain ⟨c, hc⟩ : ∃ c, s[k]? = some c := ⟨s[k], List.getElem?_eq_getElem hlt⟩
    obtain ⟨b, o, rfl, hcl⟩ := h.cell (bI_get s hc)
    refine ⟨⟨by omega, by omega⟩, _, hcl, _, l3digit_pc c K, ?_, fun v K hR => by obtain ⟨h, _⟩ := hR; cases h⟩
    rintro v K1 ⟨hv, rfl⟩
    cases hv
    refine ⟨fun hD => ?_, fun hD => ?_⟩
    · have hD : isD c = true := hD
      have hne : k ≠ ptP s := fun e => by
        have := ptP_at (s := s) (by omega)
        rw [← e, hc] at this
        cases this
        cases hD
      have hdl : dgAt s k ≤ k := dgAt_le
      refine ⟨s.length - (k + 1), ⟨[(0, sv (some ⟨b, o, none⟩) (bI s)), (4, .int .i64 (ptAt s (k + 1))), (5, .int .i64 (dgAt s (k + 1) : Nat)), (6, .int .i64 ((k + 1 : Nat) : Int))], []⟩, by omega, ⟨⟨rfl, trivial, congrArg (fun x => some (Value.int .i64 x)) (ptAt_ne hne).symm, trivial, congrArg (fun x => some (Value.int .i64 x)) (by rw [dgAt_ne hne]; exact wrap_nat (by omega)), trivial, congrArg (fun x => some (Value.int .i64 x)) (wrap_nat (by omega)), trivial, trivial⟩, trivial⟩, k + 1, by omega, rfl, rfl, rfl, ?_⟩
      intro j c' hj hc' hjn
      by_cases hjk : j = k
      · subst hjk; rw [hc] at hc'; cases hc'; exact hD
      · exact hd j c' (by omega) hc' hjn
    · have hD : isD c = false := hD
      refine ⟨⟨by omega, by omega⟩, _, hcl, fun hp => ?_, fun hp => ?_⟩
      · have hp : (bif ((c.toNat : Int) == 46) then decide (ptAt s k < 0) else false) = true := hp
        have hp2 : c = 46 ∧ k ≤ ptP s := by
          by_cases h1 : c.toNat = 46
          · refine ⟨UInt8.toNat_inj.1 h1, ptAt_neg.1 ?_⟩
            simpa [h1] using hp
          · have : ((c.toNat : Int) == 46) = false := by simp; omega
            rw [this] at hp; cases hp
        have hk' : k = ptP s := by
          obtain ⟨rfl, h2⟩ := hp2
          rcases Nat.lt_or_ge k (ptP s) with h3 | h3
          · exact absurd hc (ptP_before h3)
          · omega
        have hdl : dgAt s k ≤ k := dgAt_le
        refine ⟨s.length - (k + 1), ⟨[(0, sv (some ⟨b, o, none⟩) (bI s)), (4, .int .i64 (ptAt s (k + 1))), (5, .int .i64 (dgAt s (k + 1) : Nat)), (6, .int .i64 ((k + 1 : Nat) : Int))], []⟩, by omega, ⟨⟨rfl, trivial, congrArg (fun x => some (Value.int .i64 x)) (by rw [hk', ptAt_eq]), trivial, congrArg (fun x : Nat => some (Value.int .i64 (x : Int))) (by rw [hk', dgAt_eq]), trivial, congrArg (fun x => some (Value.int .i64 x)) (wrap_nat (by omega)), trivial, trivial⟩, trivial⟩, k + 1, by omega, rfl, rfl, rfl, ?_⟩
        intro j c' hj hc' hjn
        exact hd j c' (by omega) hc' hjn
      · have hp : (bif ((c.toNat : Int) == 46) then decide (ptAt s k < 0) else false) = false := hp
        have hne : k ≠ ptP s := fun e => by
          have h1 := ptP_at (s := s) (by omega)
          rw [← e, hc] at h1
          cases h1
          have h2 : ptAt s k < 0 := ptAt_neg.2 (by omega)
          simp [h2] at hp
        have hg : goodP s = false := by
          cases hg : goodP s
          · rfl
          · have := ((goodP_iff s).1 hg).2.2.2 k c hc hne
            rw [this] at hD; cases hD
        refine ⟨?_, rfl⟩
        unfold rnV
        rw [hg]
        rfl
  · have hk' : k = s.length := by simp at hge; omega
    subst hk'
    have hd : ∀ j c, s[j]? = some c → j ≠ ptP s → isD c = true := fun j c hc hn => hd j c (List.getElem?_eq_some_iff.1 hc).1 hc hn
    have hw : IntKind.i64.wrap (((bI s).length : Int) - 1) = (s.length : Int) - 1 := by rw [hln]; exact wrap_i64 (by omega) (by omega)
    have hcond : (bif (bif (((bI s).length : Int) == 0) then true else (ptAt s s.length == 0)) then true else (ptAt s s.length == IntKind.i64.wrap (((bI s).length : Int) - 1))) = !goodP s := by
      rw [hw, hln]
      have hgi : goodP s = true ↔ (s.length ≠ 0 ∧ ptP s ≠ 0 ∧ ptP s + 1 ≠ s.length) := by
        rw [goodP_iff]
        constructor
        · rintro ⟨a, b, c, _⟩
          exact ⟨fun e => a (List.length_eq_zero_iff.1 e), b, c⟩
        · rintro ⟨a, b, c⟩
          exact ⟨fun e => a (List.length_eq_zero_iff.2 e), b, c, hd⟩
      rw [Bool.eq_iff_iff]
      rw [show ((!goodP s) = true) = ¬ (goodP s = true) from by simp, hgi]
      clear hgi hd h hge
      unfold ptAt
      generalize ptP s = t at *
      generalize s.length = n at *
      by_cases h1 : t < n
      · rw [if_pos h1]
        by_cases h2 : n = 0
        · omega
        · by_cases h3 : t = 0 <;> simp [h2, h3] <;> omega
      · rw [if_neg h1]
        by_cases h2 : n = 0 <;> simp [h2] <;> omega
    refine ⟨fun hb => ?_, fun hb => ?_⟩
    · have hb : (!goodP s) = true := hcond ▸ hb
      have hg : goodP s = false := by simpa using hb
      refine ⟨?_, rfl⟩
      unfold rnV
      rw [hg]
      rfl
    have hb : (!goodP s) = false := hcond ▸ hb
    have hg : goodP s = true := by simpa using hb
    have hrv : rnV s = if 15 < (remP s s.length).length then .tuple #[.float .f64 0, .int .i64 5] else .tuple #[quoV (valD 0 (remP s s.length)) (10 ^ (s.length - (ptP s + 1))), .int .i64 0] := by
      unfold rnV; rw [if_pos hg]
    have hdl : dgAt s s.length = (remP s s.length).length := by
      rw [remP_len]; unfold dgAt; simp; split <;> omega
    rw [hrv]
    clear hrv
    refine ⟨fun h15 => ?_, fun h15 => ?_⟩
    · have h15 : 15 < (remP s s.length).length := by rw [← hdl]; simp at h15; omega
      rw [if_pos h15]
      exact ⟨rfl, rfl⟩
    have h15 : ¬ 15 < (remP s s.length).length := by rw [← hdl]; simp at h15; omega
    rw [if_neg h15]
    have hD := remP_isD hg
    have hval : ∀ k, k ≤ s.length → valD 0 (remP s k) < 1000000000000000 := fun k hk => valD_lt15 (hD k) (by have := remP_len_le s k hk; omega)
    have hq : s.length - (ptP s + 1) ≤ 15 := by rw [remP_len] at h15; simp at h15; omega
    refine loop_ind ctx (fun _ => true) (fun m E K' => ∃ k, k ≤ s.length ∧ m = s.length - k ∧ E = ⟨[(0, sv p (bI s)), (4, .int .i64 (ptAt s s.length)), (7, .int .i64 (valD 0 (remP s k) : Nat)), (8, .int .i64 ((10 ^ (k - (ptP s + 1)) : Nat) : Int)), (9, .int .i64 (k : Nat))], []⟩ ∧ K' = K)
      ⟨0, Nat.zero_le _, rfl, rfl, rfl⟩ ⟨⟨rfl, trivial, rfl, trivial, congrArg (fun x : Nat => some (Value.int .i64 (x : Int))) (by rw [remP_zero, valD_nil] : (0 : Nat) = valD 0 (remP s 0)), trivial, congrArg (fun x : Nat => some (Value.int .i64 (x : Int))) (by simp : (1 : Nat) = 10 ^ (0 - (ptP s + 1))), trivial, rfl, trivial, trivial⟩, trivial⟩ ?_
    rintro m E K' ⟨k, hk, rfl, rfl, rfl⟩
    refine ⟨fun hlt => ?_, fun hge => ?_⟩
    · have hlt : k < s.length := by simpa using hlt
      obtain ⟨c, hc⟩ : ∃ c, s[k]? = some c := ⟨s[k], List.getElem?_eq_getElem hlt⟩
      refine ⟨fun hne => ?_, fun heq => ?_⟩
      · have hne : k ≠ ptP s := fun e => by
          have hne : ((k : Int) != ptAt s s.length) = true := hne
          unfold ptAt at hne
          rw [if_pos (by omega), e] at hne
          simp at hne
        obtain ⟨b, o, rfl, hcl⟩ := h.cell (bI_get s hc)
        have hdc := isD_iff (hd k c hc hne)
        have hlt256 : c.toNat < 256 := c.toNat_lt
        have hs : valD 0 (remP s (k + 1)) = valD 0 (remP s k) * 10 + (c.toNat - 48) := by
          rw [remP_succ hc hne, valD_append, valD_cons, valD_nil]
          unfold stepD; rfl
        have hv0 := hval k hk
        have hv1 := hval (k + 1) (by omega)
        have w8 : IntKind.u8.wrap ((c.toNat : Int) - 48) = ((c.toNat - 48 : Nat) : Int) := by
          generalize c.toNat = d at *
          rw [show ((d : Int) - 48) = ((d - 48 : Nat) : Int) by omega]
          simp only [IntKind.wrap, IntKind.bits, IntKind.signed]
          simp; omega
        have a2 : IntKind.i64.wrap (IntKind.i64.wrap ((valD 0 (remP s k) : Nat) * 10 : Int) + IntKind.i64.wrap (IntKind.u8.wrap ((c.toNat : Int) - 48))) = ((valD 0 (remP s (k + 1)) : Nat) : Int) := by
          rw [w8, wrap_i64 (x := ((c.toNat - 48 : Nat) : Int)) (by omega) (by omega), wrap_i64 (x := ((valD 0 (remP s k) : Nat) : Int) * 10) (by omega) (by omega), wrap_i64 (by omega) (by omega), hs]
          omega
        refine ⟨⟨by omega, by omega⟩, _, hcl, ?_⟩
        refine ⟨fun hb => ?_, fun hb => ?_⟩
        · have hb : (bif decide (ptAt s s.length ≥ 0) then decide ((k : Int) > ptAt s s.length) else false) = true := hb
          have hlt' : ptP s < k := by
            unfold ptAt at hb
            split at hb
            · simp at hb <;> omega
            · simp at hb
          refine ⟨s.length - (k + 1), ⟨[(0, sv (some ⟨b, o, none⟩) (bI s)), (4, .int .i64 (ptAt s s.length)), (7, .int .i64 (valD 0 (remP s (k + 1)) : Nat)), (8, .int .i64 ((10 ^ (k + 1 - (ptP s + 1)) : Nat) : Int)), (9, .int .i64 ((k + 1 : Nat) : Int))], []⟩, by omega, ⟨⟨rfl, trivial, rfl, trivial, congrArg (fun x => some (Value.int .i64 x)) a2, trivial, congrArg (fun x => some (Value.int .i64 x)) ?_, trivial, congrArg (fun x => some (Value.int .i64 x)) (wrap_nat (by omega)), trivial, trivial⟩, trivial⟩, k + 1, by omega, rfl, rfl, rfl⟩
          rw [show k + 1 - (ptP s + 1) = k - (ptP s + 1) + 1 by omega]
          exact ten_succ (by omega)
        · have hb : (bif decide (ptAt s s.length ≥ 0) then decide ((k : Int) > ptAt s s.length) else false) = false := hb
          have hle : k < ptP s := by
            unfold ptAt at hb
            split at hb
            · simp at hb <;> omega
            · omega
          refine ⟨s.length - (k + 1), ⟨[(0, sv (some ⟨b, o, none⟩) (bI s)), (4, .int .i64 (ptAt s s.length)), (7, .int .i64 (valD 0 (remP s (k + 1)) : Nat)), (8, .int .i64 ((10 ^ (k + 1 - (ptP s + 1)) : Nat) : Int)), (9, .int .i64 ((k + 1 : Nat) : Int))], []⟩, by omega, ⟨⟨rfl, trivial, rfl, trivial, congrArg (fun x => some (Value.int .i64 x)) a2, trivial, ?_, trivial, congrArg (fun x => some (Value.int .i64 x)) (wrap_nat (by omega)), trivial, trivial⟩, trivial⟩, k + 1, by omega, rfl, rfl, rfl⟩
          rw [show k + 1 - (ptP s + 1) = k - (ptP s + 1) by omega]
          rfl
      · have heq : k = ptP s := by
          have heq : ((k : Int) != ptAt s s.length) = false := heq
          unfold ptAt at heq
          split at heq
          · simp at heq <;> omega
          · simp at heq <;> omega
        refine ⟨s.length - (k + 1), ⟨[(0, sv p (bI s)), (4, .int .i64 (ptAt s s.length)), (7, .int .i64 (valD 0 (remP s (k + 1)) : Nat)), (8, .int .i64 ((10 ^ (k + 1 - (ptP s + 1)) : Nat) : Int)), (9, .int .i64 ((k + 1 : Nat) : Int))], []⟩, by omega, ⟨⟨rfl, trivial, rfl, trivial, congrArg (fun x : List UInt8 => some (Value.int .i64 (valD 0 x : Nat))) (by rw [heq, remP_pt]), trivial, ?_, trivial, congrArg (fun x => some (Value.int .i64 x)) (wrap_nat (by omega)), trivial, trivial⟩, trivial⟩, k + 1, by omega, rfl, rfl, rfl⟩
        rw [show k + 1 - (ptP s + 1) = k - (ptP s + 1) by omega]
        rfl
    · have hk' : k = s.length := by simp at hge; omega
      subst hk'
      exact ⟨rfl, rfl⟩
theorem rnV_tup (s : List UInt8) : ∃ f c, rnV s = .tuple #[.float .f64 f, .int .i64 c] := by
  unfold rnV
  split
  · split
    · exact ⟨_, _, rfl⟩
    · exact ⟨_, _, rfl⟩
  · exact ⟨_, _, rfl⟩
theorem bI_of {xs : List Int} (h : ∀ b ∈ xs, 0 ≤ b ∧ b ≤ 255) : ∃ s : List UInt8, xs = bI s := by
  induction xs with
  | nil => exact ⟨[], rfl⟩
  | cons x r ih =>
    obtain ⟨s, rfl⟩ := ih (fun b hb => h b (List.mem_cons_of_mem _ hb))
    have hx := h x List.mem_cons_self
    refine ⟨UInt8.ofNat x.toNat :: s, ?_⟩
    simp only [bI, List.map_cons]
    congr 1
    rw [UInt8.toNat_ofNat']
    omega
theorem law_ReadNumber {H : Heap} {p : Option Addr} {bs : List Int} (hb : ∀ b ∈ bs, 0 ≤ b ∧ b ≤ 255) (hr : Rd dByte H p bs) (hl0 : bs.length ≤ 9223372036854775807) :
    EC Tryd.prog 3 [sv p bs] H fun e H' => e = .ret (.bool true) := by
  obtain ⟨s, rfl⟩ := bI_of hb
  obtain ⟨f, c, hv⟩ := rnV_tup s
  have no : ∀ {b : Bool} {Q : Prop}, b = false → b = true → Q := fun h1 h2 => by rw [h1] at h2; cases h2
  refine EC_fn ctx (fun _ => true) Tryd.func3 rfl rfl rfl ?_
  refine ⟨fun h => rfl, fun h => ?_⟩
  have hl : (bI s).length ≤ 1048576 := by simp at h ⊢; omega
  have hl' : s.length ≤ 1048576 := by rw [List.length_map] at hl; exact hl
  refine ⟨_, toByteS_ec H p (bI s) hr hl, ?_, fun v K hR => by cases hR.1⟩
  rintro _ K1 ⟨hx, hK1⟩
  cases hx
  have e1 : Ext H K1 := by rw [hK1]; exact Ext.push _ _
  have r1 : Rd dByte K1 (some ⟨H.next, 0, none⟩) (bI s) := by rw [hK1]; exact Rd.push _ _
  refine ⟨_, specReadNumber_ec K1 _ s r1 hl', ?_, fun v K hR => by cases hR.1⟩
  rintro _ K2 ⟨hx, rfl⟩
  rw [hv] at hx
  cases hx
  refine ⟨_, toByteS_ec K2 p (bI s) (hr.mono e1) hl, ?_, fun v K hR => by cases hR.1⟩
  rintro _ K3 ⟨hx, hK3⟩
  cases hx
  have e3 : Ext K2 K3 := by rw [hK3]; exact Ext.push _ _
  have r3 : Rd dByte K3 (some ⟨K2.next, 0, none⟩) (bI s) := by rw [hK3]; exact Rd.push _ _
  refine ⟨_, readNumber_ec K3 _ s r3 hl', ?_, fun v K hR => by cases hR.2⟩
  rintro _ K4 ⟨e4, hx⟩
  rw [hv] at hx
  cases hx
  refine ⟨_, sameFloat_pc _ _ K4, ?_, fun v K hR => by cases hR.1⟩
  rintro _ K4 ⟨hx, rfl⟩
  cases hx
  refine ⟨fun h => by simp at h, fun _ => ?_⟩
  refine ⟨_, toByteS_ec K4 p (bI s) (hr.mono ((e1.trans e3).trans e4)) hl, ?_, fun v K hR => by cases hR.1⟩
  rintro _ K5 ⟨hx, hK5⟩
  cases hx
  have e5 : Ext K4 K5 := by rw [hK5]; exact Ext.push _ _
  have r5 : Rd dByte K5 (some ⟨K4.next, 0, none⟩) (bI s) := by rw [hK5]; exact Rd.push _ _
  refine ⟨_, eqByteS_pc K5 _ _ (bI s) (bI s) (r3.mono (e4.trans e5)) r5 (by omega), ?_, fun v K hR => by cases hR.1⟩
  rintro _ K6 ⟨hx, rfl⟩
  cases hx
  refine ⟨fun h => by simp at h, fun _ => rfl⟩
end Go.Proofs.YtajcbdamgaofcaaDoor
