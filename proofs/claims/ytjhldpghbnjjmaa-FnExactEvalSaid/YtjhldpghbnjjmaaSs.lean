/- Slices of slices of floats: the laws' helpers over them. Conditions: all together at most 2^20 elements. -/
import Derived.Test.YtjhldpghbnjjmaaAmOpenS
import Derived.Test.YtjhldpghbnjjmaaHel
set_option linter.unusedVariables false
set_option linter.unusedSimpArgs false
namespace Go.Proofs.Ytjhldpghbnjjmaa
open Go.Am

abbrev snds (es : List SlE) : List (List Nat) := es.map (·.2)
def tot : List SlE → Nat
  | [] => 0
  | e :: r => e.2.length + tot r
theorem tot_append : ∀ l r, tot (l ++ r) = tot l + tot r
  | [], r => by simp [tot]
  | e :: l, r => by simp [tot, tot_append l r]; omega
theorem tot_snds : ∀ {l r : List SlE}, snds l = snds r → tot l = tot r
  | [], [], _ => rfl
  | [], _ :: _, h => by simp at h
  | _ :: _, [], h => by simp at h
  | e :: l, f :: r, h => by
    simp only [snds, List.map_cons, List.cons.injEq] at h
    simp only [tot, h.1, tot_snds (l := l) (r := r) h.2]
theorem tot_take (es : List SlE) (k : Nat) : tot (es.take k) ≤ tot es := by
  have := tot_append (es.take k) (es.drop k)
  rw [List.take_append_drop] at this
  omega
theorem tot_mem {es : List SlE} {e : SlE} (h : e ∈ es) : e.2.length ≤ tot es := by
  obtain ⟨i, hi, rfl⟩ := List.getElem_of_mem h
  have := tot_take es (i + 1)
  rw [List.take_succ_eq_append_getElem hi, tot_append] at this
  simp only [tot] at this
  omega
def szGo : List SlE → Int → Int
  | [], l => l
  | e :: r, l => if l - e.2.length < 0 then -1 else szGo r (l - e.2.length)
def szSS (es : List SlE) (left : Int) : Int := if left - es.length < 0 then -1 else szGo es (left - es.length)
theorem szGo_tot : ∀ (es : List SlE) (l : Int), 0 ≤ l → ¬ szGo es l < 0 → (tot es : Int) ≤ l
  | [], l, h0, h => by simpa [tot] using h0
  | e :: r, l, h0, h => by
    simp only [szGo] at h
    split at h
    · omega
    · have := szGo_tot r _ (by omega) h
      simp only [tot]
      omega
theorem szSS_bound {es : List SlE} {left : Int} (h : ¬ szSS es left < 0) : (es.length : Int) ≤ left ∧ (tot es : Int) ≤ left := by
  unfold szSS at h
  split at h
  · omega
  · have := szGo_tot es _ (by omega) h
    omega
theorem szFloat64S_pc (a : Option Addr) (xs : List Nat) (left : Int) (H : Heap) (h0 : 0 ≤ left) (h1 : left ≤ 9223372036854775807) (hl : xs.length ≤ 9223372036854775807) :
    PC Try.prog 89 [.slice a xs.length xs.length, .int .i64 left] H (.int .i64 (if left - xs.length < 0 then -1 else left - xs.length)) := by
  have hw : IntKind.i64.wrap (left - xs.length) = left - xs.length := wrap_i64 (by omega) (by omega)
  refine EC_fn ctx (fun _ => true) Try.func89 rfl rfl rfl ?_
  refine ⟨fun h => pint ?_, fun h => pint ?_⟩
  · rw [hw] at h; rw [if_pos (by simpa using h)]
  · rw [hw] at h ⊢; rw [if_neg (by simpa using h)]
theorem szFloat64SS_pc (a : Option Addr) (es : List SlE) (left : Int) (H : Heap) (hr : RdSS H a es) (h0 : 0 ≤ left) (h1 : left ≤ 1048576) (hl : es.length ≤ 9223372036854775807) (hi : ∀ e ∈ es, e.2.length ≤ 9223372036854775807) :
    PC Try.prog 29 [sv a es, .int .i64 left] H (.int .i64 (szSS es left)) := by
  have hw : IntKind.i64.wrap (left - es.length) = left - es.length := wrap_i64 (by omega) (by omega)
  refine EC_fn ctx (fun _ => true) Try.func29 rfl rfl rfl ?_
  refine ⟨fun h => pint ?_, fun h => ?_⟩
  · rw [hw] at h; unfold szSS; rw [if_pos (by simpa using h)]
  rw [hw] at h
  have hlt : ¬ left - (es.length : Int) < 0 := by simpa using h
  have hsz : szSS es left = szGo es (left - es.length) := by unfold szSS; rw [if_neg hlt]
  refine loop_ind ctx (fun _ => true) (fun m E K => ∃ (k : Nat) (cur : Int), k ≤ es.length ∧ m = es.length - k ∧ E = ⟨[(0, sv a es), (1, .int .i64 cur), (5, .int .i64 k)], []⟩ ∧ K = H ∧ 0 ≤ cur ∧ cur ≤ 1048576 ∧ szGo es (left - es.length) = szGo (es.drop k) cur)
    (E0 := ⟨[(0, sv a es), (1, .int .i64 (left - es.length)), (5, .int .i64 ((0 : Nat) : Int))], []⟩) ⟨0, left - es.length, Nat.zero_le _, rfl, rfl, rfl, by omega, by omega, by simp⟩ ⟨⟨rfl, trivial, congrArg (fun x => some (Value.int .i64 x)) hw, trivial, rfl, trivial, trivial⟩, trivial⟩ ?_
  rintro m E K ⟨k, cur, hk, rfl, rfl, rfl, hc0, hc1, hgo⟩
  refine ⟨fun hlt => ?_, fun hge => ?_⟩
  · have hlt : k < es.length := by simpa using hlt
    obtain ⟨b, o, rfl, hc⟩ := hr.out.cell (List.getElem?_eq_getElem hlt)
    rw [List.drop_eq_getElem_cons hlt, szGo] at hgo
    refine ⟨⟨by omega, by omega⟩, _, hc, _, szFloat64S_pc _ _ cur K hc0 (by omega) (hi _ (List.getElem_mem hlt)), ?_, fun v K hR => by cases hR.1⟩
    rintro _ K ⟨hx, rfl⟩
    cases hx
    refine ⟨fun hn => pint ?_, fun hn => ?_⟩
    · rw [hsz, hgo]
      split at hn
      · rename_i hneg; rw [if_pos hneg]
      · rename_i hneg; simp at hn; omega
    · have hneg : ¬ cur - (es[k].2.length : Int) < 0 := by
        intro hneg; rw [if_pos hneg] at hn; simp at hn
      rw [if_neg hneg] at hgo
      refine ⟨es.length - (k + 1), ⟨[(0, sv (some ⟨b, o, none⟩) es), (1, .int .i64 (cur - es[k].2.length)), (5, .int .i64 ((k + 1 : Nat) : Int))], []⟩, by omega, ⟨⟨rfl, trivial, by rw [if_neg hneg]; rfl, trivial, congrArg (fun x => some (Value.int .i64 x)) (wrap_nat (by omega)), trivial, trivial⟩, trivial⟩, k + 1, _, by omega, rfl, rfl, rfl, by omega, by omega, hgo⟩
  · have hk : k = es.length := by simp at hge; omega
    subst hk
    rw [List.drop_of_length_le (Nat.le_refl _), szGo] at hgo
    exact pint (by rw [hsz, hgo])
theorem eqFloat64SS_pc (H : Heap) (a b : Option Addr) (es fs : List SlE) (h : RdSS H a es) (h' : RdSS H b fs) (hl : es.length < 1048577) (ht : tot es ≤ 100000000) :
    PC Try.prog 33 [sv a es, sv b fs] H (.bool (decide (snds es = snds fs))) := by
  refine EC_fn ctx (fun _ => true) Try.func33 rfl rfl rfl ?_
  have hsl : snds es = snds fs → es.length = fs.length := fun e => by simpa using congrArg List.length e
  refine ⟨fun hne => pbool ?_, fun heq => ?_⟩
  · have : snds es ≠ snds fs := fun e => by have := hsl e; simp [this] at hne
    simp [this]
  · have hlen : es.length = fs.length := by simp at heq; omega
    refine loop_ind ctx (fun _ => true) (fun m E K => ∃ k, k ≤ es.length ∧ m = es.length - k ∧ E = ⟨[(0, sv a es), (1, sv b fs), (5, .int .i64 k)], []⟩ ∧ K = H ∧ snds (es.take k) = snds (fs.take k))
      ⟨0, Nat.zero_le _, rfl, rfl, rfl, by simp⟩ (by (refine ⟨?_, ?_⟩ <;> repeat' first | exact trivial | exact congrArg (fun x => some (Value.int .i64 x)) (wrap_nat (by omega)) | exact sv_eq (by simp; done) | exact rfl | refine ⟨?_, ?_⟩ | fail)) ?_
    rintro m E K ⟨k, hk, rfl, rfl, rfl, ht'⟩
    refine ⟨fun hlt => ?_, fun hge => ?_⟩
    · have hlt : k < es.length := by simpa using hlt
      have hlt' : k < fs.length := by omega
      obtain ⟨p, o, rfl, hc⟩ := h.out.cell (List.getElem?_eq_getElem hlt)
      obtain ⟨p', o', rfl, hc'⟩ := h'.out.cell (List.getElem?_eq_getElem hlt')
      have hin := h.inn _ (List.getElem_mem hlt)
      have hin' := h'.inn _ (List.getElem_mem hlt')
      have hml := tot_mem (List.getElem_mem hlt)
      refine ⟨.leaf [([0, 1, 2, 3, 4, 5, 6, 7, 8, 9], none)] [], by kernel_rfl, ⟨by omega, by omega⟩, _, hc, ⟨by omega, by omega⟩, _, hc', _, eqFloat64S_pc K _ _ _ _ hin hin' (by omega), fun hne => pbool ?_, fun heq => ?_⟩
      · have : snds es ≠ snds fs := fun e => by
          have := congrArg (fun l : List (List Nat) => l[k]?) e
          simp [hlt, hlt'] at this
          simp [this] at hne
        simp [this]
      · refine ⟨es.length - (k + 1), ⟨[(0, sv (some ⟨p, o, none⟩) es), (1, sv (some ⟨p', o', none⟩) fs), (5, .int .i64 ((k + 1 : Nat) : Int))], []⟩, by omega, by (refine ⟨?_, ?_⟩ <;> repeat' first | exact trivial | exact congrArg (fun x => some (Value.int .i64 x)) (wrap_nat (by omega)) | exact sv_eq (by simp; done) | exact rfl | refine ⟨?_, ?_⟩ | fail), k + 1, by omega, rfl, rfl, rfl, ?_⟩
        rw [List.take_succ_eq_append_getElem hlt, List.take_succ_eq_append_getElem hlt']
        simp only [snds, List.map_append, List.map_cons, List.map_nil] at ht' ⊢
        rw [ht']
        simp at heq
        rw [heq]
    · refine pbool ?_
      have hk : k = es.length := by simp at hge; omega
      subst hk
      rw [List.take_of_length_le (Nat.le_refl _), List.take_of_length_le (by omega)] at ht'
      simp [ht']
end Go.Proofs.Ytjhldpghbnjjmaa
