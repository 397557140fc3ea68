/- Kernels: what both sides' functions over floats compute. Conditions: lists of at most 2^20 elements. -/
import Derived.Test.YtjmobjiaoklfdaaGv
import Derived.Test.YtjmobjiaoklfdaaFlExp
set_option linter.unusedVariables false
set_option linter.unusedSimpArgs false
namespace Go.Proofs.Ytjmobjiaoklfdaa
open Go.Am
open FlCore (canon isNan)

def fneg (x : Nat) : Nat := canon (Op.negFloat .f64 x)
def gtF (x y : Nat) : Bool := ordF x y == some .gt
theorem Is.expF {b x : Nat} (h : Is b x) : expF b = expF x := by
  cases hn : isNan b
  · rw [← h.eq, canon_num hn]
  · have : isNan x = true := by rw [← h.eq, canon_isNan, hn]
    unfold Proofs.Ytjmobjiaoklfdaa.expF
    rw [hn, this]; rfl
theorem pflt {x y : Nat} {H : Heap} (h : x = y) : AEnd.ret (.float .f64 x) = .ret (.float .f64 y) ∧ H = H := pret (congrArg _ h)

theorem specExp_pc (x : Nat) (H : Heap) : PC Try.prog 88 [.float .f64 x] H (.float .f64 (expF x)) :=
  PC_of_calls Try.func88 rfl rfl (fun ρ cargs w h => by
    cases h with
    | cons h1 h =>
      cases h
      cases h1 with
      | float i1 => exact (sExp_any _ w i1.lt).mono fun e w' ⟨b, m, h1, h2, h3⟩ => ⟨_, h1, .float (by rw [← i1.expF]; exact h2), by rw [h3]; rfl⟩) H
theorem implExp_pc (x : Nat) (H : Heap) : PC Try.prog 83 [.float .f64 x] H (.float .f64 (expF x)) :=
  PC_of_calls Try.func83 rfl rfl (fun ρ cargs w h => by
    cases h with
    | cons h1 h =>
      cases h
      cases h1 with
      | float i1 => exact (iExp_any _ w i1.lt).mono fun e w' ⟨b, m, h1, h2, h3⟩ => ⟨_, h1, .float (by rw [← i1.expF]; exact h2), by rw [h3]; rfl⟩) H

/-- One element of an elementwise operation. -/
def one (op : Int) (x y z : Nat) : Nat :=
  if op = 2 then fop .add x y else if op = 3 then fop .sub x y else if op = 4 then fop .mul x y else if op = 5 then fop .quo x y
  else if op = 6 then fneg x else if op = 7 then (if gtF x y then x else y) else if op = 8 then (if gtF x 0 then y else z) else expF x
theorem l1one_pc (op : Int) (x y z : Nat) (H : Heap) : PC Try.prog 76 [.int .i64 op, .float .f64 x, .float .f64 y, .float .f64 z] H (.float .f64 (one op x y z)) := by
  refine EC_fn ctx (fun _ => true) Try.func76 rfl rfl rfl ?_
  refine ⟨fun h => pflt ?_, fun h2 => ⟨fun h => pflt ?_, fun h3 => ⟨fun h => pflt ?_, fun h4 => ⟨fun h => pflt ?_, fun h5 => ⟨fun h => pflt ?_, fun h6 => ⟨fun h => ⟨fun g => pflt ?_, fun g => pflt ?_⟩, fun h7 => ⟨fun h => ⟨fun g => pflt ?_, fun g => pflt ?_⟩, fun h8 => ⟨_, specExp_pc _ H, ?_, fun v K hR => by cases hR.1⟩⟩⟩⟩⟩⟩⟩⟩
  · simp at h; simp [one, h]
  · simp at h; simp [one, h]
  · simp at h; simp [one, h]
  · simp at h; simp [one, h]
  · simp at h; simp [one, h, fneg]
  · have e : op = 7 := by simpa using h
    have g : gtF x y = true := g
    subst e; simp [one, g]
  · have e : op = 7 := by simpa using h
    have g : gtF x y = false := g
    subst e; simp [one, g]
  · have e : op = 8 := by simpa using h
    have g : gtF x 0 = true := g
    subst e; simp [one, g]
  · have e : op = 8 := by simpa using h
    have g : gtF x 0 = false := g
    subst e; simp [one, g]
  · rintro _ K ⟨hx, rfl⟩
    cases hx
    refine pflt ?_
    simp at h2 h3 h4 h5 h6 h7 h8
    simp [one, h2, h3, h4, h5, h6, h7, h8]

def fsum : List Nat → Nat
  | [] => 0
  | x :: r => r.foldl (fop .add) x
theorem fsum_snoc {xs : List Nat} (h : xs ≠ []) (y : Nat) : fsum (xs ++ [y]) = fop .add (fsum xs) y := by
  cases xs with
  | nil => exact absurd rfl h
  | cons x r => simp [fsum]
theorem l1sum_pc : ∀ (n : Nat) (a : Option Addr) (xs : List Nat) (H : Heap), xs.length = n + 1 → xs.length ≤ 1048576 → Rd dFlt H a xs → PC Try.prog 77 [sv a xs] H (.float .f64 (fsum xs)) := by
  intro n
  induction n with
  | zero =>
    intro a xs H hn hl h
    obtain ⟨b, o, rfl, hc⟩ := h.cell (List.getElem?_eq_getElem (show 0 < xs.length by omega))
    refine EC_fn ctx (fun _ => true) Try.func77 rfl rfl rfl ?_
    refine ⟨fun _ => ⟨⟨by omega, by omega⟩, _, hc, pflt ?_⟩, fun h => ?_⟩
    · match xs, hn with
      | [x], _ => rfl
    · simp at h; omega
  | succ n ih =>
    intro a xs H hn hl h
    obtain ⟨b, o, rfl, hc⟩ := h.cell (List.getElem?_eq_getElem (show n + 1 < xs.length by omega))
    refine EC_fn ctx (fun _ => true) Try.func77 rfl rfl rfl ?_
    refine ⟨fun h => ?_, fun _ => ?_⟩
    · simp at h; omega
    have hw : IntKind.i64.wrap ((xs.length : Int) - 1) = ((n + 1 : Nat) : Int) := by rw [hn, wrap_i64 (by omega) (by omega)]; omega
    have hz : (0 : Int).toNat = 0 := rfl
    have hlt : ((xs.drop 0).take (n + 1)).length = n + 1 := by simp; omega
    have hsl : Value.slice (some ⟨b, o + (0 : Int).toNat * 1, none⟩) ((IntKind.i64.wrap ((xs.length : Int) - 1)).toNat - (0 : Int).toNat) ((IntKind.i64.wrap ((xs.length : Int) - 1)).toNat - (0 : Int).toNat) = sv (some ⟨b, o + 0 * dFlt.sz, none⟩) ((xs.drop 0).take (n + 1)) := by
      rw [hw]
      show _ = Value.slice _ ((xs.drop 0).take (n + 1)).length ((xs.drop 0).take (n + 1)).length
      rw [hlt]; rfl
    have hrec := ih (some ⟨b, o + 0 * dFlt.sz, none⟩) ((xs.drop 0).take (n + 1)) H hlt (by omega) (h.sub (by omega))
    rw [← hsl] at hrec
    refine ⟨.leaf [([0, 1, 2, 3, 4, 5, 6, 7, 8, 9, 10, 11], none)] [], by kernel_rfl, ⟨by omega, by rw [hw]; omega, by rw [hw]; omega, h.ez (by omega)⟩, _, hrec, ⟨by rw [hw]; omega, by rw [hw]; omega⟩, .float .f64 xs[n + 1], ?_, pflt ?_⟩
    · show H.cell? b (o + (IntKind.i64.wrap ((xs.length : Int) - 1)).toNat * 1) = _
      rw [hw]; exact hc
    · rw [← fsum_snoc (by intro e; rw [e] at hlt; simp at hlt)]
      congr 1
      rw [List.drop_zero, ← List.take_succ_eq_append_getElem (by omega), List.take_of_length_le (by omega)]

/-! the program's helpers -/
theorem filled_ec (H : Heap) (n : Nat) (x : Nat) (hn : n ≤ 1048576) :
    EC Try.prog 69 [.int .i64 n, .float .f64 x] H fun r H' => r = .ret (sv (some ⟨H.next, 0, none⟩) (List.replicate n x)) ∧ H' = H.push (.cells (flat dFlt (List.replicate n x)) dFlt.sz true) := by
  refine EC_fn ctx (fun _ => true) Try.func69 rfl rfl rfl ?_
  have hlr : (List.replicate n x).length = n := by simp
  refine ⟨⟨by omega, by omega, by omega, by dsimp only; omega⟩, ?_⟩
  refine loop_ind ctx (fun _ => true) (fun m E K => ∃ k, k ≤ n ∧ m = n - k ∧ E = ⟨[(1, .float .f64 x), (5, .slice (some ⟨H.next, 0, none⟩) n n), (10, .int .i64 n), (11, .int .i64 k)], []⟩ ∧ K = H.push (.cells (flat dFlt ((List.replicate n x).take k ++ List.replicate ((List.replicate n x).length - k) 0)) dFlt.sz true))
    ⟨0, Nat.zero_le _, rfl, rfl, ?_⟩ (by (refine ⟨?_, ?_⟩ <;> repeat' first | exact trivial | exact congrArg (fun x => some (Value.int .i64 x)) (wrap_nat (by omega)) | exact sv_eq (by simp; done) | exact rfl | refine ⟨?_, ?_⟩ | fail)) ?_
  · congr 2; rw [hlr]; exact flat_rep dFlt 0 [.float .f64 0] rfl n
  · rintro m E K ⟨k, hk, rfl, rfl, rfl⟩
    refine ⟨fun hlt => ?_, fun hge => ?_⟩
    · have hlt : k < n := by simpa using hlt
      have hlt2 : k < (List.replicate n x).length := by omega
      have hlt' : k < ((List.replicate n x).take k ++ List.replicate ((List.replicate n x).length - k) 0).length := by simp; omega
      refine ⟨⟨by omega, by omega⟩, stOK_elem dFlt H _ hlt' (Nat.zero_add _) rfl, ?_⟩
      refine ⟨n - (k + 1), ⟨[(1, .float .f64 x), (5, .slice (some ⟨H.next, 0, none⟩) n n), (10, .int .i64 n), (11, .int .i64 ((k + 1 : Nat) : Int))], []⟩, by omega, by (refine ⟨?_, ?_⟩ <;> repeat' first | exact trivial | exact congrArg (fun x => some (Value.int .i64 x)) (wrap_nat (by omega)) | exact sv_eq (by simp; done) | exact rfl | refine ⟨?_, ?_⟩ | fail), k + 1, by omega, rfl, rfl, ?_⟩
      refine (stor_elem dFlt H _ x hlt' (Nat.zero_add _) rfl).trans ?_
      have := take_set (List.replicate n x) 0 hlt2
      rw [List.getElem_replicate] at this
      rw [this]
    · have hge : k = n := by simp at hge; omega
      subst hge
      exact ⟨ret_sv hlr, by rw [List.take_of_length_le (Nat.le_of_eq hlr), hlr, Nat.sub_self]; simp⟩
theorem mapped_ec (H : Heap) (a : Option Addr) (xs : List Nat) (f : FuncId) (g : Nat → Nat) (hf : ∀ x K, PC Try.prog f [.float .f64 x] K (.float .f64 (g x))) (h : Rd dFlt H a xs) (hl : xs.length ≤ 1048576) :
    EC Try.prog 81 [sv a xs, .func (.func f) #[] #[]] H fun r H' => r = .ret (sv (some ⟨H.next, 0, none⟩) (xs.map g)) ∧ H' = H.push (.cells (flat dFlt (xs.map g)) dFlt.sz true) := by
  refine EC_fn ctx (fun _ => true) Try.func81 rfl rfl rfl ?_
  have hlr : (xs.map g).length = xs.length := by simp
  refine ⟨⟨by omega, by omega, by omega, by dsimp only; omega⟩, ?_⟩
  refine loop_ind ctx (fun _ => true) (fun m E K => ∃ k, k ≤ xs.length ∧ m = xs.length - k ∧ E = ⟨[(0, sv a xs), (1, .func (.func f) #[] #[]), (5, .slice (some ⟨H.next, 0, none⟩) xs.length xs.length), (11, .int .i64 xs.length), (12, .int .i64 k)], []⟩ ∧ K = H.push (.cells (flat dFlt ((xs.map g).take k ++ List.replicate ((xs.map g).length - k) 0)) dFlt.sz true))
    ⟨0, Nat.zero_le _, rfl, rfl, ?_⟩ (by (refine ⟨?_, ?_⟩ <;> repeat' first | exact trivial | exact congrArg (fun x => some (Value.int .i64 x)) (wrap_nat (by omega)) | exact sv_eq (by simp; done) | exact rfl | refine ⟨?_, ?_⟩ | fail)) ?_
  · congr 2; rw [hlr]; exact flat_rep dFlt 0 [.float .f64 0] rfl xs.length
  · rintro m E K ⟨k, hk, rfl, rfl, hK⟩
    have h : Rd dFlt K a xs := by subst hK; exact h.mono (Ext.push _ _)
    refine ⟨fun hlt => ?_, fun hge => ?_⟩
    · have hlt : k < xs.length := by simpa using hlt
      have hlt2 : k < (xs.map g).length := by omega
      have hlt' : k < ((xs.map g).take k ++ List.replicate ((xs.map g).length - k) 0).length := by simp; omega
      obtain ⟨b, off, rfl, hc⟩ := h.cell (List.getElem?_eq_getElem hlt)
      subst hK
      refine ⟨⟨by omega, by omega⟩, _, hc, _, hf _ _, ?_, fun v K hR => by cases hR.1⟩
      rintro _ K ⟨hx, rfl⟩
      cases hx
      refine ⟨⟨by omega, by omega⟩, stOK_elem dFlt H _ hlt' (Nat.zero_add _) rfl, ?_⟩
      refine ⟨xs.length - (k + 1), ⟨[(0, sv (some ⟨b, off, none⟩) xs), (1, .func (.func f) #[] #[]), (5, .slice (some ⟨H.next, 0, none⟩) xs.length xs.length), (11, .int .i64 xs.length), (12, .int .i64 ((k + 1 : Nat) : Int))], []⟩, by omega, by (refine ⟨?_, ?_⟩ <;> repeat' first | exact trivial | exact congrArg (fun x => some (Value.int .i64 x)) (wrap_nat (by omega)) | exact sv_eq (by simp; done) | exact rfl | refine ⟨?_, ?_⟩ | fail), k + 1, by omega, rfl, rfl, ?_⟩
      refine (stor_elem dFlt H _ (g xs[k]) hlt' (Nat.zero_add _) rfl).trans ?_
      have := take_set (xs.map g) 0 hlt2
      rw [List.getElem_map] at this
      rw [this]
    · have hge : k = xs.length := by simp at hge; omega
      subst hge
      exact ⟨ret_sv hlr, by rw [hK, List.take_of_length_le (Nat.le_of_eq hlr), hlr, Nat.sub_self]; simp⟩
end Go.Proofs.Ytjmobjiaoklfdaa
