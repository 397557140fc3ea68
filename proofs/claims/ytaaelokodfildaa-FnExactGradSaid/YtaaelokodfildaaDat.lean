/- The data of the program, and the laws' helpers over whole numbers, values and graphs. Conditions: lists of at most 2^20 elements where one is made. -/
import Derived.Test.YtaaelokodfildaaTabs
import Derived.Test.YtaaelokodfildaaAmLib
set_option linter.unusedVariables false
set_option linter.unusedSimpArgs false
namespace Go.Proofs.Ytaaelokodfildaa
open Go.Am

structure Val where
  op : Int
  len : Int
  a : Int
  b : Int
  c : Int
  k : Nat
  deriving DecidableEq, Inhabited
structure Graph where
  ins : List Int
  vals : List Val
  outs : List Int
  deriving DecidableEq, Inhabited

abbrev vcells (v : Val) : List Value := [.int .i64 v.op, .int .i64 v.len, .int .i64 v.a, .int .i64 v.b, .int .i64 v.c, .float .f64 v.k]
abbrev valV (v : Val) : Value := .agg #[.int .i64 v.op, .int .i64 v.len, .int .i64 v.a, .int .i64 v.b, .int .i64 v.c, .float .f64 v.k]
def dVal : Enc Val := ⟨6, by decide, vcells, fun _ => rfl⟩
/-- A graph's value: its three slices. -/
abbrev gV (p q r : Option Addr) (g : Graph) : Value := .agg #[sv p g.ins, sv q g.vals, sv r g.outs]
structure RdG (H : Heap) (p q r : Option Addr) (g : Graph) : Prop where
  ins : Rd dInt H p g.ins
  vals : Rd dVal H q g.vals
  outs : Rd dInt H r g.outs
theorem RdG.mono {H H' : Heap} {p q r : Option Addr} {g : Graph} (h : RdG H p q r g) (e : Ext H H') : RdG H' p q r g := ⟨h.ins.mono e, h.vals.mono e, h.outs.mono e⟩
/-- A value of a slice of values is read. -/
theorem _root_.Go.Am.Rd.val {H : Heap} {a : Option Addr} {xs : List Val} (h : Rd dVal H a xs) {i : Nat} {x : Val} (hx : xs[i]? = some x) : ∃ b off, a = some ⟨b, off, none⟩ ∧ H.aggAt b (off + i * 6) 6 (valV x) := h.run hx
theorem _root_.Go.Am.Rd.valF {H : Heap} {a : Option Addr} {xs : List Val} (h : Rd dVal H a xs) {i : Nat} {x : Val} (hx : xs[i]? = some x) : ∃ b off, a = some ⟨b, off, none⟩ ∧ H.cell? b (off + i * 6) = some (.int .i64 x.op) ∧ H.cell? b (off + i * 6 + 1) = some (.int .i64 x.len) ∧ H.cell? b (off + i * 6 + 2) = some (.int .i64 x.a) ∧
    H.cell? b (off + i * 6 + 3) = some (.int .i64 x.b) ∧ H.cell? b (off + i * 6 + 4) = some (.int .i64 x.c) ∧ H.cell? b (off + i * 6 + 5) = some (.float .f64 x.k) := by
  obtain ⟨b, off, h1, h2⟩ := h.run hx
  refine ⟨b, off, h1, ?_⟩
  have key : ∀ j u, (vcells x)[j]? = some u → H.cell? b (off + i * 6 + j) = some u := fun j u hj => by
    unfold Heap.run? at h2
    unfold Heap.cell?
    split at h2
    · split at h2
      · have h2 := Option.some.inj h2
        have h2' : (dVal.enc x)[j]? = some u := hj
        rw [← h2, List.getElem?_take] at h2'
        split at h2'
        · rw [List.getElem?_drop] at h2'; exact h2'
        · cases h2'
      · cases h2
    · cases h2
  exact ⟨key 0 _ rfl, key 1 _ rfl, key 2 _ rfl, key 3 _ rfl, key 4 _ rfl, key 5 _ rfl⟩

theorem pret {v v' : Value} {H : Heap} (h : v = v') : AEnd.ret v = .ret v' ∧ H = H := ⟨congrArg _ h, rfl⟩
theorem pbool {b b' : Bool} {H : Heap} (h : b = b') : AEnd.ret (.bool b) = .ret (.bool b') ∧ H = H := pret (congrArg _ h)
theorem pint {k : IntKind} {x y : Int} {H : Heap} (h : x = y) : AEnd.ret (.int k x) = .ret (.int k y) ∧ H = H := pret (congrArg _ h)

theorem sameFloat_pc (x y : Nat) (H : Heap) : PC Try.prog 69 [.float .f64 x, .float .f64 y] H (.bool (x == y)) :=
  PC_of_calls Try.func69 rfl rfl (fun ρ cargs w h => by
    cases h with
    | cons h1 h => cases h with
      | cons h2 h =>
        cases h
        cases h1 with
        | float i1 => cases h2 with
          | float i2 => exact (sameFloat_any _ _ w i1.lt i2.lt).mono fun e w' ⟨h1, h2⟩ => ⟨_, h1, by unfold feq; rw [i1.eq, i2.eq]; exact .bool _, by rw [h2]; rfl⟩) H

/-! int -/
theorem szIntS_pc (a : Option Addr) (xs : List Int) (left : Int) (H : Heap) (h0 : 0 ≤ left) (h1 : left ≤ 9223372036854775807) (hl : xs.length ≤ 9223372036854775807) :
    PC Try.prog 11 [sv a xs, .int .i64 left] H (.int .i64 (if left - xs.length < 0 then -1 else left - xs.length)) := by
  have hw : IntKind.i64.wrap (left - xs.length) = left - xs.length := wrap_i64 (by omega) (by omega)
  refine EC_fn ctx (fun _ => true) Try.func11 rfl rfl rfl ?_
  refine ⟨fun h => pint ?_, fun h => pint ?_⟩
  · rw [hw] at h; rw [if_pos (by simpa using h)]
  · rw [hw] at h ⊢; rw [if_neg (by simpa using h)]
theorem szValS_pc (a : Option Addr) (xs : List Val) (left : Int) (H : Heap) (h0 : 0 ≤ left) (h1 : left ≤ 9223372036854775807) (hl : xs.length ≤ 9223372036854775807) :
    PC Try.prog 12 [sv a xs, .int .i64 left] H (.int .i64 (if left - xs.length < 0 then -1 else left - xs.length)) := by
  have hw : IntKind.i64.wrap (left - xs.length) = left - xs.length := wrap_i64 (by omega) (by omega)
  refine EC_fn ctx (fun _ => true) Try.func12 rfl rfl rfl ?_
  refine ⟨fun h => pint ?_, fun h => pint ?_⟩
  · rw [hw] at h; rw [if_pos (by simpa using h)]
  · rw [hw] at h ⊢; rw [if_neg (by simpa using h)]

theorem toIntS_ec (H : Heap) (a : Option Addr) (xs : List Int) (h : Rd dInt H a xs) (hl : xs.length ≤ 1048576) :
    EC Try.prog 16 [sv a xs] H fun r H' => r = .ret (sv (some ⟨H.next, 0, none⟩) xs) ∧ H' = H.push (.cells (flat dInt xs) dInt.sz true) := by
  refine EC_fn ctx (fun _ => true) Try.func16 rfl rfl rfl ?_
  refine ⟨⟨by omega, by omega, by omega, by dsimp only; omega⟩, ?_⟩
  refine loop_ind ctx (fun _ => true) (fun m E K => ∃ k, k ≤ xs.length ∧ m = xs.length - k ∧ E = ⟨[(0, sv a xs), (3, sv (some ⟨H.next, 0, none⟩) xs), (4, .int .i64 k)], []⟩ ∧ K = H.push (.cells (flat dInt (xs.take k ++ List.replicate (xs.length - k) 0)) dInt.sz true))
    ⟨0, Nat.zero_le _, rfl, rfl, ?_⟩ ⟨⟨rfl, trivial, rfl, trivial, rfl, trivial, trivial⟩, trivial⟩ ?_
  · congr 2; exact flat_rep dInt 0 [.int .i64 0] rfl xs.length
  · rintro m E K ⟨k, hk, rfl, rfl, hK⟩
    have h : Rd dInt K a xs := by subst hK; exact h.mono (Ext.push _ _)
    refine ⟨fun hlt => ?_, fun hge => ?_⟩
    · have hlt : k < xs.length := by simpa using hlt
      have hlt' : k < (xs.take k ++ List.replicate (xs.length - k) 0).length := by simp; omega
      obtain ⟨b, off, rfl, hc⟩ := h.cell (List.getElem?_eq_getElem hlt)
      subst hK
      refine ⟨⟨by omega, by omega⟩, _, hc, ⟨by omega, by omega⟩, stOK_elem dInt H _ hlt' (Nat.zero_add _) rfl, ?_⟩
      refine ⟨xs.length - (k + 1), ⟨[(0, sv (some ⟨b, off, none⟩) xs), (3, sv (some ⟨H.next, 0, none⟩) xs), (4, .int .i64 ((k + 1 : Nat) : Int))], []⟩, by omega, ⟨⟨rfl, trivial, rfl, trivial, congrArg (fun x => some (Value.int .i64 x)) (wrap_nat (by omega)), trivial, trivial⟩, trivial⟩, k + 1, by omega, rfl, rfl, ?_⟩
      refine (stor_elem dInt H _ xs[k] hlt' (Nat.zero_add _) rfl).trans ?_
      rw [take_set xs 0 hlt]
    · have hge : k = xs.length := by simp at hge; omega
      subst hge
      exact ⟨rfl, by simp [hK]⟩

theorem eqIntS_pc (H : Heap) (a b : Option Addr) (xs ys : List Int) (h : Rd dInt H a xs) (h' : Rd dInt H b ys) (hl : xs.length < 9223372036854775807) :
    PC Try.prog 24 [sv a xs, sv b ys] H (.bool (decide (xs = ys))) := by
  refine EC_fn ctx (fun _ => true) Try.func24 rfl rfl rfl ?_
  refine ⟨fun hne => pbool ?_, fun heq => ?_⟩
  · have : xs ≠ ys := fun e => by subst e; simp at hne
    simp [this]
  · have hlen : xs.length = ys.length := by simp at heq; omega
    refine loop_ind ctx (fun _ => true) (fun m E K => ∃ k, k ≤ xs.length ∧ m = xs.length - k ∧ E = ⟨[(0, sv a xs), (1, sv b ys), (5, .int .i64 k)], []⟩ ∧ K = H ∧ xs.take k = ys.take k)
      ⟨0, Nat.zero_le _, rfl, rfl, rfl, by simp⟩ ⟨⟨rfl, trivial, rfl, trivial, rfl, trivial, trivial⟩, trivial⟩ ?_
    rintro m E K ⟨k, hk, rfl, rfl, rfl, ht⟩
    refine ⟨fun hlt => ?_, fun hge => ?_⟩
    · have hlt : k < xs.length := by simpa using hlt
      obtain ⟨p, o, rfl, hc⟩ := h.cell (List.getElem?_eq_getElem hlt)
      obtain ⟨p', o', rfl, hc'⟩ := h'.cell (List.getElem?_eq_getElem (show k < ys.length by omega))
      refine ⟨.leaf [([0, 1, 2, 3, 4, 5, 6, 7, 8], none)] [], by kernel_rfl, ⟨by omega, by omega⟩, _, hc, ⟨by omega, by omega⟩, _, hc', fun hne => pbool ?_, fun heq => ?_⟩
      · have : xs ≠ ys := fun e => by subst e; simp at hne
        simp [this]
      · refine ⟨xs.length - (k + 1), ⟨[(0, sv (some ⟨p, o, none⟩) xs), (1, sv (some ⟨p', o', none⟩) ys), (5, .int .i64 ((k + 1 : Nat) : Int))], []⟩, by omega, ⟨⟨rfl, trivial, rfl, trivial, congrArg (fun x => some (Value.int .i64 x)) (wrap_nat (by omega)), trivial, trivial⟩, trivial⟩, k + 1, by omega, rfl, rfl, rfl, ?_⟩
        rw [List.take_succ_eq_append_getElem hlt, List.take_succ_eq_append_getElem (show k < ys.length by omega), ht]
        simp at heq
        rw [heq]
    · refine pbool ?_
      have hk : k = xs.length := by simp at hge; omega
      subst hk
      rw [List.take_of_length_le (Nat.le_refl _), List.take_of_length_le (by omega)] at ht
      simp [ht]

/-! values -/
theorem toVal_pc (v : Val) (H : Heap) : PC Try.prog 42 [valV v] H (valV v) := by
  refine EC_fn ctx (fun _ => true) Try.func42 rfl rfl rfl ?_
  exact ⟨rfl, rfl⟩
theorem eqVal_pc (v w : Val) (H : Heap) : PC Try.prog 52 [valV v, valV w] H (.bool (decide (v = w))) := by
  refine EC_fn ctx (fun _ => true) Try.func52 rfl rfl rfl ?_
  obtain ⟨a1, a2, a3, a4, a5, a6⟩ := v
  obtain ⟨b1, b2, b3, b4, b5, b6⟩ := w
  refine ⟨fun h => pbool ?_, fun h1 => ⟨fun h => pbool ?_, fun h2 => ⟨fun h => pbool ?_, fun h3 => ⟨fun h => pbool ?_, fun h4 => ⟨fun h => pbool ?_, fun h5 => ⟨_, sameFloat_pc a6 b6 H, ?_, fun v K hR => by cases hR.1⟩⟩⟩⟩⟩⟩
  · simp at h; simp [h]
  · simp at h; simp [h]
  · simp at h; simp [h]
  · simp at h; simp [h]
  · simp at h; simp [h]
  · rintro v K ⟨hv, rfl⟩
    cases hv
    simp at h1 h2 h3 h4 h5
    refine ⟨fun h => pbool ?_, fun h => pbool ?_⟩
    · simp at h; simp [h]
    · simp at h; simp [h1, h2, h3, h4, h5, h]
theorem toValS_ec (H : Heap) (a : Option Addr) (xs : List Val) (h : Rd dVal H a xs) (hl : xs.length ≤ 1048576) :
    EC Try.prog 17 [sv a xs] H fun r H' => r = .ret (sv (some ⟨H.next, 0, none⟩) xs) ∧ H' = H.push (.cells (flat dVal xs) dVal.sz true) := by
  refine EC_fn ctx (fun _ => true) Try.func17 rfl rfl rfl ?_
  refine ⟨⟨by omega, by omega, by omega, by dsimp only; omega⟩, ?_⟩
  refine loop_ind ctx (fun _ => true) (fun m E K => ∃ k, k ≤ xs.length ∧ m = xs.length - k ∧ E = ⟨[(0, sv a xs), (3, sv (some ⟨H.next, 0, none⟩) xs), (4, .int .i64 k)], []⟩ ∧ K = H.push (.cells (flat dVal (xs.take k ++ List.replicate (xs.length - k) ⟨0, 0, 0, 0, 0, 0⟩)) dVal.sz true))
    ⟨0, Nat.zero_le _, rfl, rfl, ?_⟩ ⟨⟨rfl, trivial, rfl, trivial, rfl, trivial, trivial⟩, trivial⟩ ?_
  · congr 2; exact flat_rep dVal ⟨0, 0, 0, 0, 0, 0⟩ _ rfl xs.length
  · rintro m E K ⟨k, hk, rfl, rfl, hK⟩
    have h : Rd dVal K a xs := by subst hK; exact h.mono (Ext.push _ _)
    refine ⟨fun hlt => ?_, fun hge => ?_⟩
    · have hlt : k < xs.length := by simpa using hlt
      have hlt' : k < (xs.take k ++ List.replicate (xs.length - k) (⟨0, 0, 0, 0, 0, 0⟩ : Val)).length := by simp; omega
      obtain ⟨b, off, rfl, hc⟩ := h.val (List.getElem?_eq_getElem hlt)
      subst hK
      refine ⟨⟨by omega, by omega⟩, valV xs[k], hc, _, toVal_pc xs[k] _, ?_, fun v K hR => by cases hR.1⟩
      rintro v K ⟨hv, rfl⟩
      cases hv
      refine ⟨⟨by omega, by omega⟩, stOK_elem dVal H _ hlt' (Nat.zero_add _) rfl, ?_⟩
      refine ⟨xs.length - (k + 1), ⟨[(0, sv (some ⟨b, off, none⟩) xs), (3, sv (some ⟨H.next, 0, none⟩) xs), (4, .int .i64 ((k + 1 : Nat) : Int))], []⟩, by omega, ⟨⟨rfl, trivial, rfl, trivial, congrArg (fun x => some (Value.int .i64 x)) (wrap_nat (by omega)), trivial, trivial⟩, trivial⟩, k + 1, by omega, rfl, rfl, ?_⟩
      refine (stor_elem dVal H _ xs[k] hlt' (Nat.zero_add _) rfl).trans ?_
      rw [take_set xs ⟨0, 0, 0, 0, 0, 0⟩ hlt]
    · have hge : k = xs.length := by simp at hge; omega
      subst hge
      exact ⟨rfl, by simp [hK]⟩
theorem eqValS_pc (H : Heap) (a b : Option Addr) (xs ys : List Val) (h : Rd dVal H a xs) (h' : Rd dVal H b ys) (hl : xs.length < 9223372036854775807) :
    PC Try.prog 25 [sv a xs, sv b ys] H (.bool (decide (xs = ys))) := by
  refine EC_fn ctx (fun _ => true) Try.func25 rfl rfl rfl ?_
  refine ⟨fun hne => pbool ?_, fun heq => ?_⟩
  · have : xs ≠ ys := fun e => by subst e; simp at hne
    simp [this]
  · have hlen : xs.length = ys.length := by simp at heq; omega
    refine loop_ind ctx (fun _ => true) (fun m E K => ∃ k, k ≤ xs.length ∧ m = xs.length - k ∧ E = ⟨[(0, sv a xs), (1, sv b ys), (5, .int .i64 k)], []⟩ ∧ K = H ∧ xs.take k = ys.take k)
      ⟨0, Nat.zero_le _, rfl, rfl, rfl, by simp⟩ ⟨⟨rfl, trivial, rfl, trivial, rfl, trivial, trivial⟩, trivial⟩ ?_
    rintro m E K ⟨k, hk, rfl, rfl, rfl, ht⟩
    refine ⟨fun hlt => ?_, fun hge => ?_⟩
    · have hlt : k < xs.length := by simpa using hlt
      obtain ⟨p, o, rfl, hc⟩ := h.val (List.getElem?_eq_getElem hlt)
      obtain ⟨p', o', rfl, hc'⟩ := h'.val (List.getElem?_eq_getElem (show k < ys.length by omega))
      refine ⟨.leaf [([0, 1, 2, 3, 4, 5, 6, 7, 8, 9], none)] [], by kernel_rfl, ⟨by omega, by omega⟩, valV xs[k], hc, ⟨by omega, by omega⟩, valV ys[k], hc', _, eqVal_pc xs[k] ys[k] K, fun hne => pbool ?_, fun heq => ?_⟩
      · have : xs ≠ ys := fun e => by subst e; simp at hne
        simp [this]
      · refine ⟨xs.length - (k + 1), ⟨[(0, sv (some ⟨p, o, none⟩) xs), (1, sv (some ⟨p', o', none⟩) ys), (5, .int .i64 ((k + 1 : Nat) : Int))], []⟩, by omega, ⟨⟨rfl, trivial, rfl, trivial, congrArg (fun x => some (Value.int .i64 x)) (wrap_nat (by omega)), trivial, trivial⟩, trivial⟩, k + 1, by omega, rfl, rfl, rfl, ?_⟩
        rw [List.take_succ_eq_append_getElem hlt, List.take_succ_eq_append_getElem (show k < ys.length by omega), ht]
        simp at heq
        rw [heq]
    · refine pbool ?_
      have hk : k = xs.length := by simp at hge; omega
      subst hk
      rw [List.take_of_length_le (Nat.le_refl _), List.take_of_length_le (by omega)] at ht
      simp [ht]

/-! graphs -/
def pushL {α : Type} (d : Enc α) (H : Heap) (xs : List α) : Heap := H.push (.cells (flat d xs) d.sz true)
theorem toGraph_ec (H : Heap) (p q r : Option Addr) (g : Graph) (h : RdG H p q r g) (h1 : g.ins.length ≤ 1048576) (h2 : g.vals.length ≤ 1048576) (h3 : g.outs.length ≤ 1048576) :
    EC Try.prog 6 [gV p q r g] H fun e H' => e = .ret (gV (some ⟨H.next, 0, none⟩) (some ⟨H.next + 1, 0, none⟩) (some ⟨H.next + 2, 0, none⟩) g) ∧ H' = pushL dInt (pushL dVal (pushL dInt H g.ins) g.vals) g.outs := by
  refine EC_fn ctx (fun _ => true) Try.func6 rfl rfl rfl ?_
  refine ⟨_, toIntS_ec H p g.ins h.ins h1, ?_, fun v K hR => by cases hR.1⟩
  rintro v K ⟨hv, rfl⟩
  cases hv
  refine ⟨_, toValS_ec _ q g.vals (h.vals.mono (Ext.push _ _)) h2, ?_, fun v K hR => by cases hR.1⟩
  rintro v K ⟨hv, rfl⟩
  cases hv
  refine ⟨_, toIntS_ec _ r g.outs ((h.outs.mono (Ext.push _ _)).mono (Ext.push _ _)) h3, ?_, fun v K hR => by cases hR.1⟩
  rintro v K ⟨hv, rfl⟩
  cases hv
  exact ⟨rfl, rfl⟩
theorem eqGraph_pc (H : Heap) (p q r p' q' r' : Option Addr) (g g' : Graph) (h : RdG H p q r g) (h' : RdG H p' q' r' g') (h1 : g.ins.length < 9223372036854775807) (h2 : g.vals.length < 9223372036854775807) (h3 : g.outs.length < 9223372036854775807) :
    PC Try.prog 8 [gV p q r g, gV p' q' r' g'] H (.bool (decide (g = g'))) := by
  refine EC_fn ctx (fun _ => true) Try.func8 rfl rfl rfl ?_
  obtain ⟨i, v, o⟩ := g
  obtain ⟨i', v', o'⟩ := g'
  refine ⟨_, eqIntS_pc H p p' i i' h.ins h'.ins h1, ?_, fun v K hR => by cases hR.1⟩
  rintro _ K ⟨hv, rfl⟩
  cases hv
  refine ⟨fun e => pbool ?_, fun e1 => ⟨_, eqValS_pc K q q' v v' h.vals h'.vals h2, ?_, fun v K hR => by cases hR.1⟩⟩
  · simp at e; simp [e]
  rintro _ K ⟨hv, rfl⟩
  cases hv
  refine ⟨fun e => pbool ?_, fun e2 => ⟨_, eqIntS_pc K r r' o o' h.outs h'.outs h3, ?_, fun v K hR => by cases hR.1⟩⟩
  · simp at e; simp [e]
  rintro _ K ⟨hv, rfl⟩
  cases hv
  simp at e1 e2
  refine ⟨fun e => pbool ?_, fun e => pbool ?_⟩
  · simp at e; simp [e]
  · simp at e; simp [e1, e2, e]
def szG (g : Graph) (left : Int) : Int :=
  let l1 := left - g.ins.length
  let l2 := l1 - g.vals.length
  let l3 := l2 - g.outs.length
  if l1 < 0 ∨ l2 < 0 ∨ l3 < 0 then -1 else l3
theorem szGraph_pc (H : Heap) (p q r : Option Addr) (g : Graph) (left : Int) (h0 : 0 ≤ left) (hh : left ≤ 9223372036854775807) (h1 : g.ins.length ≤ 9223372036854775807) (h2 : g.vals.length ≤ 9223372036854775807) (h3 : g.outs.length ≤ 9223372036854775807) :
    PC Try.prog 4 [gV p q r g, .int .i64 left] H (.int .i64 (szG g left)) := by
  refine EC_fn ctx (fun _ => true) Try.func4 rfl rfl rfl ?_
  refine ⟨_, szIntS_pc p g.ins left H h0 hh h1, ?_, fun v K hR => by cases hR.1⟩
  rintro _ K ⟨hv, rfl⟩
  cases hv
  refine ⟨fun e => pint ?_, fun e => ⟨_, szValS_pc q g.vals _ K ?_ ?_ h2, ?_, fun v K hR => by cases hR.1⟩⟩
  · simp at e; simp only [szG]; split at e <;> split <;> omega
  · simp at e; split at e <;> omega
  · simp at e; split at e <;> omega
  rintro _ K ⟨hv, rfl⟩
  cases hv
  refine ⟨fun e => pint ?_, fun e => ⟨_, szIntS_pc r g.outs _ K ?_ ?_ h3, ?_, fun v K hR => by cases hR.1⟩⟩
  · simp at e; simp only [szG]; split at e <;> split <;> omega
  · simp at e; split at e <;> omega
  · simp at e; split at e <;> omega
  rintro _ K ⟨hv, rfl⟩
  cases hv
  refine ⟨fun e => pint ?_, fun e => pint ?_⟩
  · simp at e; simp only [szG]; split at e <;> split <;> omega
  · simp at e; simp only [szG]; split at e <;> split <;> omega
end Go.Proofs.Ytaaelokodfildaa
