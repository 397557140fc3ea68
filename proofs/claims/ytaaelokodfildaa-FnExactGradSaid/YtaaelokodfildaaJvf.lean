/- Jvp: the reference's, walked. Conditions: the argument's slices read. -/
import Derived.Test.YtaaelokodfildaaJve
set_option linter.unusedVariables false
set_option linter.unusedSimpArgs false
namespace Go.Proofs.Ytaaelokodfildaa
open Go.Am

theorem cells_bnd {vs : List Val} (h : ∀ v ∈ vs, 0 ≤ v.len ∧ v.len ≤ 1000) : ∀ k, k ≤ vs.length → 0 ≤ cellsOf (vs.take k) ∧ cellsOf (vs.take k) ≤ 1000 * k
  | 0, _ => by simp [cellsOf]
  | k + 1, hk => by
    have IH := cells_bnd h k (by omega)
    have := h vs[k] (List.getElem_mem _)
    rw [cells_succ (show k < vs.length from hk)]; omega
theorem l1cells2_pc (H : Heap) (p q r : Option Addr) (g : Graph) (hq : Rd dVal H q g.vals) (hl : g.vals.length ≤ 1048576) (hv : ∀ v ∈ g.vals, 0 ≤ v.len ∧ v.len ≤ 1000) :
    PC Try.prog 32 [gV p q r g] H (.int .i64 (cellsOf g.vals)) := by
  refine EC_fn ctx (fun _ => true) Try.func32 rfl rfl rfl ?_
  refine loop_ind ctx (fun _ => true) (fun m E K => ∃ k, k ≤ g.vals.length ∧ m = g.vals.length - k ∧ E = ⟨[(1, .pointer (some ⟨0, 0, some 0⟩)), (3, .int .i64 (cellsOf (g.vals.take k))), (4, .int .i64 k)], [[sv p g.ins, sv q g.vals, sv r g.outs]]⟩ ∧ K = H)
    ⟨0, Nat.zero_le _, rfl, rfl, rfl⟩ (by (refine ⟨?_, ?_⟩ <;> repeat' first | exact trivial | exact congrArg (fun x => some (Value.int .i64 x)) (wrap_nat (by omega)) | exact sv_eq (by simp; done) | exact rfl | refine ⟨?_, ?_⟩ | fail)) ?_
  rintro m E K ⟨k, hk, rfl, rfl, rfl⟩
  refine ⟨fun hlt => ?_, fun hge => ?_⟩
  · have hlt : k < g.vals.length := by simpa using hlt
    obtain ⟨b, o, rfl, _, hc, _⟩ := hq.valF (List.getElem?_eq_getElem hlt)
    refine ⟨⟨by omega, by omega⟩, _, hc, ?_⟩
    have hb := cells_bnd hv (k + 1) (by omega)
    have hw : IntKind.i64.wrap (cellsOf (g.vals.take k) + g.vals[k].len) = cellsOf (g.vals.take (k + 1)) := by
      rw [cells_succ hlt] at hb ⊢
      exact wrap_i64 (by omega) (by omega)
    refine ⟨g.vals.length - (k + 1), ⟨[(1, .pointer (some ⟨0, 0, some 0⟩)), (3, .int .i64 (cellsOf (g.vals.take (k + 1)))), (4, .int .i64 ((k + 1 : Nat) : Int))], [[sv p g.ins, sv (some ⟨b, o, none⟩) g.vals, sv r g.outs]]⟩, by omega, ⟨⟨rfl, rfl, congrArg (fun x => some (Value.int .i64 x)) hw, trivial, congrArg (fun x => some (Value.int .i64 x)) (wrap_nat (by omega)), trivial, trivial⟩, by (refine ⟨?_, ?_⟩ <;> repeat' first | exact trivial | exact congrArg (fun x => some (Value.int .i64 x)) (wrap_nat (by omega)) | exact sv_eq (by simp; done) | exact rfl | refine ⟨?_, ?_⟩ | fail)⟩, k + 1, by omega, rfl, rfl, rfl⟩
  · have hk : k = g.vals.length := by simp at hge; omega
    subst hk
    refine pint ?_
    rw [List.take_of_length_le (Nat.le_refl _)]
def fitsL (vs : List Val) : Bool := decide (vs.length ≤ 2000) && decide (cellsOf vs ≤ 50000)
theorem l2fits_pc (H : Heap) (p q r : Option Addr) (g : Graph) (hq : Rd dVal H q g.vals) (hl : g.vals.length ≤ 1048576) (hv : ∀ v ∈ g.vals, 0 ≤ v.len ∧ v.len ≤ 1000) :
    PC Try.prog 15 [gV p q r g] H (.bool (fitsL g.vals)) := by
  refine EC_fn ctx (fun _ => true) Try.func15 rfl rfl rfl ?_
  refine ⟨_, fun _ => l1cells2_pc H p q r g hq hl hv, ?_⟩
  refine pbool ?_
  unfold fitsL
  by_cases h1 : g.vals.length ≤ 2000 <;> by_cases h2 : cellsOf g.vals ≤ 50000 <;> simp [h1, h2] <;> omega
def zGr : Graph := ⟨[], [], []⟩
/-- What Jvp answers. -/
def jvA (g : Graph) (s x t : Int) : Graph × Int × Int :=
  if validB g = true ∧ (0 ≤ s ∧ s < g.vals.length) ∧ (0 ≤ x ∧ x < g.vals.length) ∧ (0 ≤ t ∧ t < g.vals.length) then
    if lenAt g.vals t = lenAt g.vals x then
      if fitsL (jvpP g.vals s.toNat x.toNat t).1 then (⟨g.ins, (jvpP g.vals s.toNat x.toNat t).1, g.outs⟩, (jvpP g.vals s.toNat x.toNat t).2, 0) else (zGr, 0, 5)
    else (zGr, 0, 4)
  else (zGr, 0, 1)
def JAR (H : Heap) (y : Graph × Int × Int) (e : AEnd) (K : Heap) : Prop := ∃ p q r, e = .ret (.tuple #[gV p q r y.1, .int .i64 y.2.1, .int .i64 y.2.2]) ∧ Ext H K ∧ OwnG K H.next K.next p q r y.1
theorem JAR.no {H K : Heap} {y : Graph × Int × Int} {v : Value} (h : JAR H y (.pan v) K) : False := by obtain ⟨_, _, _, h, _⟩ := h; cases h
theorem JAR.zero {H K : Heap} {y : Graph × Int × Int} {c : Int} (h : y = (zGr, 0, c)) (e : Ext H K) : JAR H y (.ret (.tuple #[.agg #[.slice none 0 0, .slice none 0 0, .slice none 0 0], .int .i64 0, .int .i64 c])) K := by
  subst h
  exact ⟨none, none, none, rfl, e, .nil, .nil, .nil, ⟨by simp, by simp, by simp⟩, ⟨by simp, by simp, by simp⟩⟩
/-- The lengths of what is made. -/
theorem jvp_lens {g : Graph} (hv : validB g = true) {s x : Nat} {t : Int} (hs : s < g.vals.length) (hx : x < g.vals.length) (ht : 0 ≤ t ∧ t < g.vals.length) :
    (jvpP g.vals s x t).1.length ≤ 12000 ∧ ∀ v ∈ (jvpP g.vals s x t).1, 0 ≤ v.len ∧ v.len ≤ 1000 := by
  obtain ⟨h1, h2, h3⟩ := valid_lens hv
  have hall : ∀ v ∈ g.vals, 0 ≤ v.len ∧ v.len ≤ 1000 := fun v hm => by
    obtain ⟨i, hi⟩ := List.getElem?_of_mem hm
    have := valid_okl hv hi
    simp [okLen] at this; omega
  obtain ⟨e, he, hel, hew⟩ := (jr_ok hv hx ht (min (s - x) (g.vals.length - 1 - x)) (by omega)).pre
  have hmin : min (s - x) (g.vals.length - 1 - x) = s - x := by omega
  rw [hmin] at he hel
  have hls : 0 ≤ lenAt g.vals s ∧ lenAt g.vals s ≤ 1000 := by
    rw [lenAt_v (vs := g.vals) (o := (s : Int)) rfl (by omega) (by omega)]
    exact hall _ (List.mem_of_getElem? (vAtI_get (vals := g.vals) (i := (s : Int)) (by omega) (by omega)))
  have hm : ∀ v ∈ (jr g.vals x t (s - x)).1, 0 ≤ v.len ∧ v.len ≤ 1000 := fun v hv => by
    rw [he] at hv
    rcases List.mem_append.1 hv with q | q
    · exact hall v q
    · exact hew v q
  have hl : (jr g.vals x t (s - x)).1.length ≤ 10000 := by rw [he]; simp; omega
  unfold jvpP
  split
  · exact ⟨by dsimp only; omega, hm⟩
  · refine ⟨by simp; omega, fun v hv => ?_⟩
    rcases List.mem_append.1 hv with q | q
    · exact hm v q
    · simp at q; subst q; exact hls
end Go.Proofs.Ytaaelokodfildaa
