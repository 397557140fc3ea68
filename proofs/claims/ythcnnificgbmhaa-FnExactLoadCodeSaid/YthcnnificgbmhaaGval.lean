/- ValidGraph, both sides. Condition: the graph's slices read and are at most 2^20 long. -/
import Derived.Test.YthcnnificgbmhaaGvi
set_option linter.unusedVariables false
set_option linter.unusedSimpArgs false
namespace Go.Proofs.Ythcnnificgbmhaa
open Go.Am

theorem all_take_succ {α : Type} {f : α → Bool} {xs : List α} {k : Nat} (hk : k < xs.length) (h : (xs.take k).all f = true) (h' : f xs[k] = true) : (xs.take (k + 1)).all f = true := by
  rw [List.take_succ_eq_append_getElem hk, List.all_append, h]; simp [h']
theorem all_get_false {α : Type} {f : α → Bool} {xs : List α} {k : Nat} (hk : k < xs.length) (h' : f xs[k] = false) : xs.all f = false := by
  rw [List.all_eq_false]
  exact ⟨_, List.getElem_mem hk, by simp [h']⟩
def vAt (g : Graph) (i : Nat) : Bool := match g.vals[i]? with
  | some v => vokB g i v
  | none => true
def inIdx (n : Nat) (o : Int) : Bool := decide (0 ≤ o ∧ o < n)
def cellsOf (vals : List Val) : Int := (vals.map (·.len)).foldl (· + ·) 0
def validB (g : Graph) : Bool :=
  decide (g.ins.length ≤ 20) && decide (g.vals.length ≤ 2000) && decide (g.outs.length ≤ 50) && g.ins.all okLen && (List.range g.vals.length).all (vAt g) && g.outs.all (inIdx g.vals.length) && decide (cellsOf g.vals ≤ 50000)
theorem cells_succ {vals : List Val} {k : Nat} (hk : k < vals.length) : cellsOf (vals.take (k + 1)) = cellsOf (vals.take k) + vals[k].len := by
  unfold cellsOf
  rw [List.take_succ_eq_append_getElem hk, List.map_append, List.foldl_append]; rfl
theorem vok_len {g : Graph} {i : Int} {v : Val} (h : vokB g i v = true) : 1 ≤ v.len ∧ v.len ≤ 1000 := by
  simp [vokB, okLen] at h; omega
theorem vAt_get {g : Graph} {i : Nat} {v : Val} (hv : g.vals[i]? = some v) : vAt g i = vokB g i v := by unfold vAt; rw [hv]
theorem range_all_succ {f : Nat → Bool} {k : Nat} (h : (List.range k).all f = true) (h' : f k = true) : (List.range (k + 1)).all f = true := by
  rw [List.range_succ]; simp at h ⊢; exact ⟨h, h'⟩
theorem range_all_false {f : Nat → Bool} {k n : Nat} (hk : k < n) (h' : f k = false) : (List.range n).all f = false := by
  rw [List.all_eq_false]
  exact ⟨k, List.mem_range.2 hk, by simp [h']⟩
theorem cells_bound {g : Graph} : ∀ {k : Nat}, k ≤ g.vals.length → (List.range k).all (vAt g) = true → 0 ≤ cellsOf (g.vals.take k) ∧ cellsOf (g.vals.take k) ≤ 1000 * k
  | 0, _, _ => by simp [cellsOf]
  | k + 1, hk, h => by
    have hk' : k < g.vals.length := by omega
    rw [List.range_succ] at h
    simp only [List.all_append, Bool.and_eq_true, List.all_cons, List.all_nil] at h
    have := cells_bound (k := k) (by omega) h.1
    have h2 := h.2.1
    rw [vAt_get (List.getElem?_eq_getElem hk')] at h2
    have := vok_len h2
    rw [cells_succ hk']; omega

theorem l1insOK_pc (H : Heap) (a : Option Addr) (xs : List Int) (h : Rd dInt H a xs) (hl : xs.length ≤ 1048576) :
    PC Try.prog 30 [sv a xs] H (.bool (decide (xs.length ≤ 20) && xs.all okLen)) := by
  refine EC_fn ctx (fun _ => true) Try.func30 rfl rfl rfl ?_
  refine ⟨fun h => pbool ?_, fun h20 => ?_⟩
  · simp at h; simp; intro _; omega
  simp at h20
  refine loop_ind ctx (fun _ => true) (fun m E K => ∃ k, k ≤ xs.length ∧ m = xs.length - k ∧ E = ⟨[(0, sv a xs), (3, .int .i64 k)], []⟩ ∧ K = H ∧ (xs.take k).all okLen = true)
    ⟨0, Nat.zero_le _, rfl, rfl, rfl, rfl⟩ (by (refine ⟨?_, ?_⟩ <;> repeat' first | exact trivial | exact congrArg (fun x => some (Value.int .i64 x)) (wrap_nat (by omega)) | exact sv_eq (by simp; done) | exact rfl | refine ⟨?_, ?_⟩ | fail)) ?_
  rintro m E K ⟨k, hk, rfl, rfl, rfl, hok⟩
  refine ⟨fun hlt => ?_, fun hge => ?_⟩
  · have hlt : k < xs.length := by simpa using hlt
    obtain ⟨p, o, rfl, hc⟩ := h.cell (List.getElem?_eq_getElem hlt)
    refine ⟨⟨by omega, by omega⟩, _, hc, fun _ => ⟨by omega, by omega⟩, _, fun _ => hc, fun hf => pbool ?_, fun hf => ?_⟩
    · rw [all_get_false hlt (by simp at hf; simp [okLen]; omega)]; simp
    · exact ⟨xs.length - (k + 1), ⟨[(0, sv (some ⟨p, o, none⟩) xs), (3, .int .i64 ((k + 1 : Nat) : Int))], []⟩, by omega, by (refine ⟨?_, ?_⟩ <;> repeat' first | exact trivial | exact congrArg (fun x => some (Value.int .i64 x)) (wrap_nat (by omega)) | exact sv_eq (by simp; done) | exact rfl | refine ⟨?_, ?_⟩ | fail), k + 1, by omega, rfl, rfl, rfl, all_take_succ hlt hok (by simp at hf; simp [okLen]; omega)⟩
  · refine pbool ?_
    have hk : k = xs.length := by simp at hge; omega
    subst hk
    rw [List.take_of_length_le (Nat.le_refl _)] at hok
    rw [hok]; simp; omega

end Go.Proofs.Ythcnnificgbmhaa
