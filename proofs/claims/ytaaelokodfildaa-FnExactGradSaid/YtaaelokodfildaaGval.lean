/- ValidGraph, both sides. Condition: the graph's slices read and are at most 2^20 long. -/
import Derived.Test.YtaaelokodfildaaGvi
set_option linter.unusedVariables false
set_option linter.unusedSimpArgs false
namespace Go.Proofs.Ytaaelokodfildaa
open Go.Am

theorem all_take_succ {α : Type} {f : α → Bool} {xs : List α} {k : Nat} (hk : k < xs.length) (h : (xs.take k).all f = true) (h' : f xs[k] = true) : (xs.take (k + 1)).all f = true := by
  rw [List.take_succ_eq_append_getElem hk, List.all_append, h]; simp [h']
theorem all_get_false {α : Type} {f : α → Bool} {xs : List α} {k : Nat} (hk : k < xs.length) (h' : f xs[k] = false) : xs.all f = false := by
  rw [List.all_eq_false]
  exact ⟨_, List.getElem_mem hk, by simp [h']⟩
def vAt (g : Graph) (i : Nat) : Bool := match g.vals[i]? with
  | some v => vokB g i v
  | none => true
def inIdx (n : Nat) (o : Int) : Bool := decide (0 ≤ o ∧ o < n)
def cellsOf (vals : List Val) : Int := (vals.map (·.len)).foldl (· + ·) 0
def validB (g : Graph) : Bool :=
  decide (g.ins.length ≤ 20) && decide (g.vals.length ≤ 2000) && decide (g.outs.length ≤ 50) && g.ins.all okLen && (List.range g.vals.length).all (vAt g) && g.outs.all (inIdx g.vals.length) && decide (cellsOf g.vals ≤ 50000)
theorem cells_succ {vals : List Val} {k : Nat} (hk : k < vals.length) : cellsOf (vals.take (k + 1)) = cellsOf (vals.take k) + vals[k].len := by
  unfold cellsOf
  rw [List.take_succ_eq_append_getElem hk, List.map_append, List.foldl_append]; rfl
theorem vok_len {g : Graph} {i : Int} {v : Val} (h : vokB g i v = true) : 1 ≤ v.len ∧ v.len ≤ 1000 := by
  simp [vokB, okLen] at h; omega
theorem vAt_get {g : Graph} {i : Nat} {v : Val} (hv : g.vals[i]? = some v) : vAt g i = vokB g i v := by unfold vAt; rw [hv]
theorem range_all_succ {f : Nat → Bool} {k : Nat} (h : (List.range k).all f = true) (h' : f k = true) : (List.range (k + 1)).all f = true := by
  rw [List.range_succ]; simp at h ⊢; exact ⟨h, h'⟩
theorem range_all_false {f : Nat → Bool} {k n : Nat} (hk : k < n) (h' : f k = false) : (List.range n).all f = false := by
  rw [List.all_eq_false]
  exact ⟨k, List.mem_range.2 hk, by simp [h']⟩
theorem cells_bound {g : Graph} : ∀ {k : Nat}, k ≤ g.vals.length → (List.range k).all (vAt g) = true → 0 ≤ cellsOf (g.vals.take k) ∧ cellsOf (g.vals.take k) ≤ 1000 * k
  | 0, _, _ => by simp [cellsOf]
  | k + 1, hk, h => by
    have hk' : k < g.vals.length := by omega
    rw [List.range_succ] at h
    simp only [List.all_append, Bool.and_eq_true, List.all_cons, List.all_nil] at h
    have := cells_bound (k := k) (by omega) h.1
    have h2 := h.2.1
    rw [vAt_get (List.getElem?_eq_getElem hk')] at h2
    have := vok_len h2
    rw [cells_succ hk']; omega

theorem l1insOK_pc (H : Heap) (a : Option Addr) (xs : List Int) (h : Rd dInt H a xs) (hl : xs.length ≤ 1048576) :
    PC Try.prog 30 [sv a xs] H (.bool (decide (xs.length ≤ 20) && xs.all okLen)) := by
  refine EC_fn ctx (fun _ => true) Try.func30 rfl rfl rfl ?_
  refine ⟨fun h => pbool ?_, fun h20 => ?_⟩
  · simp at h; simp; intro _; omega
  simp at h20
  refine loop_ind ctx (fun _ => true) (fun m E K => ∃ k, k ≤ xs.length ∧ m = xs.length - k ∧ E = ⟨[(0, sv a xs), (3, .int .i64 k)], []⟩ ∧ K = H ∧ (xs.take k).all okLen = true)
    ⟨0, Nat.zero_le _, rfl, rfl, rfl, rfl⟩ (by (refine ⟨?_, ?_⟩ <;> repeat' first | exact trivial | exact congrArg (fun x => some (Value.int .i64 x)) (wrap_nat (by omega)) | exact sv_eq (by simp; done) | exact rfl | refine ⟨?_, ?_⟩ | fail)) ?_
  rintro m E K ⟨k, hk, rfl, rfl, rfl, hok⟩
  refine ⟨fun hlt => ?_, fun hge => ?_⟩
  · have hlt : k < xs.length := by simpa using hlt
    obtain ⟨p, o, rfl, hc⟩ := h.cell (List.getElem?_eq_getElem hlt)
    refine ⟨⟨by omega, by omega⟩, _, hc, fun _ => ⟨by omega, by omega⟩, _, fun _ => hc, fun hf => pbool ?_, fun hf => ?_⟩
    · rw [all_get_false hlt (by simp at hf; simp [okLen]; omega)]; simp
    · exact ⟨xs.length - (k + 1), ⟨[(0, sv (some ⟨p, o, none⟩) xs), (3, .int .i64 ((k + 1 : Nat) : Int))], []⟩, by omega, by (refine ⟨?_, ?_⟩ <;> repeat' first | exact trivial | exact congrArg (fun x => some (Value.int .i64 x)) (wrap_nat (by omega)) | exact sv_eq (by simp; done) | exact rfl | refine ⟨?_, ?_⟩ | fail), k + 1, by omega, rfl, rfl, rfl, all_take_succ hlt hok (by simp at hf; simp [okLen]; omega)⟩
  · refine pbool ?_
    have hk : k = xs.length := by simp at hge; omega
    subst hk
    rw [List.take_of_length_le (Nat.le_refl _)] at hok
    rw [hok]; simp; omega

theorem l1cells_pc (H : Heap) (p q r : Option Addr) (g : Graph) (hg : RdG H p q r g) (hl : g.vals.length ≤ 1048576) (hv : (List.range g.vals.length).all (vAt g) = true) :
    PC Try.prog 32 [gV p q r g] H (.int .i64 (cellsOf g.vals)) := by
  refine EC_fn ctx (fun _ => true) Try.func32 rfl rfl rfl ?_
  refine loop_ind ctx (fun _ => true) (fun m E K => ∃ k, k ≤ g.vals.length ∧ m = g.vals.length - k ∧ E = ⟨[(1, .pointer (some ⟨0, 0, some 0⟩)), (3, .int .i64 (cellsOf (g.vals.take k))), (4, .int .i64 k)], [[sv p g.ins, sv q g.vals, sv r g.outs]]⟩ ∧ K = H)
    ⟨0, Nat.zero_le _, rfl, rfl, rfl⟩ (by (refine ⟨?_, ?_⟩ <;> repeat' first | exact trivial | exact congrArg (fun x => some (Value.int .i64 x)) (wrap_nat (by omega)) | exact sv_eq (by simp; done) | exact rfl | refine ⟨?_, ?_⟩ | fail)) ?_
  rintro m E K ⟨k, hk, rfl, rfl, rfl⟩
  refine ⟨fun hlt => ?_, fun hge => ?_⟩
  · have hlt : k < g.vals.length := by simpa using hlt
    obtain ⟨b, o, rfl, _, hc, _⟩ := hg.vals.valF (List.getElem?_eq_getElem hlt)
    refine ⟨⟨by omega, by omega⟩, _, hc, ?_⟩
    have hb := cells_bound (g := g) (k := k + 1) (by omega) (by rw [List.all_eq_true] at hv ⊢; intro x hx; exact hv x (by simp at hx ⊢; omega))
    have hw : IntKind.i64.wrap (cellsOf (g.vals.take k) + g.vals[k].len) = cellsOf (g.vals.take (k + 1)) := by
      rw [cells_succ hlt] at hb ⊢
      exact wrap_i64 (by omega) (by omega)
    refine ⟨g.vals.length - (k + 1), ⟨[(1, .pointer (some ⟨0, 0, some 0⟩)), (3, .int .i64 (cellsOf (g.vals.take (k + 1)))), (4, .int .i64 ((k + 1 : Nat) : Int))], [[sv p g.ins, sv (some ⟨b, o, none⟩) g.vals, sv r g.outs]]⟩, by omega, ⟨⟨rfl, rfl, congrArg (fun x => some (Value.int .i64 x)) hw, trivial, congrArg (fun x => some (Value.int .i64 x)) (wrap_nat (by omega)), trivial, trivial⟩, by (refine ⟨?_, ?_⟩ <;> repeat' first | exact trivial | exact congrArg (fun x => some (Value.int .i64 x)) (wrap_nat (by omega)) | exact sv_eq (by simp; done) | exact rfl | refine ⟨?_, ?_⟩ | fail)⟩, k + 1, by omega, rfl, rfl, rfl⟩
  · have hk : k = g.vals.length := by simp at hge; omega
    subst hk
    refine pint ?_
    rw [List.take_of_length_le (Nat.le_refl _)]

theorem specValid_ec (H : Heap) (p q r : Option Addr) (g : Graph) (hg : RdG H p q r g) (hl : g.vals.length ≤ 1048576) (hli : g.ins.length ≤ 1048576) (hlo : g.outs.length ≤ 1048576) :
    EC Try.prog 13 [gV p q r g] H fun e H' => e = .ret (.bool (validB g)) ∧ Ext H H' := by
  refine EC_fn ctx (fun _ => true) Try.func13 rfl rfl rfl ?_
  refine ⟨_, l1insOK_pc H p g.ins hg.ins hli, ?_, fun v K hR => by cases hR.1⟩
  rintro _ K ⟨hx, rfl⟩
  cases hx
  have fin : ∀ {H' : Heap} {q : Bool}, Ext K H' → validB g = q → AEnd.ret (.bool q) = .ret (.bool (validB g)) ∧ Ext K H' := fun e h => ⟨by rw [h], e⟩
  refine ⟨fun h => fin (Ext.refl _) ?_, fun h => ?_⟩
  · rw [Bool.eq_false_iff]
    intro hv
    simp only [validB, Bool.and_eq_true, decide_eq_true_eq] at hv
    obtain ⟨⟨⟨⟨⟨⟨v1, v2⟩, v3⟩, v4⟩, _⟩, _⟩, _⟩ := hv
    rw [v4] at h
    simp at h
    omega
  have h1 : g.ins.length ≤ 20 ∧ g.ins.all okLen = true ∧ g.vals.length ≤ 2000 ∧ g.outs.length ≤ 50 := by
    cases hq : g.ins.all okLen with
    | false => rw [hq] at h; simp at h
    | true => rw [hq] at h; simp at h; simp; omega
  obtain ⟨h1, h2, h3, h4⟩ := h1
  refine loop_ind ctx (fun _ => true) (fun m E K' => ∃ k, k ≤ g.vals.length ∧ m = g.vals.length - k ∧ E = ⟨[(1, .pointer (some ⟨0, 0, some 0⟩)), (3, .int .i64 k)], [[sv p g.ins, sv q g.vals, sv r g.outs]]⟩ ∧ Ext K K' ∧ (List.range k).all (vAt g) = true)
    ⟨0, Nat.zero_le _, rfl, rfl, Ext.refl K, rfl⟩ (by (refine ⟨?_, ?_⟩ <;> repeat' first | exact trivial | exact congrArg (fun x => some (Value.int .i64 x)) (wrap_nat (by omega)) | exact sv_eq (by simp; done) | exact rfl | refine ⟨?_, ?_⟩ | fail)) ?_
  rintro m E K' ⟨k, hk, rfl, rfl, he, hok⟩
  refine ⟨fun hlt => ?_, fun hge => ?_⟩
  · have hlt : k < g.vals.length := by simpa using hlt
    have hx := List.getElem?_eq_getElem hlt
    refine ⟨_, l1valOK_ec K' p q r g (hg.mono he) k _ hx hl hli, ?_, fun v K hR => by cases hR.1⟩
    rintro _ K'' ⟨hx', he'⟩
    cases hx'
    have he := he.trans he'
    refine ⟨fun hf => fin he ?_, fun hf => ?_⟩
    · simp at hf
      unfold validB
      rw [range_all_false hlt (by rw [vAt_get hx]; exact hf)]; simp
    · simp at hf
      exact ⟨g.vals.length - (k + 1), ⟨[(1, .pointer (some ⟨0, 0, some 0⟩)), (3, .int .i64 ((k + 1 : Nat) : Int))], [[sv p g.ins, sv q g.vals, sv r g.outs]]⟩, by omega, by (refine ⟨?_, ?_⟩ <;> repeat' first | exact trivial | exact congrArg (fun x => some (Value.int .i64 x)) (wrap_nat (by omega)) | exact sv_eq (by simp; done) | exact rfl | refine ⟨?_, ?_⟩ | fail), k + 1, by omega, rfl, rfl, he, range_all_succ hok (by rw [vAt_get hx]; exact hf)⟩
  · have hk : k = g.vals.length := by simp at hge; omega
    subst hk
    refine loop_ind ctx (fun _ => true) (fun m E K'' => ∃ k, k ≤ g.outs.length ∧ m = g.outs.length - k ∧ E = ⟨[(1, .pointer (some ⟨0, 0, some 0⟩)), (4, .int .i64 k)], [[sv p g.ins, sv q g.vals, sv r g.outs]]⟩ ∧ K'' = K' ∧ (g.outs.take k).all (inIdx g.vals.length) = true)
      ⟨0, Nat.zero_le _, rfl, rfl, rfl, rfl⟩ (by (refine ⟨?_, ?_⟩ <;> repeat' first | exact trivial | exact congrArg (fun x => some (Value.int .i64 x)) (wrap_nat (by omega)) | exact sv_eq (by simp; done) | exact rfl | refine ⟨?_, ?_⟩ | fail)) ?_
    rintro m E K'' ⟨k, hk, rfl, rfl, rfl, hoo⟩
    refine ⟨fun hlt => ?_, fun hge => ?_⟩
    · have hlt : k < g.outs.length := by simpa using hlt
      obtain ⟨b, o, rfl, hc⟩ := (hg.mono he).outs.cell (List.getElem?_eq_getElem hlt)
      refine ⟨.leaf [([0, 1, 2, 3, 4, 5, 6, 7, 8, 9, 10, 11, 12, 13, 14, 15, 16], none)] [], by kernel_rfl, ⟨by omega, by omega⟩, _, hc, fun _ => ⟨by omega, by omega⟩, _, fun _ => hc, fun hf => fin he ?_, fun hf => ?_⟩
      · unfold validB
        rw [all_get_false (f := inIdx g.vals.length) hlt (by simp at hf; simp [inIdx]; omega)]; simp
      · exact ⟨g.outs.length - (k + 1), ⟨[(1, .pointer (some ⟨0, 0, some 0⟩)), (4, .int .i64 ((k + 1 : Nat) : Int))], [[sv p g.ins, sv q g.vals, sv (some ⟨b, o, none⟩) g.outs]]⟩, by omega, by (refine ⟨?_, ?_⟩ <;> repeat' first | exact trivial | exact congrArg (fun x => some (Value.int .i64 x)) (wrap_nat (by omega)) | exact sv_eq (by simp; done) | exact rfl | refine ⟨?_, ?_⟩ | fail), k + 1, by omega, rfl, rfl, rfl, all_take_succ hlt hoo (by simp at hf; simp [inIdx]; omega)⟩
    · have hk : k = g.outs.length := by simp at hge; omega
      subst hk
      rw [List.take_of_length_le (Nat.le_refl _)] at hoo
      refine ⟨_, l1cells_pc K'' p q r g (hg.mono he) hl hok, ?_, fun v K hR => by cases hR.1⟩
      rintro _ K ⟨hx', rfl⟩
      cases hx'
      refine fin he ?_
      simp only [validB, hok, hoo, h2, h1, h3, h4]
      simp

theorem implValid_pc (H : Heap) (p q r : Option Addr) (g : Graph) (hg : RdG H p q r g) (hl : g.vals.length ≤ 1048576) (hli : g.ins.length ≤ 1048576) (hlo : g.outs.length ≤ 1048576) :
    PC Try.prog 18 [gV p q r g] H (.bool (validB g)) := by
  refine EC_fn ctx (fun _ => true) Try.func18 rfl rfl rfl ?_
  refine ⟨fun h => pbool ?_, fun h => ?_⟩
  · simp at h
    symm; rw [Bool.eq_false_iff]
    intro hv
    simp only [validB, Bool.and_eq_true, decide_eq_true_eq] at hv
    omega
  simp at h
  refine loop_ind ctx (fun _ => true) (fun m E K' => ∃ k, k ≤ g.ins.length ∧ m = g.ins.length - k ∧ E = ⟨[(1, .pointer (some ⟨0, 0, some 0⟩)), (27, sv p g.ins), (28, .int .i64 g.ins.length), (29, .int .i64 k)], [[sv p g.ins, sv q g.vals, sv r g.outs]]⟩ ∧ K' = H ∧ (g.ins.take k).all okLen = true)
    ⟨0, Nat.zero_le _, rfl, rfl, rfl, rfl⟩ (by (refine ⟨?_, ?_⟩ <;> repeat' first | exact trivial | exact congrArg (fun x => some (Value.int .i64 x)) (wrap_nat (by omega)) | exact sv_eq (by simp; done) | exact rfl | refine ⟨?_, ?_⟩ | fail)) ?_
  rintro m E K' ⟨k, hk, rfl, rfl, rfl, hok⟩
  refine ⟨fun hlt => ?_, fun hge => ?_⟩
  · have hlt : k < g.ins.length := by simpa using hlt
    obtain ⟨b, o, rfl, hc⟩ := hg.ins.cell (List.getElem?_eq_getElem hlt)
    refine ⟨⟨by omega, by omega⟩, _, hc, _, lenOk_pc K' _, ?_, fun v K hR => by cases hR.1⟩
    rintro _ K ⟨hx', rfl⟩
    cases hx'
    refine ⟨fun hf => pbool ?_, fun hf => ?_⟩
    · unfold validB
      rw [all_get_false (f := okLen) hlt (by simpa using hf)]; simp
    · exact ⟨g.ins.length - (k + 1), ⟨[(1, .pointer (some ⟨0, 0, some 0⟩)), (27, sv (some ⟨b, o, none⟩) g.ins), (28, .int .i64 g.ins.length), (29, .int .i64 ((k + 1 : Nat) : Int))], [[sv (some ⟨b, o, none⟩) g.ins, sv q g.vals, sv r g.outs]]⟩, by omega, by (refine ⟨?_, ?_⟩ <;> repeat' first | exact trivial | exact congrArg (fun x => some (Value.int .i64 x)) (wrap_nat (by omega)) | exact sv_eq (by simp; done) | exact rfl | refine ⟨?_, ?_⟩ | fail), k + 1, by omega, rfl, rfl, rfl, all_take_succ hlt hok (by simpa using hf)⟩
  have hk : k = g.ins.length := by simp at hge; omega
  subst hk
  rw [List.take_of_length_le (Nat.le_refl _)] at hok
  refine loop_ind ctx (fun _ => true) (fun m E K => ∃ k, k ≤ g.vals.length ∧ m = g.vals.length - k ∧ E = ⟨[(1, .pointer (some ⟨0, 0, some 0⟩)), (5, .int .i64 (cellsOf (g.vals.take k))), (38, sv q g.vals), (39, .int .i64 g.vals.length), (40, .int .i64 k)], [[sv p g.ins, sv q g.vals, sv r g.outs]]⟩ ∧ K = K' ∧ (List.range k).all (vAt g) = true)
    ⟨0, Nat.zero_le _, rfl, rfl, rfl, rfl⟩ (by (refine ⟨?_, ?_⟩ <;> repeat' first | exact trivial | exact congrArg (fun x => some (Value.int .i64 x)) (wrap_nat (by omega)) | exact sv_eq (by simp; done) | exact rfl | refine ⟨?_, ?_⟩ | fail)) ?_
  rintro m E K ⟨k, hk, rfl, rfl, rfl, hov⟩
  refine ⟨fun hlt => ?_, fun hge => ?_⟩
  · have hlt : k < g.vals.length := by simpa using hlt
    have hx := List.getElem?_eq_getElem hlt
    obtain ⟨b, o, rfl, hc⟩ := hg.vals.val hx
    refine ⟨⟨by omega, by omega⟩, valV g.vals[k], hc, _, valOk_pc K p (some ⟨b, o, none⟩) r g hg k _ hx hl hli, ?_, fun v K hR => by cases hR.1⟩
    rintro _ K ⟨hx', rfl⟩
    cases hx'
    refine ⟨fun hf => pbool ?_, fun hf => ?_⟩
    · unfold validB
      rw [range_all_false (f := vAt g) hlt (by rw [vAt_get hx]; simpa using hf)]; simp
    · have hov' := range_all_succ hov (show vAt g k = true by rw [vAt_get hx]; simpa using hf)
      have hb := cells_bound (g := g) (k := k + 1) (by omega) hov'
      have hw : IntKind.i64.wrap (cellsOf (g.vals.take k) + g.vals[k].len) = cellsOf (g.vals.take (k + 1)) := by
        rw [cells_succ hlt] at hb ⊢
        exact wrap_i64 (by omega) (by omega)
      exact ⟨g.vals.length - (k + 1), ⟨[(1, .pointer (some ⟨0, 0, some 0⟩)), (5, .int .i64 (cellsOf (g.vals.take (k + 1)))), (38, sv (some ⟨b, o, none⟩) g.vals), (39, .int .i64 g.vals.length), (40, .int .i64 ((k + 1 : Nat) : Int))], [[sv p g.ins, sv (some ⟨b, o, none⟩) g.vals, sv r g.outs]]⟩, by omega,
        ⟨⟨rfl, rfl, congrArg (fun x => some (Value.int .i64 x)) hw, trivial, rfl, trivial, rfl, trivial, congrArg (fun x => some (Value.int .i64 x)) (wrap_nat (by omega)), trivial, trivial⟩, by (refine ⟨?_, ?_⟩ <;> repeat' first | exact trivial | exact congrArg (fun x => some (Value.int .i64 x)) (wrap_nat (by omega)) | exact sv_eq (by simp; done) | exact rfl | refine ⟨?_, ?_⟩ | fail)⟩, k + 1, by omega, rfl, rfl, rfl, hov'⟩
  have hk : k = g.vals.length := by simp at hge; omega
  subst hk
  rw [List.take_of_length_le (Nat.le_refl _)]
  refine loop_ind ctx (fun _ => true) (fun m E K' => ∃ k, k ≤ g.outs.length ∧ m = g.outs.length - k ∧ E = ⟨[(1, .pointer (some ⟨0, 0, some 0⟩)), (5, .int .i64 (cellsOf g.vals)), (55, sv r g.outs), (56, .int .i64 g.outs.length), (57, .int .i64 k)], [[sv p g.ins, sv q g.vals, sv r g.outs]]⟩ ∧ K' = K ∧ (g.outs.take k).all (inIdx g.vals.length) = true)
    ⟨0, Nat.zero_le _, rfl, rfl, rfl, rfl⟩ (by (refine ⟨?_, ?_⟩ <;> repeat' first | exact trivial | exact congrArg (fun x => some (Value.int .i64 x)) (wrap_nat (by omega)) | exact sv_eq (by simp; done) | exact rfl | refine ⟨?_, ?_⟩ | fail)) ?_
  rintro m E K' ⟨k, hk, rfl, rfl, rfl, hoo⟩
  refine ⟨fun hlt => ?_, fun hge => ?_⟩
  · have hlt : k < g.outs.length := by simpa using hlt
    obtain ⟨b, o, rfl, hc⟩ := hg.outs.cell (List.getElem?_eq_getElem hlt)
    refine ⟨⟨by omega, by omega⟩, _, hc, fun hf => pbool ?_, fun hf => ?_⟩
    · unfold validB
      rw [all_get_false (f := inIdx g.vals.length) hlt (by simp at hf; simp [inIdx]; omega)]; simp
    · exact ⟨g.outs.length - (k + 1), ⟨[(1, .pointer (some ⟨0, 0, some 0⟩)), (5, .int .i64 (cellsOf g.vals)), (55, sv (some ⟨b, o, none⟩) g.outs), (56, .int .i64 g.outs.length), (57, .int .i64 ((k + 1 : Nat) : Int))], [[sv p g.ins, sv q g.vals, sv (some ⟨b, o, none⟩) g.outs]]⟩, by omega, by (refine ⟨?_, ?_⟩ <;> repeat' first | exact trivial | exact congrArg (fun x => some (Value.int .i64 x)) (wrap_nat (by omega)) | exact sv_eq (by simp; done) | exact rfl | refine ⟨?_, ?_⟩ | fail), k + 1, by omega, rfl, rfl, rfl, all_take_succ hlt hoo (by simp at hf; simp [inIdx]; omega)⟩
  · have hk : k = g.outs.length := by simp at hge; omega
    subst hk
    rw [List.take_of_length_le (Nat.le_refl _)] at hoo
    refine pbool ?_
    simp only [validB, hov, hoo, hok, h]
    simp; omega
end Go.Proofs.Ytaaelokodfildaa
