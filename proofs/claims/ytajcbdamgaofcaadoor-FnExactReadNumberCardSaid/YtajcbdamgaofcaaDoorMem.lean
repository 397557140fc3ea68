/- Slices in memory: a slice that reads as a list, and a slice that the call itself has made. Plain facts on worlds; no condition. -/
import Derived.Test.YtajcbdamgaofcaaDoorFlOp
import Derived.Below
import Derived.Laws.OwnMore
import Derived.Maps.AppendAt
import Derived.Deep.QuietTactic
import Derived.Deep.AppendLies
set_option linter.unusedVariables false
set_option linter.unusedSimpArgs false
namespace Go.Proofs.YtajcbdamgaofcaaDoor
open Go.RowKit
open FlCore

@[go_sem] theorem run_store_float {P : Program} {w : World} {a : Addr} {m : Mode} (k : FloatKind) (b : Nat) : (store a (.float k b) m).run P w = stored P w a (.float k b) m := run_store P w a _ m rfl

/-- A call that leaves the world alone, inside a region that draws its order. -/
theorem quiet_add_left {P : Program} {f : FuncId} {args : Array Value} {w : World} {a n : Nat} {v : Value}
    (h : Calls P f args (w.drewN (a + n)) fun e w' => e = .returned v ∧ w.drewN (a + n) = w') :
    Calls P f args (w.drewN (a + n)) fun e w'' => e = .returned v ∧ ∃ m, w'' = w.drewN (a + m) :=
  h.mono fun _ _ ⟨he, hm⟩ => ⟨he, n, hm.symm⟩
theorem quiet_left {P : Program} {f : FuncId} {args : Array Value} {w : World} {n : Nat} {v : Value}
    (h : Calls P f args (w.drewN n) fun e w' => e = .returned v ∧ w.drewN n = w') : Calls P f args (w.drewN n) fun e w'' => e = .returned v ∧ ∃ m, w'' = w.drewN m :=
  h.mono fun _ _ ⟨he, hm⟩ => ⟨he, n, hm.symm⟩

/-- A word that stands for x. -/
structure Is (b x : Nat) : Prop where
  lt : b < 18446744073709551616
  eq : canon b = x

/-- A kind of element: how many cells it takes and which cells stand for which datum. -/
structure Fk (α : Type) where
  sz : Nat
  R : List Value → α → Prop
  len : ∀ {cs : List Value} {x : α}, R cs x → cs.length = sz

def Fk.int (k : IntKind) : Fk Int := ⟨1, fun cs x => cs = [.int k x] ∧ k.min ≤ x ∧ x ≤ k.max, by rintro cs x ⟨rfl, _⟩; rfl⟩
def Fk.flt : Fk Nat := ⟨1, fun cs x => ∃ b, cs = [.float .f64 b] ∧ Is b x, by rintro cs x ⟨b, rfl, _⟩; rfl⟩
def Fk.bool : Fk Bool := ⟨1, fun cs x => cs = [.bool x], by rintro cs x rfl; rfl⟩

/-- Cells that stand for a list. -/
structure RL {α : Type} (d : Fk α) (cells : List Value) (xs : List α) : Prop where
  len : cells.length = xs.length * d.sz
  at_ : ∀ i x, xs[i]? = some x → ∃ es, d.R es x ∧ ∀ j, j < d.sz → cells[i * d.sz + j]? = es[j]?

/-- A slice's value that reads as a list; its cells lie in blocks of F. -/
structure Sl {α : Type} (d : Fk α) (F : Nat → Prop) (w : World) (A : Option Addr) (c : Nat) (xs : List α) : Prop where
  le : xs.length ≤ c
  max : xs.length ≤ maxLen
  at_ : 0 < xs.length → ∃ b off, A = some ⟨b, off, none⟩ ∧ F b ∧ b < w.heap.size ∧ ∀ i x, xs[i]? = some x → ∃ es, d.R es x ∧ ∀ j, j < d.sz → w.cell? ⟨b, off + (i * d.sz + j), none⟩ = es[j]?

/-- A slice that the call has made and that reads as a list. -/
def Own {α : Type} (d : Fk α) (w : World) (base : Nat) (E : TypeId) (v : Value) (xs : List α) : Prop :=
  ∃ cells, w.ownsRow base E d.sz v xs.length cells ∧ RL d cells xs

section
variable {α : Type} {d : Fk α}

theorem RL.nil : RL d [] [] := ⟨by simp, fun i x h => by simp at h⟩
theorem RL.snoc {cells es : List Value} {xs : List α} {y : α} (h : RL d cells xs) (he : d.R es y) : RL d (cells ++ es) (xs ++ [y]) := by
  refine ⟨by simp [h.len, d.len he, Nat.add_mul], fun i x hx => ?_⟩
  rcases Nat.lt_or_ge i xs.length with hi | hi
  · rw [List.getElem?_append_left hi] at hx
    obtain ⟨es', h1, h2⟩ := h.at_ i x hx
    refine ⟨es', h1, fun j hj => ?_⟩
    rw [List.getElem?_append_left, h2 j hj]
    rw [h.len]
    calc i * d.sz + j < i * d.sz + d.sz := by omega
      _ = (i + 1) * d.sz := by rw [Nat.add_mul, Nat.one_mul]
      _ ≤ xs.length * d.sz := Nat.mul_le_mul_right _ hi
  · rw [List.getElem?_append_right hi] at hx
    have hi0 : i - xs.length = 0 := by
      rcases Nat.eq_zero_or_pos (i - xs.length) with q | q
      · exact q
      · rw [List.getElem?_eq_none (by simp; omega)] at hx; cases hx
    rw [hi0] at hx
    obtain rfl : y = x := by simpa using hx
    obtain rfl : i = xs.length := by omega
    refine ⟨es, he, fun j hj => ?_⟩
    rw [List.getElem?_append_right (by rw [h.len]; omega), h.len, Nat.add_sub_cancel_left]

theorem RL.set {cells : List Value} {xs : List α} {i j : Nat} {u : Value} {x y : α} (h : RL d cells xs) (hx : xs[i]? = some x) (hj : j < d.sz)
    (he : ∀ es, d.R es x → (∀ k, k < d.sz → cells[i * d.sz + k]? = es[k]?) → d.R (es.set j u) y) : RL d (cells.set (i * d.sz + j) u) (xs.set i y) := by
  have hi : i < xs.length := by
    rcases Nat.lt_or_ge i xs.length with q | q
    · exact q
    · rw [List.getElem?_eq_none q] at hx; cases hx
  refine ⟨by simp [h.len], fun k z hz => ?_⟩
  by_cases hk : k = i
  · subst hk
    rw [List.getElem?_set_self hi] at hz
    obtain rfl : y = z := by simpa using hz
    obtain ⟨es', h1, h2⟩ := h.at_ k x hx
    refine ⟨es'.set j u, he es' h1 h2, fun m hm => ?_⟩
    by_cases hmj : m = j
    · subst hmj
      have hlt : k * d.sz + m < cells.length := by
        rw [h.len]
        calc k * d.sz + m < k * d.sz + d.sz := by omega
          _ = (k + 1) * d.sz := by rw [Nat.add_mul, Nat.one_mul]
          _ ≤ xs.length * d.sz := Nat.mul_le_mul_right _ hi
      rw [List.getElem?_set_self hlt, List.getElem?_set_self (by rw [d.len h1]; exact hm)]
    · rw [List.getElem?_set_ne (by omega), List.getElem?_set_ne (by omega)]
      exact h2 m hm
  · rw [List.getElem?_set_ne (by omega)] at hz
    obtain ⟨es', h1, h2⟩ := h.at_ k z hz
    refine ⟨es', h1, fun m hm => ?_⟩
    rw [List.getElem?_set_ne]
    · exact h2 m hm
    · intro e
      rcases Nat.lt_or_gt_of_ne hk with q | q
      · have : (k + 1) * d.sz ≤ i * d.sz := Nat.mul_le_mul_right _ q
        rw [Nat.add_mul, Nat.one_mul] at this
        omega
      · have : (i + 1) * d.sz ≤ k * d.sz := Nat.mul_le_mul_right _ q
        rw [Nat.add_mul, Nat.one_mul] at this
        omega

theorem RL.replicate (n : Nat) (zs : List Value) (z : α) (hz : d.R zs z) (cells : List Value) (hl : cells.length = n * d.sz) (hc : ∀ i j, i < n → j < d.sz → cells[i * d.sz + j]? = zs[j]?) : RL d cells (List.replicate n z) := by
  refine ⟨by simpa using hl, fun i x hx => ?_⟩
  rw [List.getElem?_replicate] at hx
  split at hx
  · rename_i hi
    obtain rfl : z = x := by simpa using hx
    exact ⟨zs, hz, fun j hj => hc i j hi hj⟩
  · cases hx

theorem Own.nil (w : World) (base : Nat) (E : TypeId) : Own d w base E (.slice none 0 0) [] := ⟨[], World.ownsRow_nil _ _ _ _, .nil⟩

/-- The shape of what is owned. -/
theorem Own.form {w : World} {base : Nat} {E : TypeId} {v : Value} {xs : List α} (h : Own d w base E v xs) :
    (v = .slice none 0 0 ∧ xs = []) ∨ ∃ g c, v = .slice (some ⟨g, 0, none⟩) xs.length c ∧ base ≤ g ∧ g < w.heap.size ∧ xs.length ≤ c ∧ c ≤ maxLen := by
  obtain ⟨cells, hown, hr⟩ := h
  rcases hown.2 with ⟨rfl, h0⟩ | ⟨g, cap, cur, rfl, hb, hg, hn, hm, _⟩
  · exact .inl ⟨rfl, List.eq_nil_of_length_eq_zero h0⟩
  · exact .inr ⟨g, cap, rfl, hb, (Array.getElem?_eq_some_iff.1 hg).1, hn, hm⟩

theorem Own.sl {w : World} {base : Nat} {E : TypeId} {v : Value} {xs : List α} (h : Own d w base E v xs) :
    ∃ A c, v = .slice A xs.length c ∧ Sl d (fun b => base ≤ b ∧ v.ownBlock = some b) w A c xs := by
  obtain ⟨cells, hown, hr⟩ := h
  rcases hown.2 with ⟨rfl, h0⟩ | ⟨g, cap, cur, rfl, hb, hg, hn, hm, _⟩
  · obtain rfl : xs = [] := List.eq_nil_of_length_eq_zero h0
    exact ⟨none, 0, rfl, by simp, by simp, fun h => by simp at h⟩
  · refine ⟨_, cap, rfl, hn, Nat.le_trans hn hm, fun hp => ⟨g, 0, rfl, ⟨hb, rfl⟩, (Array.getElem?_eq_some_iff.1 hg).1, fun i x hx => ?_⟩⟩
    obtain ⟨es, h1, h2⟩ := hr.at_ i x hx
    refine ⟨es, h1, fun j hj => ?_⟩
    have hi : i < xs.length := by
      rcases Nat.lt_or_ge i xs.length with q | q
      · exact q
      · rw [List.getElem?_eq_none q] at hx; cases hx
    rw [Nat.zero_add, hown.cellAt _ ?_, h2 j hj]
    calc i * d.sz + j < i * d.sz + d.sz := by omega
      _ = (i + 1) * d.sz := by rw [Nat.add_mul, Nat.one_mul]
      _ ≤ xs.length * d.sz := Nat.mul_le_mul_right _ hi

theorem Sl.mono {F F' : Nat → Prop} {w w' : World} {A : Option Addr} {c : Nat} {xs : List α} (h : Sl d F w A c xs) (hs : w.heap.size ≤ w'.heap.size) (hF : ∀ b, F b → b < w.heap.size → F' b ∧ w'.heap[b]? = w.heap[b]?) : Sl d F' w' A c xs := by
  refine ⟨h.le, h.max, fun hp => ?_⟩
  obtain ⟨b, off, e, hb, hlt, hc⟩ := h.at_ hp
  have hh := hF b hb hlt
  refine ⟨b, off, e, hh.1, Nat.lt_of_lt_of_le hlt hs, fun i x hx => ?_⟩
  obtain ⟨es, h1, h2⟩ := hc i x hx
  refine ⟨es, h1, fun j hj => ?_⟩
  rw [World.cell?_of_block (w := w) (a := ⟨b, off + (i * d.sz + j), none⟩) hh.2]
  exact h2 j hj
theorem Sl.imp {F F' : Nat → Prop} {w : World} {A : Option Addr} {c : Nat} {xs : List α} (h : Sl d F w A c xs) (hF : ∀ b, F b → b < w.heap.size → F' b) : Sl d F' w A c xs :=
  h.mono (Nat.le_refl _) fun b hb hlt => ⟨hF b hb hlt, rfl⟩
theorem Sl.below {F : Nat → Prop} {w w' : World} {A : Option Addr} {c : Nat} {xs : List α} (h : Sl d F w A c xs) (hb : Below w.heap.size w w') : Sl d F w' A c xs :=
  h.mono hb.size fun b hF hlt => ⟨hF, hb.block b hlt⟩
theorem Sl.any {F : Nat → Prop} {w : World} {A : Option Addr} {c : Nat} {xs : List α} (h : Sl d F w A c xs) : Sl d (fun _ => True) w A c xs := h.imp fun _ _ _ => trivial
theorem Sl.grown {F : Nat → Prop} {w w' : World} {row : Option Nat} {A : Option Addr} {c : Nat} {xs : List α} (h : Sl d F w A c xs) (hg : w.grownBy w' row) (hne : ∀ b, F b → b < w.heap.size → some b ≠ row) : Sl d F w' A c xs :=
  h.mono hg.size fun b hF hlt => ⟨hF, hg.block b hlt (hne b hF hlt)⟩
theorem Sl.drewN {F : Nat → Prop} {w : World} {A : Option Addr} {c : Nat} {xs : List α} (h : Sl d F w A c xs) (n : Nat) : Sl d F (w.drewN n) A c xs := ⟨h.le, h.max, h.at_⟩

theorem Sl.take {F : Nat → Prop} {w : World} {A : Option Addr} {c : Nat} {xs : List α} (h : Sl d F w A c xs) (n : Nat) : Sl d F w A c (xs.take n) := by
  refine ⟨Nat.le_trans (by rw [List.length_take]; omega) h.le, Nat.le_trans (by rw [List.length_take]; omega) h.max, fun hp => ?_⟩
  rw [List.length_take] at hp
  obtain ⟨b, off, e, hF, hlt, hc⟩ := h.at_ (by omega)
  refine ⟨b, off, e, hF, hlt, fun i x hx => hc i x ?_⟩
  rw [List.getElem?_take] at hx
  split at hx
  · exact hx
  · cases hx
theorem Own.kept {w w' : World} {base : Nat} {E : TypeId} {v : Value} {xs : List α} {row : Option Nat} (h : Own d w base E v xs) (hg : w.grownBy w' row) (hne : v.ownBlock = none ∨ v.ownBlock ≠ row) : Own d w' base E v xs := by
  obtain ⟨cells, hown, hr⟩ := h
  exact ⟨cells, hown.kept hg hne, hr⟩
theorem grown_of_below {w w1 : World} (h : Below w.heap.size w w1) (row : Option Nat) : w.grownBy w1 row := ⟨h.os, h.tape, h.output, h.size, fun i hi _ => h.block i hi⟩
theorem below_of_grown {w w1 : World} (h : w.grownBy w1 none) : Below w.heap.size w w1 := ⟨h.os, h.tape, h.output, h.size, fun i hi => h.block i hi (by simp)⟩
theorem Own.below {w w' : World} {base : Nat} {E : TypeId} {v : Value} {xs : List α} (h : Own d w base E v xs) (hb : Below w.heap.size w w') : Own d w' base E v xs :=
  h.kept (grown_of_below hb none) (by cases v.ownBlock <;> simp)
theorem Own.lower {w : World} {base base' : Nat} {E : TypeId} {v : Value} {xs : List α} (h : Own d w base E v xs) (hb : base' ≤ base) : Own d w base' E v xs := by
  obtain ⟨cells, hown, hr⟩ := h
  refine ⟨cells, ⟨hown.1, ?_⟩, hr⟩
  rcases hown.2 with h1 | ⟨g, cap, cur, e, hbb, r⟩
  · exact .inl h1
  · exact .inr ⟨g, cap, cur, e, Nat.le_trans hb hbb, r⟩
theorem Own.drewN {w : World} {base : Nat} {E : TypeId} {v : Value} {xs : List α} (h : Own d w base E v xs) (n : Nat) : Own d (w.drewN n) base E v xs := by
  obtain ⟨cells, ⟨h1, h2⟩, hr⟩ := h
  exact ⟨cells, ⟨h1, h2⟩, hr⟩

/-- A store into a cell of what is owned. -/
theorem Own.stored {w : World} {base : Nat} {E : TypeId} {g c n : Nat} {xs : List α} (h : Own d w base E (.slice (some ⟨g, 0, none⟩) n c) xs) (hn : n = xs.length) {i j : Nat} {u : Value} {x y : α} (hx : xs[i]? = some x) (hj : j < d.sz)
    (he : ∀ es, d.R es x → (∀ k, k < d.sz → w.cell? ⟨g, i * d.sz + k, none⟩ = es[k]?) → d.R (es.set j u) y) :
    Own d (w.setCell ⟨g, i * d.sz + j, none⟩ u) base E (.slice (some ⟨g, 0, none⟩) n c) (xs.set i y) ∧ w.grownBy (w.setCell ⟨g, i * d.sz + j, none⟩ u) (some g) := by
  subst hn
  obtain ⟨cells, hown, hr⟩ := h
  have hs := hown.stored (i * d.sz + j) u
  have hi : i < xs.length := by
    rcases Nat.lt_or_ge i xs.length with q | q
    · exact q
    · rw [List.getElem?_eq_none q] at hx; cases hx
  refine ⟨⟨_, by rw [List.length_set]; exact hs.1, hr.set hx hj fun es h1 h2 => he es h1 fun k hk => ?_⟩, hs.2⟩
  rw [hown.cellAt _ ?_, h2 k hk]
  calc i * d.sz + k < i * d.sz + d.sz := by omega
    _ = (i + 1) * d.sz := by rw [Nat.add_mul, Nat.one_mul]
    _ ≤ xs.length * d.sz := Nat.mul_le_mul_right _ hi

theorem Own.cell {w : World} {base : Nat} {E : TypeId} {g c n : Nat} {xs : List α} (h : Own d w base E (.slice (some ⟨g, 0, none⟩) n c) xs) (hn : n = xs.length) {i : Nat} {x : α} (hx : xs[i]? = some x) :
    ∃ es, d.R es x ∧ (∀ k, k < d.sz → w.cell? ⟨g, i * d.sz + k, none⟩ = es[k]?) ∧ ∀ o, w.frozen? ⟨g, o, none⟩ = false := by
  subst hn
  obtain ⟨cells, hown, hr⟩ := h
  obtain ⟨es, h1, h2⟩ := hr.at_ i x hx
  have hi : i < xs.length := by
    rcases Nat.lt_or_ge i xs.length with q | q
    · exact q
    · rw [List.getElem?_eq_none q] at hx; cases hx
  refine ⟨es, h1, fun k hk => ?_, fun o => hown.frozenAt o⟩
  rw [hown.cellAt _ ?_, h2 k hk]
  calc i * d.sz + k < i * d.sz + d.sz := by omega
    _ = (i + 1) * d.sz := by rw [Nat.add_mul, Nat.one_mul]
    _ ≤ xs.length * d.sz := Nat.mul_le_mul_right _ hi

/-- append(v, y), y one element: behind 'at_builtin'; the goal's world is 'W.alloc' of the variadic's box. -/
theorem wpl_append {P : Program} {ops : Array Oper} {rest : List Oper} {o : Oper} {a : Act} {Q : Exit → Act → World → Prop} {W : World} (base : Nat) (hgd : o.guard = none) (s x : Operand) (t E : TypeId) (z : Value) (bytes : Nat) (u : List Value)
    (ho : o.op = .call { callee := .builtin .append, args := #[s, x], argTypes := #[t, t] })
    (ht : P.underlying t = some (.slice E)) (hinfo : (P.info? E).map (fun i => (i.zero, i.size, i.bytes)) = some (some z, d.sz, bytes)) (hz : z.cells.size = d.sz) (hb0 : 0 < bytes) (hsz : 0 < d.sz)
    (v : Value) (xs : List α) (y : α) (hs : a.eval s = v) (hx : a.eval x = .slice (some ⟨W.heap.size, 0, none⟩) 1 1) (h1 : ∀ c ∈ u, c.oneCell' = true)
    (HO : Own d W base E v xs) (hR : d.R u y) (hbase : base ≤ W.heap.size) (hl : (xs.length + 1) * bytes ≤ 140737488355328)
    (h : ∀ v1 w1, Own d w1 base E v1 (xs ++ [y]) → W.grownBy w1 v.ownBlock → (v1.ownBlock = v.ownBlock ∨ ∃ b, v1.ownBlock = some b ∧ W.heap.size ≤ b) → wpList P ops Q rest (a.put o.dst v1) w1) :
    wpList P ops Q (o :: rest) a (W.alloc (.cells u.toArray E)) := by
  obtain ⟨i0, hi, hzz⟩ := Option.map_eq_some_iff.1 hinfo
  simp only [Prod.mk.injEq] at hzz
  obtain ⟨hz0, hz1, hz2⟩ := hzz
  obtain ⟨cells, hown, hrl⟩ := HO
  have hlen : xs.length + 1 ≤ 140737488355328 := Nat.le_trans (Nat.le_mul_of_pos_right _ hb0) hl
  refine wpList_append_own_at (W.alloc (.cells u.toArray E)) hgd s x t ho base E i0 z d.sz bytes ht hi hz0 hz1 hz2 hz hsz v xs.length cells hs (hown.alloc _) ⟨W.heap.size, 0, none⟩ 1 1 u hx (by rw [d.len hR, Nat.one_mul])
    (World.news_of_block (cs := u.toArray) (t := E) (fr := (0, 0)) (heap_alloc_new W _)) h1 (by simp only [maxLen]; omega) hl (by simp; omega) ?_
  intro v1 w1 hown1 hg _ hat
  refine h v1 w1 ⟨_, by simpa using hown1, hrl.snoc hR⟩ (World.grownBy.trans (World.grownBy_alloc W _ _) hg) ?_
  rcases hat with hat | hat
  · exact .inl hat
  · exact .inr ⟨_, hat, by simp⟩

theorem Own.lit {w : World} {base : Nat} {E : TypeId} (cs : Array Value) (xs : List α) (n : Nat) (hb : base ≤ w.heap.size) (hm : n ≤ maxLen) (hn : n = xs.length) (hs : cs.size = n * d.sz) (hr : RL d cs.toList xs) :
    Own d (w.alloc (.cells cs E)) base E (.slice (some ⟨w.heap.size, 0, none⟩) n n) xs := by
  subst hn
  exact ⟨_, World.ownsRow_lit w cs _ hb hm hs, hr⟩
theorem RL.one {es : List Value} {y : α} (he : d.R es y) : RL d es [y] := by
  have := RL.nil.snoc he
  simpa using this

/-- The same at elements of one cell. -/
theorem Own.stored1 {w : World} {base : Nat} {E : TypeId} {g c n : Nat} {xs : List α} (h1 : d.sz = 1) (h : Own d w base E (.slice (some ⟨g, 0, none⟩) n c) xs) (hn : n = xs.length) {i : Nat} {u : Value} {y : α} (hi : i < xs.length) (he : d.R [u] y) :
    Own d (w.setCell ⟨g, i, none⟩ u) base E (.slice (some ⟨g, 0, none⟩) n c) (xs.set i y) ∧ w.grownBy (w.setCell ⟨g, i, none⟩ u) (some g) := by
  have hx : xs[i]? = some xs[i] := List.getElem?_eq_getElem hi
  have := h.stored hn hx (j := 0) (u := u) (y := y) (by omega) (fun es h2 _ => by
    have := d.len h2
    match es, this with
    | [e], _ => exact he
    | [], h => simp at h; omega
    | _ :: _ :: _, h => simp at h; omega)
  rwa [h1, Nat.mul_one, Nat.add_zero] at this
theorem Own.cell1 {w : World} {base : Nat} {E : TypeId} {g c n : Nat} {xs : List α} (h1 : d.sz = 1) (h : Own d w base E (.slice (some ⟨g, 0, none⟩) n c) xs) (hn : n = xs.length) {i : Nat} (hi : i < xs.length) :
    ∃ u, d.R [u] xs[i] ∧ w.cell? ⟨g, i, none⟩ = some u ∧ w.frozen? ⟨g, i, none⟩ = false := by
  obtain ⟨es, h2, h3, h4⟩ := h.cell hn (List.getElem?_eq_getElem hi)
  have hl := d.len h2
  match es, hl with
  | [u], _ =>
    have := h3 0 (by omega)
    rw [h1, Nat.mul_one, Nat.add_zero] at this
    exact ⟨u, h2, this, h4 i⟩
  | [], h => simp at h; omega
  | _ :: _ :: _, h => simp at h; omega

/-- make([]T, n), whole. -/
theorem made (w : World) (base : Nat) (E : TypeId) (zs : Array Value) (z : α) (hz : d.R zs.toList z) (n : Nat) (hb : base ≤ w.heap.size) (hn : n ≤ maxLen) :
    Own d (w.alloc (.cells (madeCells zs (n * d.sz)) E)) base E (.slice (some ⟨w.heap.size, 0, none⟩) n n) (List.replicate n z) := by
  have h := World.ownsRow_lit w (madeCells zs (n * d.sz)) n (e := E) hb hn (size := d.sz) (size_madeCells _ _)
  refine ⟨_, by rw [List.length_replicate]; exact h, .replicate n zs.toList z hz _ (by rw [Array.length_toList]; exact size_madeCells _ _) fun i j hi hj => ?_⟩
  have hlt : i * d.sz + j < n * d.sz := by
    calc i * d.sz + j < i * d.sz + d.sz := by omega
      _ = (i + 1) * d.sz := by rw [Nat.add_mul, Nat.one_mul]
      _ ≤ n * d.sz := Nat.mul_le_mul_right _ hi
  have hzl : zs.size = d.sz := by rw [← d.len hz]; simp
  have hm : (i * d.sz + j) % zs.size = j := by rw [hzl, Nat.mul_comm, Nat.mul_add_mod, Nat.mod_eq_of_lt hj]
  rw [Array.getElem?_toList]
  unfold madeCells
  rw [Array.getElem?_map, Array.getElem?_range, if_pos hlt, Option.map_some, hm]
  have : j < zs.size := by omega
  simp [this]
end

end Go.Proofs.YtajcbdamgaofcaaDoor
