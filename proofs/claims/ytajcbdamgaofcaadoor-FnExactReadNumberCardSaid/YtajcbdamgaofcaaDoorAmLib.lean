/- Slices of the abstract heap that read as lists. No condition. -/
import Derived.Test.YtajcbdamgaofcaaDoorAmUse
set_option linter.unusedVariables false
set_option linter.unusedSimpArgs false
namespace Go.Am

/-- How a datum lies in cells. -/
structure Enc (α : Type) where
  sz : Nat
  pos : 0 < sz
  enc : α → List Value
  len : ∀ x, (enc x).length = sz

def flat {α : Type} (d : Enc α) : List α → List Value
  | [] => []
  | x :: r => d.enc x ++ flat d r
theorem flat_len {α : Type} (d : Enc α) : ∀ xs, (flat d xs).length = xs.length * d.sz
  | [] => by simp [flat]
  | x :: r => by simp [flat, d.len, flat_len d r, Nat.add_mul]; omega
theorem flat_append {α : Type} (d : Enc α) : ∀ xs ys, flat d (xs ++ ys) = flat d xs ++ flat d ys
  | [], ys => rfl
  | x :: r, ys => by simp [flat, flat_append d r ys]
theorem flat_get {α : Type} (d : Enc α) : ∀ (xs : List α) (i : Nat) (x : α), xs[i]? = some x → ((flat d xs).drop (i * d.sz)).take d.sz = d.enc x
  | [], i, x, h => by simp at h
  | y :: r, 0, x, h => by
    simp at h; subst h
    simp only [flat, Nat.zero_mul, List.drop_zero]
    rw [List.take_append_of_le_length (by rw [d.len]; exact Nat.le_refl _), List.take_of_length_le (by rw [d.len]; exact Nat.le_refl _)]
  | y :: r, i + 1, x, h => by
    simp at h
    have := flat_get d r i x h
    simp only [flat]
    rw [List.drop_append, d.len, List.drop_eq_nil_of_le (by rw [d.len, Nat.add_mul]; omega), List.nil_append, show (i + 1) * d.sz - d.sz = i * d.sz by rw [Nat.add_mul]; omega]
    exact this
theorem flat_take {α : Type} (d : Enc α) : ∀ (xs : List α) (n : Nat), (flat d xs).take (n * d.sz) = flat d (xs.take n)
  | [], n => by simp [flat]
  | x :: r, 0 => by simp [flat]
  | x :: r, n + 1 => by
    simp only [flat, List.take_succ_cons]
    rw [List.take_append, d.len, List.take_of_length_le (by rw [d.len, Nat.add_mul]; omega), show (n + 1) * d.sz - d.sz = n * d.sz by rw [Nat.add_mul]; omega, flat_take d r n]
theorem flat_drop {α : Type} (d : Enc α) : ∀ (xs : List α) (n : Nat), (flat d xs).drop (n * d.sz) = flat d (xs.drop n)
  | [], n => by simp [flat]
  | x :: r, 0 => by simp [flat]
  | x :: r, n + 1 => by
    simp only [flat, List.drop_succ_cons]
    rw [List.drop_append, d.len, List.drop_eq_nil_of_le (by rw [d.len, Nat.add_mul]; omega), List.nil_append, show (n + 1) * d.sz - d.sz = n * d.sz by rw [Nat.add_mul]; omega, flat_drop d r n]
theorem flat_over {α : Type} (d : Enc α) (xs : List α) (i : Nat) (y : α) (h : i < xs.length) : overL (flat d xs) (i * d.sz) (d.enc y) = flat d (xs.set i y) := by
  have e : xs.set i y = xs.take i ++ [y] ++ xs.drop (i + 1) := by
    rw [List.set_eq_take_append_cons_drop, if_pos h]; simp
  unfold overL
  rw [d.len, flat_take, show i * d.sz + d.sz = (i + 1) * d.sz by rw [Nat.add_mul]; omega, flat_drop, e, flat_append, flat_append]
  simp [flat]
theorem flat_rep {α : Type} (d : Enc α) (z : α) (zs : List Value) (hz : zs = d.enc z) : ∀ n, repL n zs = flat d (List.replicate n z)
  | 0 => rfl
  | n + 1 => by
    subst hz
    simp only [repL, List.replicate_succ, flat]
    rw [flat_rep d z _ rfl n]

/-- A slice at a that reads as xs. -/
structure Rd {α : Type} (d : Enc α) (H : Heap) (a : Option Addr) (xs : List α) : Prop where
  sh : a = none ∨ ∃ b off, a = some ⟨b, off, none⟩
  at_ : 0 < xs.length → ∃ b off cs rw, a = some ⟨b, off, none⟩ ∧ H.blk b = some (.cells cs d.sz rw) ∧ off + xs.length * d.sz ≤ cs.length ∧ (cs.drop off).take (xs.length * d.sz) = flat d xs
/-- A slice's value. -/
abbrev sv {α : Type} (a : Option Addr) (xs : List α) : Value := .slice a xs.length xs.length

section
variable {α : Type} {d : Enc α} {H H' : Heap} {a : Option Addr} {xs : List α}

theorem Ext.refl (H : Heap) : Ext H H := ⟨Nat.le_refl _, fun _ _ h => h⟩
theorem Ext.trans {H H' H'' : Heap} (h : Ext H H') (h' : Ext H' H'') : Ext H H'' := ⟨Nat.le_trans h.next h'.next, fun b c q => h'.same b c (h.same b c q)⟩
theorem Ext.push (H : Heap) (c : Blk) : Ext H (H.push c) := ⟨Nat.le_succ _, fun b x h => by
  show (if b = H.next then some c else H.blk b) = some x
  have := H.lt b x h
  rw [if_neg (by omega)]; exact h⟩
theorem push_blk (H : Heap) (c : Blk) : (H.push c).blk H.next = some c := by simp [Heap.push]
theorem push_blk_ne (H : Heap) (c : Blk) {b : Nat} (h : b ≠ H.next) : (H.push c).blk b = H.blk b := by simp [Heap.push, h]
theorem push_next (H : Heap) (c : Blk) : (H.push c).next = H.next + 1 := rfl

theorem Rd.mono (h : Rd d H a xs) (e : Ext H H') : Rd d H' a xs := ⟨h.sh, fun hp => by
  obtain ⟨b, off, cs, rw_, h1, h2, h3⟩ := h.at_ hp
  exact ⟨b, off, cs, rw_, h1, e.same _ _ h2, h3⟩⟩
theorem Rd.nil : Rd d H none ([] : List α) := ⟨.inl rfl, fun h => absurd h (Nat.lt_irrefl 0)⟩
theorem Rd.empty {b off : Nat} : Rd d H (some ⟨b, off, none⟩) ([] : List α) := ⟨.inr ⟨_, _, rfl⟩, fun h => absurd h (Nat.lt_irrefl 0)⟩
/-- A whole block. -/
theorem Rd.blk {b : Nat} {rw_ : Bool} (h : H.blk b = some (.cells (flat d xs) d.sz rw_)) : Rd d H (some ⟨b, 0, none⟩) xs :=
  ⟨.inr ⟨_, _, rfl⟩, fun _ => ⟨b, 0, flat d xs, rw_, rfl, h, by rw [flat_len]; omega, by rw [List.drop_zero, ← flat_len, List.take_of_length_le (Nat.le_refl _)]⟩⟩
theorem Rd.push (H : Heap) (rw_ : Bool) : Rd d (H.push (.cells (flat d xs) d.sz rw_)) (some ⟨H.next, 0, none⟩) xs := Rd.blk (push_blk _ _)

/-- Its i-th element's cells. -/
theorem Rd.run (h : Rd d H a xs) {i : Nat} {x : α} (hx : xs[i]? = some x) : ∃ b off, a = some ⟨b, off, none⟩ ∧ H.run? b (off + i * d.sz) d.sz = some (d.enc x) := by
  have hlt : i < xs.length := (List.getElem?_eq_some_iff.1 hx).1
  obtain ⟨b, off, cs, rw_, h1, h2, h3, h4⟩ := h.at_ (by omega)
  refine ⟨b, off, h1, ?_⟩
  have hle : (i + 1) * d.sz ≤ xs.length * d.sz := Nat.mul_le_mul_right _ (by omega)
  rw [Nat.add_mul] at hle
  have hg := flat_get d xs i x hx
  rw [← h4] at hg
  unfold Heap.run?
  rw [h2]
  simp only
  rw [if_pos (by omega)]
  rw [← hg, List.drop_take, List.take_take, List.drop_drop]
  congr 2
  omega
theorem run_cell {b o : Nat} {v : Value} (h : H.run? b o 1 = some [v]) : H.cell? b o = some v := by
  unfold Heap.run? at h
  unfold Heap.cell?
  split at h
  · rename_i cs esz rw_ hb
    split at h
    · cases hq : cs.drop o with
      | nil => rw [hq] at h; simp at h
      | cons y r =>
        rw [hq] at h
        simp at h
        have : (cs.drop o)[0]? = some y := by rw [hq]; rfl
        rw [List.getElem?_drop] at this
        rw [← h]; simpa using this
    · cases h
  · cases h
end

theorem ret_sv {α : Type} {a : Option Addr} {n : Nat} {xs : List α} (h : xs.length = n) : AEnd.ret (.slice a n n) = .ret (sv a xs) := by rw [← h]
theorem sv_eq {a : Option Addr} {n m : Nat} (h : n = m) : some (Value.slice a n n) = some (.slice a m m) := by rw [h]
section
variable {α : Type} {d : Enc α} {H : Heap} {xs : List α}
theorem Rd.ez {b off : Nat} (h : Rd d H (some ⟨b, off, none⟩) xs) (hp : 0 < xs.length) : H.ezAt b d.sz := by
  obtain ⟨b', off', cs, rw_, h1, h2, _⟩ := h.at_ hp
  cases h1
  exact ⟨cs, rw_, h2⟩
theorem Rd.sub {b off l n : Nat} (h : Rd d H (some ⟨b, off, none⟩) xs) (hn : l + n ≤ xs.length) : Rd d H (some ⟨b, off + l * d.sz, none⟩) ((xs.drop l).take n) := by
  refine ⟨.inr ⟨_, _, rfl⟩, fun hp => ?_⟩
  have hlen : ((xs.drop l).take n).length = n := by simp; omega
  rw [hlen] at hp ⊢
  obtain ⟨b', off', cs, rw_, h1, h2, h3, h4⟩ := h.at_ (by omega)
  cases h1
  have hle : (l + n) * d.sz ≤ xs.length * d.sz := Nat.mul_le_mul_right _ hn
  rw [Nat.add_mul] at hle
  refine ⟨b, _, cs, rw_, rfl, h2, by omega, ?_⟩
  rw [← flat_take, ← flat_drop, ← h4, List.drop_take, List.take_take, List.drop_drop, Nat.min_eq_left (by omega)]
end

theorem run_cells {H : Heap} {b o n : Nat} {l : List Value} (h : H.run? b o n = some l) {j : Nat} {u : Value} (hj : l[j]? = some u) : H.cell? b (o + j) = some u := by
  unfold Heap.run? at h
  unfold Heap.cell?
  split at h
  · split at h
    · have h := Option.some.inj h
      rw [← h, List.getElem?_take] at hj
      split at hj
      · rw [List.getElem?_drop] at hj; exact hj
      · cases hj
    · cases h
  · cases h
/-- Data of one cell. -/
def Enc.one {α : Type} (f : α → Value) : Enc α := ⟨1, Nat.one_pos, fun x => [f x], fun _ => rfl⟩
abbrev dInt : Enc Int := Enc.one (Value.int .i64)
abbrev dFlt : Enc Nat := Enc.one (Value.float .f64)
abbrev dBool : Enc Bool := Enc.one Value.bool
abbrev dByte : Enc Int := Enc.one (Value.int .u8)

section
variable {α : Type} {f : α → Value} {H H' : Heap} {a : Option Addr} {xs : List α}
/-- A load of a one-cell element. -/
theorem Rd.cell (h : Rd (Enc.one f) H a xs) {i : Nat} {x : α} (hx : xs[i]? = some x) : ∃ b off, a = some ⟨b, off, none⟩ ∧ H.cell? b (off + i * 1) = some (f x) := by
  obtain ⟨b, off, h1, h2⟩ := h.run hx
  exact ⟨b, off, h1, run_cell h2⟩
end

/-! What is stored into a block that was just made. -/
theorem Heap.ext' {H H' : Heap} (h1 : H.next = H'.next) (h2 : ∀ b, H.blk b = H'.blk b) : H = H' := Heap.eq_of h1 h2
theorem put_blk (H : Heap) (k : Nat) (c : Blk) (b : Nat) (hk : k < H.next) : (H.put k c).blk b = if b = k then some c else H.blk b := by
  show (if b = k then (if b < H.next then some c else none) else H.blk b) = _
  split
  · rename_i h; subst h; rw [if_pos hk]
  · rfl
theorem stor_push (H : Heap) (cs : List Value) (esz : Nat) (rw_ : Bool) (o : Nat) (l : List Value) : (H.push (.cells cs esz rw_)).stor H.next o l = H.push (.cells (overL cs o l) esz rw_) := by
  rw [Heap.stor_eq]
  rw [push_blk]
  refine Heap.ext' rfl fun b => ?_
  simp only
  rw [put_blk _ _ _ _ (Nat.lt_succ_self _)]
  by_cases h : b = H.next
  · rw [if_pos h, h, push_blk]
  · rw [if_neg h, push_blk_ne _ _ h, push_blk_ne _ _ h]
theorem stor_push_ne (H : Heap) (c : Blk) {b : Nat} (hb : b < H.next) (o : Nat) (l : List Value) : (H.push c).stor b o l = (H.stor b o l).push c := Heap.ext' rfl fun x => by
  show (if x = b then (match (H.push c).blk b with
    | some (.cells cs esz rw) => some (.cells (overL cs o l) esz rw)
    | c => c) else (if x = H.next then some c else H.blk x)) = if x = H.next then some c else (if x = b then (match H.blk b with
    | some (.cells cs esz rw) => some (.cells (overL cs o l) esz rw)
    | c => c) else H.blk x)
  rw [push_blk_ne _ _ (by omega)]
  by_cases h1 : x = b
  · rw [if_pos h1, if_neg (show ¬ x = H.next by omega), if_pos h1]
  · rw [if_neg h1, if_neg h1]
theorem stOK_push (H : Heap) (cs : List Value) (esz : Nat) (o n : Nat) (h : o + n ≤ cs.length) : (H.push (.cells cs esz true)).stOK H.next o n := ⟨cs, esz, push_blk _ _, h⟩

theorem wrap_i64 {x : Int} (h0 : -9223372036854775808 ≤ x) (h1 : x ≤ 9223372036854775807) : IntKind.i64.wrap x = x := by
  simp only [IntKind.wrap, IntKind.signed, IntKind.bits]
  simp
  omega
theorem wrap_nat {k : Nat} (h : k < 9223372036854775807) : IntKind.i64.wrap ((k : Int) + 1) = ((k + 1 : Nat) : Int) := by
  rw [wrap_i64 (by omega) (by omega)]; rfl

theorem take_set {α : Type} (xs : List α) (z : α) {k : Nat} (h : k < xs.length) : (xs.take k ++ List.replicate (xs.length - k) z).set k xs[k] = xs.take (k + 1) ++ List.replicate (xs.length - (k + 1)) z := by
  rw [List.set_append, if_neg (by simp; omega)]
  obtain ⟨d, hd⟩ : ∃ d, xs.length - k = d + 1 := ⟨xs.length - k - 1, by omega⟩
  rw [hd, List.replicate_succ]
  have : (k - (xs.take k).length) = 0 := by simp; omega
  rw [this, List.set_cons_zero, show xs.length - (k + 1) = d by omega, List.take_succ_eq_append_getElem h, List.append_assoc]
  rfl
/-- A store of an element into a block that was just made. -/
theorem stor_elem {α : Type} (d : Enc α) (H : Heap) (xs : List α) {k o : Nat} {l : List Value} (y : α) (hk : k < xs.length) (ho : o = k * d.sz) (hl : l = d.enc y) :
    (H.push (.cells (flat d xs) d.sz true)).stor H.next o l = H.push (.cells (flat d (xs.set k y)) d.sz true) := by
  subst ho; subst hl
  rw [stor_push, flat_over d xs k y hk]
theorem stOK_elem {α : Type} (d : Enc α) (H : Heap) (xs : List α) {k o n : Nat} (hk : k < xs.length) (ho : o = k * d.sz) (hn : n = d.sz) : (H.push (.cells (flat d xs) d.sz true)).stOK H.next o n := by
  subst ho; subst hn
  refine stOK_push _ _ _ _ _ ?_
  rw [flat_len]
  have : (k + 1) * d.sz ≤ xs.length * d.sz := Nat.mul_le_mul_right _ hk
  rw [Nat.add_mul] at this
  omega

/-! A slice of the walk's own: nil, or a whole block at 'base' or above. -/
theorem kill_blk (H : Heap) (k b : Nat) : (H.kill k).blk b = if b = k then none else H.blk b := rfl
theorem Ext.kill {H H' : Heap} (e : Ext H H') {b : Nat} (hb : H.next ≤ b) : Ext H (H'.kill b) := ⟨e.next, fun x c q => by
  have := H.lt x c q
  rw [kill_blk, if_neg (by omega)]; exact e.same x c q⟩
theorem Ext.stor {H H' : Heap} (e : Ext H H') {b o : Nat} {l : List Value} (hb : H.next ≤ b) : Ext H (H'.stor b o l) := by
  rw [Heap.stor_eq]
  split
  · rename_i cs esz rw_ hc
    exact ⟨e.next, fun x c q => by
      have := H.lt x c q
      rw [put_blk _ _ _ _ (H'.lt _ _ hc), if_neg (by omega)]; exact e.same x c q⟩
  · exact e
theorem Ext.push' {H H' : Heap} (e : Ext H H') (c : Blk) : Ext H (H'.push c) := e.trans (Ext.push _ _)
inductive Buf {α : Type} (d : Enc α) (H : Heap) (base : Nat) : Option Addr → List α → Prop
  | nil : Buf d H base none []
  | blk {b : Nat} {xs : List α} (hb : base ≤ b) (h : H.blk b = some (.cells (flat d xs) d.sz true)) : Buf d H base (some ⟨b, 0, none⟩) xs
section
variable {α : Type} {d : Enc α} {H H' : Heap} {base : Nat} {a : Option Addr} {xs : List α}
theorem Buf.rd (h : Buf d H base a xs) : Rd d H a xs := by cases h with
  | nil => exact Rd.nil
  | blk _ h => exact Rd.blk h
theorem Buf.own (h : Buf d H base a xs) : H.ownO a xs.length d.sz (flat d xs) := by cases h with
  | nil => exact rfl
  | blk _ h => exact ⟨_, h, by rw [flat_len]; omega, by rw [List.drop_zero, ← flat_len, List.take_of_length_le (Nat.le_refl _)]⟩
theorem Buf.mono (h : Buf d H base a xs) (e : Ext H H') : Buf d H' base a xs := by cases h with
  | nil => exact .nil
  | blk hb h => exact .blk hb (e.same _ _ h)
theorem Buf.killO {H0 : Heap} (h : Buf d H base a xs) (e : Ext H0 H) (hb : H0.next ≤ base) : Ext H0 (H.killO a) := by cases h with
  | nil => exact e
  | blk hb' h => exact e.kill (Nat.le_trans hb hb')
theorem killO_next (H : Heap) (a : Option Addr) : (H.killO a).next = H.next := rfl
/-- What was appended to. -/
theorem Buf.app {news : List Value} {ys : List α} (h : Buf d H base a xs) (hn : news = flat d ys) (hb : base ≤ H.next) :
    Buf d ((H.killO a).push (.cells (flat d xs ++ news) d.sz true)) base (some ⟨H.next, 0, none⟩) (xs ++ ys) := by
  subst hn
  refine .blk hb ?_
  rw [flat_append]
  have := push_blk (H.killO a) (.cells (flat d xs ++ flat d ys) d.sz true)
  rw [killO_next] at this
  exact this
end
theorem run_push (H : Heap) (cs : List Value) (esz : Nat) (rw_ : Bool) {o n : Nat} (h : o + n ≤ cs.length) : (H.push (.cells cs esz rw_)).run? H.next o n = some ((cs.drop o).take n) := by
  unfold Heap.run?
  rw [push_blk]
  simp only
  rw [if_pos h]
theorem cell_push (H : Heap) (cs : List Value) (esz : Nat) (rw_ : Bool) (o : Nat) : (H.push (.cells cs esz rw_)).cell? H.next o = cs[o]? := by
  unfold Heap.cell?
  rw [push_blk]

/-- A contract of the concrete walk, for a function that only computes. -/
theorem PC_of_calls {P : Program} {f : FuncId} {fn : Func} (hf : P.funcs[f]? = some fn) (hb : fn.body.isSome = true) (hnm : (fn.name == "runtime.NumGoroutine") = false) {args : List Value} {v : Value}
    (h : ∀ (ρ : Rho) (cargs : List Value) (w : World), VRels ρ args cargs → Calls P f cargs.toArray w fun e w' => ∃ v', e = .returned v' ∧ VRel ρ v v' ∧ Same w w') (H : Heap) : PC P f args H v where
  run := fun ρ own w cargs hr hnp hargs => by
    have hrun : (callFunc f cargs.toArray).run P w = .ok (.enter f cargs.toArray) w := by
      have hbn : fn.body.isNone = false := by cases hq : fn.body <;> simp [hq] at hb ⊢
      simp only [callFunc, Sem.run_bind, run_program, Result.andThen_ok, hf, hnm, hbn]
      rfl
    unfold CallRun
    rw [hrun]
    refine (h ρ cargs w hargs).mono fun e w' ⟨v', h1, h2, h3⟩ => ?_
    subst h1
    exact ⟨.ret v, H, ρ, own, ⟨rfl, rfl⟩, h2, ⟨hr.lt, fun b L cs esz rw_ k1 k2 => by rw [h3.heap]; exact hr.cells b L cs esz rw_ k1 k2, fun b L kk es k1 k2 => (hr.maps b L kk es k1 k2).mono (Rho.le_refl _) rfl (by rw [h3.heap])⟩, hnp, (Guar.refl ρ own w).of_heap h3⟩
end Go.Am
