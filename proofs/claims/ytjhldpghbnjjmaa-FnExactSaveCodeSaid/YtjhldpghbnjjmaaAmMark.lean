/- What changes in a range of blocks; marks in the fields of elements. No condition. -/
import Derived.Test.YtjhldpghbnjjmaaAmLib
set_option linter.unusedVariables false
set_option linter.unusedSimpArgs false
namespace Go.Am

/-- Only blocks from lo on and below hi change. -/
structure Out (lo hi : Nat) (H H' : Heap) : Prop where
  next : H.next ≤ H'.next
  same : ∀ b c, (b < lo ∨ hi ≤ b) → H.blk b = some c → H'.blk b = some c
/-- Where a slice that is not empty lies. -/
def In {α : Type} (p : Option Addr) (lo hi : Nat) (xs : List α) : Prop := 0 < xs.length → ∃ b o, p = some ⟨b, o, none⟩ ∧ lo ≤ b ∧ b < hi
/-- A slice that reads as xs and lies in a range of blocks. -/
structure RdAt {α : Type} (d : Enc α) (H : Heap) (lo hi : Nat) (p : Option Addr) (xs : List α) : Prop where
  rd : Rd d H p xs
  in_ : In p lo hi xs
/-- All but one block is what it was. -/
structure But (a : Option Addr) (H H' : Heap) : Prop where
  next : H'.next = H.next
  same : ∀ x c, (∀ o, a ≠ some ⟨x, o, none⟩) → H.blk x = some c → H'.blk x = some c
section
variable {α : Type} {d : Enc α} {H H' H'' : Heap} {lo hi lo' hi' base : Nat} {a p : Option Addr} {xs : List α}
theorem Out.of_ext (h : Ext H H') : Out lo hi H H' := ⟨h.next, fun b c _ q => h.same b c q⟩
theorem Out.trans (h : Out lo hi H H') (h' : Out lo hi H' H'') : Out lo hi H H'' := ⟨Nat.le_trans h.next h'.next, fun b c q e => h'.same b c q (h.same b c q e)⟩
theorem Out.wide (h : Out lo hi H H') (h1 : lo' ≤ lo) (h2 : hi ≤ hi') : Out lo' hi' H H' := ⟨h.next, fun b c q e => h.same b c (by omega) e⟩
theorem Rd.at (h : Rd d H p xs) (hn : H.next ≤ hi) : RdAt d H 0 hi p xs := ⟨h, fun hp => by
  obtain ⟨b, o, cs, rw_, h1, h2, _⟩ := h.at_ hp
  have := H.lt _ _ h2
  exact ⟨b, o, h1, Nat.zero_le _, by omega⟩⟩
theorem Buf.atR (h : Buf d H base p xs) : RdAt d H base H.next p xs := ⟨h.rd, fun hp => by
  cases h with
  | nil => simp at hp
  | blk hb h => exact ⟨_, _, rfl, hb, H.lt _ _ h⟩⟩
theorem RdAt.mono (h : RdAt d H lo hi p xs) (e : Ext H H') : RdAt d H' lo hi p xs := ⟨h.rd.mono e, h.in_⟩
theorem RdAt.out (h : RdAt d H lo hi p xs) (e : Out lo' hi' H H') (hd : hi ≤ lo' ∨ hi' ≤ lo) : RdAt d H' lo hi p xs := ⟨⟨h.rd.sh, fun hp => by
  obtain ⟨b, o, cs, rw_, h1, h2, h3⟩ := h.rd.at_ hp
  obtain ⟨b', o', k1, k2, k3⟩ := h.in_ hp
  rw [h1] at k1; cases k1
  exact ⟨b, o, cs, rw_, h1, e.same b _ (by omega) h2, h3⟩⟩, h.in_⟩
theorem Buf.lt (h : Buf d H base p xs) {b o : Nat} (hp : p = some ⟨b, o, none⟩) : base ≤ b ∧ b < H.next := by
  cases h with
  | nil => cases hp
  | blk hb h => cases hp; exact ⟨hb, H.lt _ _ h⟩
theorem Buf.out (h : Buf d H base p xs) (e : Out lo hi H H') (hd : ∀ b o, p = some ⟨b, o, none⟩ → b < lo ∨ hi ≤ b) : Buf d H' base p xs := by
  cases h with
  | nil => exact .nil
  | blk hb h => exact .blk hb (e.same _ _ (hd _ _ rfl) h)
theorem But.out (h : But a H H') (hd : ∀ b o, a = some ⟨b, o, none⟩ → lo ≤ b ∧ b < hi) : Out lo hi H H' := ⟨Nat.le_of_eq h.next.symm, fun x c q e => h.same x c (fun o ho => by have := hd x o ho; omega) e⟩
theorem But.refl (a : Option Addr) (H : Heap) : But a H H := ⟨rfl, fun _ _ _ h => h⟩
theorem But.trans (h : But a H H') (h' : But a H' H'') : But a H H'' := ⟨h'.next.trans h.next, fun x c hx hc => h'.same x c hx (h.same x c hx hc)⟩
theorem Buf.but (h : Buf d H base p xs) (hb : But a H H') (ha : ∀ b o, a = some ⟨b, o, none⟩ → p ≠ some ⟨b, 0, none⟩) : Buf d H' base p xs := by
  cases h with
  | nil => exact .nil
  | blk hb' h => exact .blk hb' (hb.same _ _ (fun o e => ha _ o e rfl) h)
end
theorem overL_one (cs : List Value) (o : Nat) (v : Value) (h : o < cs.length) : overL cs o [v] = cs.set o v := by
  unfold overL
  rw [List.set_eq_take_append_cons_drop, if_pos h]
  simp
theorem flat_fld {α : Type} (d : Enc α) (xs : List α) {i f : Nat} {x y : α} {v : Value} (hi : i < xs.length) (hf : f < d.sz) (hy : d.enc y = (d.enc x).set f v) :
    overL (flat d (xs.set i x)) (i * d.sz + f) [v] = flat d (xs.set i y) := by
  have hlen : i * d.sz + f < (flat d (xs.set i x)).length := by
    rw [flat_len, List.length_set]
    have : (i + 1) * d.sz ≤ xs.length * d.sz := Nat.mul_le_mul_right _ hi
    rw [Nat.add_mul] at this
    omega
  rw [overL_one _ _ _ hlen]
  have e : ∀ z : α, flat d (xs.set i z) = flat d (xs.take i) ++ (d.enc z ++ flat d (xs.drop (i + 1))) := fun z => by
    rw [List.set_eq_take_append_cons_drop, if_pos hi, flat_append]; rfl
  have hl : (flat d (xs.take i)).length = i * d.sz := by rw [flat_len, List.length_take, Nat.min_eq_left (by omega)]
  rw [e, e, hy, List.set_append, if_neg (by omega), hl, List.set_append, if_pos (by rw [d.len]; omega)]
  rw [show i * d.sz + f - i * d.sz = f by omega]
/-- A store into a field of an element. -/
theorem stor_fld {α : Type} (d : Enc α) {H : Heap} {b : Nat} {xs : List α} {i f o : Nat} {x : α} (h : H.blk b = some (.cells (flat d (xs.set i x)) d.sz true)) (hi : i < xs.length) (ho : o = i * d.sz + f) (hf : f < d.sz) (y : α) {v : Value} (hy : d.enc y = (d.enc x).set f v) :
    (H.stor b o [v]).blk b = some (.cells (flat d (xs.set i y)) d.sz true) ∧ But (some ⟨b, 0, none⟩) H (H.stor b o [v]) ∧ H.stOK b o 1 := by
  subst ho
  have hb := H.lt _ _ h
  rw [Heap.stor_put h, flat_fld d xs hi hf hy]
  refine ⟨by rw [put_blk _ _ _ _ hb, if_pos rfl], ⟨rfl, fun z c hx hc => ?_⟩, _, _, h, ?_⟩
  · have hne : z ≠ b := fun e => hx 0 (by rw [e])
    rw [put_blk _ _ _ _ hb, if_neg hne]; exact hc
  · rw [flat_len, List.length_set]
    have : (i + 1) * d.sz ≤ xs.length * d.sz := Nat.mul_le_mul_right _ hi
    rw [Nat.add_mul] at this
    omega
end Go.Am
