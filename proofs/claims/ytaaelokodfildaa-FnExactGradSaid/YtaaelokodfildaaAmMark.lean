/- What changes in a range of blocks; marks in the fields of elements. No condition. -/
import Derived.Test.YtaaelokodfildaaAmLib
set_option linter.unusedVariables false
set_option linter.unusedSimpArgs false
namespace Go.Am

/-- Only blocks from lo on and below hi change. -/
structure Out (lo hi : Nat) (H H' : Heap) : Prop where
  next : H.next ≤ H'.next
  same : ∀ b c, (b < lo ∨ hi ≤ b) → H.blk b = some c → H'.blk b = some c
/-- Where a slice that is not empty lies. -/
def In {α : Type} (p : Option Addr) (lo hi : Nat) (xs : List α) : Prop := 0 < xs.length → ∃ b o, p = some ⟨b, o, none⟩ ∧ lo ≤ b ∧ b < hi
/-- A slice that reads as xs and lies in a range of blocks. -/
structure RdAt {α : Type} (d : Enc α) (H : Heap) (lo hi : Nat) (p : Option Addr) (xs : List α) : Prop where
  rd : Rd d H p xs
  in_ : In p lo hi xs
/-- All but one block is what it was. -/
structure But (a : Option Addr) (H H' : Heap) : Prop where
  next : H'.next = H.next
  same : ∀ x c, (∀ o, a ≠ some ⟨x, o, none⟩) → H.blk x = some c → H'.blk x = some c
section
variable {α : Type} {d : Enc α} {H H' H'' : Heap} {lo hi lo' hi' base : Nat} {a p : Option Addr} {xs : List α}
theorem Out.of_ext (h : Ext H H') : Out lo hi H H' := ⟨h.next, fun b c _ q => h.same b c q⟩
theorem Out.trans (h : Out lo hi H H') (h' : Out lo hi H' H'') : Out lo hi H H'' := ⟨Nat.le_trans h.next h'.next, fun b c q e => h'.same b c q (h.same b c q e)⟩
theorem Out.wide (h : Out lo hi H H') (h1 : lo' ≤ lo) (h2 : hi ≤ hi') : Out lo' hi' H H' := ⟨h.next, fun b c q e => h.same b c (by omega) e⟩
theorem Rd.at (h : Rd d H p xs) (hn : H.next ≤ hi) : RdAt d H 0 hi p xs := ⟨h, fun hp => by
  obtain ⟨b, o, cs, rw_, h1, h2, _⟩ := h.at_ hp
  have := H.lt _ _ h2
  exact ⟨b, o, h1, Nat.zero_le _, by omega⟩⟩
theorem Buf.atR (h : Buf d H base p xs) : RdAt d H base H.next p xs := ⟨h.rd, fun hp => by
  cases h with
  | nil => simp at hp
  | blk hb h => exact ⟨_, _, rfl, hb, H.lt _ _ h⟩⟩
theorem RdAt.mono (h : RdAt d H lo hi p xs) (e : Ext H H') : RdAt d H' lo hi p xs := ⟨h.rd.mono e, h.in_⟩
theorem RdAt.out (h : RdAt d H lo hi p xs) (e : Out lo' hi' H H') (hd : hi ≤ lo' ∨ hi' ≤ lo) : RdAt d H' lo hi p xs := ⟨⟨h.rd.sh, fun hp => by
  obtain ⟨b, o, cs, rw_, h1, h2, h3⟩ := h.rd.at_ hp
  obtain ⟨b', o', k1, k2, k3⟩ := h.in_ hp
  rw [h1] at k1; cases k1
  exact ⟨b, o, cs, rw_, h1, e.same b _ (by omega) h2, h3⟩⟩, h.in_⟩
theorem Buf.lt (h : Buf d H base p xs) {b o : Nat} (hp : p = some ⟨b, o, none⟩) : base ≤ b ∧ b < H.next := by
  cases h with
  | nil => cases hp
  | blk hb h => cases hp; exact ⟨hb, H.lt _ _ h⟩
theorem Buf.out (h : Buf d H base p xs) (e : Out lo hi H H') (hd : ∀ b o, p = some ⟨b, o, none⟩ → b < lo ∨ hi ≤ b) : Buf d H' base p xs := by
  cases h with
  | nil => exact .nil
  | blk hb h => exact .blk hb (e.same _ _ (hd _ _ rfl) h)
theorem But.out (h : But a H H') (hd : ∀ b o, a = some ⟨b, o, none⟩ → lo ≤ b ∧ b < hi) : Out lo hi H H' := ⟨Nat.le_of_eq h.next.symm, fun x c q e => h.same x c (fun o ho => by have := hd x o ho; omega) e⟩
theorem But.refl (a : Option Addr) (H : Heap) : But a H H := ⟨rfl, fun _ _ _ h => h⟩
theorem But.trans (h : But a H H') (h' : But a H' H'') : But a H H'' := ⟨h'.next.trans h.next, fun x c hx hc => h'.same x c hx (h.same x c hx hc)⟩
theorem Buf.but (h : Buf d H base p xs) (hb : But a H H') (ha : ∀ b o, a = some ⟨b, o, none⟩ → p ≠ some ⟨b, 0, none⟩) : Buf d H' base p xs := by
  cases h with
  | nil => exact .nil
  | blk hb' h => exact .blk hb' (hb.same _ _ (fun o e => ha _ o e rfl) h)
end
theorem overL_one (cs : List Value) (o : Nat) (v : Value) (h : o < cs.length) : overL cs o [v] = cs.set o v := by
  unfold overL
  rw [List.set_eq_take_append_cons_drop, if_pos h]
  simp
theorem flat_fld {α : Type} (d : Enc α) (xs : List α) {i f : Nat} {x y : α} {v : Value} (hi : i < xs.length) (hf : f < d.sz) (hy : d.enc y = (d.enc x).set f v) :
    overL (flat d (xs.set i x)) (i * d.sz + f) [v] = flat d (xs.set i y) := by
  have hlen : i * d.sz + f < (flat d (xs.set i x)).length := by
    rw [flat_len, List.length_set]
    have : (i + 1) * d.sz ≤ xs.length * d.sz := Nat.mul_le_mul_right _ hi
    rw [Nat.add_mul] at this
    omega
  rw [overL_one _ _ _ hlen]
  have e : ∀ z : α, flat d (xs.set i z) = flat d (xs.take i) ++ (d.enc z ++ flat d (xs.drop (i + 1))) := fun z => by
    rw [List.set_eq_take_append_cons_drop, if_pos hi, flat_append]; rfl
  have hl : (flat d (xs.take i)).length = i * d.sz := by rw [flat_len, List.length_take, Nat.min_eq_left (by omega)]
  rw [e, e, hy, List.set_append, if_neg (by omega), hl, List.set_append, if_pos (by rw [d.len]; omega)]
  rw [show i * d.sz + f - i * d.sz = f by omega]
/-- A store into a field of an element. -/
theorem stor_fld {α : Type} (d : Enc α) {H : Heap} {b : Nat} {xs : List α} {i f o : Nat} {x : α} (h : H.blk b = some (.cells (flat d (xs.set i x)) d.sz true)) (hi : i < xs.length) (ho : o = i * d.sz + f) (hf : f < d.sz) (y : α) {v : Value} (hy : d.enc y = (d.enc x).set f v) :
    (H.stor b o [v]).blk b = some (.cells (flat d (xs.set i y)) d.sz true) ∧ But (some ⟨b, 0, none⟩) H (H.stor b o [v]) ∧ H.stOK b o 1 := by
  subst ho
  have hb := H.lt _ _ h
  rw [Heap.stor_put h, flat_fld d xs hi hf hy]
  refine ⟨by rw [put_blk _ _ _ _ hb, if_pos rfl], ⟨rfl, fun z c hx hc => ?_⟩, _, _, h, ?_⟩
  · have hne : z ≠ b := fun e => hx 0 (by rw [e])
    rw [put_blk _ _ _ _ hb, if_neg hne]; exact hc
  · rw [flat_len, List.length_set]
    have : (i + 1) * d.sz ≤ xs.length * d.sz := Nat.mul_le_mul_right _ hi
    rw [Nat.add_mul] at this
    omega

/-! what is left when a slice's block is taken away -/
theorem unkillO (K : Heap) (o : Option Addr) : Ext (K.killO o) K := ⟨Nat.le_refl _, fun b c h => by
  cases o with
  | none => exact h
  | some a =>
    have h : (if b = a.block then none else K.blk b) = some c := h
    split at h
    · cases h
    · exact h⟩
theorem killO_mono {K K2 : Heap} (e : Ext K K2) (o : Option Addr) : Ext (K.killO o) (K2.killO o) := ⟨e.next, fun b c h => by
  cases o with
  | none => exact e.same b c h
  | some a =>
    have h : (if b = a.block then none else K.blk b) = some c := h
    show (if b = a.block then none else K2.blk b) = some c
    split at h
    · cases h
    · rename_i hb; rw [if_neg hb]; exact e.same b c h⟩
/-- Behind an append. -/
theorem killO_app {K K2 : Heap} (e : Ext K K2) (o : Option Addr) (c' : Blk) : Ext (K.killO o) (((K2.killO o).push c').killO (some ⟨K2.next, 0, none⟩)) := ⟨Nat.le_succ_of_le e.next, fun b x h => by
  have h2 := (killO_mono e o).same b x h
  have hlt : b < K2.next := (K2.killO o).lt b x h2
  show (if b = K2.next then none else if b = K2.next then some c' else (K2.killO o).blk b) = some x
  rw [if_neg (by omega), if_neg (by omega)]
  exact h2⟩
theorem Buf.killed {α β : Type} {d : Enc α} {d' : Enc β} {K K2 : Heap} {base base' : Nat} {o p : Option Addr} {xs : List α} {ys : List β} (ho : Buf d K base o xs) (h : Buf d' K2 base' p ys) (hb : K.next ≤ base') : Rd d' (K2.killO o) p ys := by
  cases h with
  | nil => exact Rd.nil
  | blk h1 h2 =>
    refine Rd.blk (rw_ := true) ?_
    cases ho with
    | nil => exact h2
    | blk g1 g2 =>
      have hlt := K.lt _ _ g2
      rename_i b1 b2
      first
        | (show (if b1 = b2 then none else K2.blk b1) = _; rw [if_neg (by omega)]; exact h2)
        | (show (if b2 = b1 then none else K2.blk b2) = _; rw [if_neg (by omega)]; exact h2)
theorem sv_snoc {α : Type} (a : Option Addr) (xs ys : List α) {n : Nat} (h : ys.length = n) : Value.slice a (xs.length + n) (xs.length + n) = sv a (xs ++ ys) := by
  subst h
  show _ = Value.slice a (xs ++ ys).length (xs ++ ys).length
  rw [List.length_append]
end Go.Am
