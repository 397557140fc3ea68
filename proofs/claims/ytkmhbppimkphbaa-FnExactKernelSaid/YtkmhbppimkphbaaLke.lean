/- FnExactKernel: the walk. Condition: the arguments' slices read. -/
import Derived.Test.YtkmhbppimkphbaaKerc
import Derived.Test.YtkmhbppimkphbaaHel
set_option linter.unusedVariables false
set_option linter.unusedSimpArgs false
namespace Go.Proofs.Ytkmhbppimkphbaa
open Go.Am

/-- Where a slice that is not empty lies. -/
def In {α : Type} (p : Option Addr) (lo hi : Nat) (xs : List α) : Prop := 0 < xs.length → ∃ b o, p = some ⟨b, o, none⟩ ∧ lo ≤ b ∧ b < hi
section
variable {α : Type} {d : Enc α} {H H' : Heap} {a p : Option Addr} {xs : List α} {lo hi base : Nat}
theorem _root_.Go.Am.Rd.in_ (h : Rd d H p xs) : In p 0 H.next xs := fun hp => by
  obtain ⟨b, o, cs, rw_, h1, h2, _⟩ := h.at_ hp
  exact ⟨b, o, h1, Nat.zero_le _, H.lt _ _ h2⟩
theorem _root_.Go.Am.Buf.in_ (h : Buf d H base p xs) : In p base H.next xs := fun hp => by
  cases h with
  | nil => simp at hp
  | blk hb h => exact ⟨_, _, rfl, hb, H.lt _ _ h⟩
theorem _root_.Go.Am.Buf.at_ (h : Buf d H base p xs) {b o : Nat} (hp : p = some ⟨b, o, none⟩) : base ≤ b ∧ b < H.next := by
  cases h with
  | nil => cases hp
  | blk hb h => cases hp; exact ⟨hb, H.lt _ _ h⟩
theorem _root_.Go.Am.Rd.but (h : Rd d H p xs) (hb : But a H H') (hi_ : In p lo hi xs) (ha : ∀ b o, a = some ⟨b, o, none⟩ → b < lo ∨ hi ≤ b) : Rd d H' p xs := ⟨h.sh, fun hp => by
  obtain ⟨b, o, cs, rw_, h1, h2, h3⟩ := h.at_ hp
  obtain ⟨b', o', k1, k2, k3⟩ := hi_ hp
  rw [h1] at k1; cases k1
  refine ⟨b, o, cs, rw_, h1, hb.same b _ (fun o' e => ?_) h2, h3⟩
  have := ha b o' e
  omega⟩
theorem _root_.Go.Am.Buf.but (h : Buf d H base p xs) (hb : But a H H') (ha : ∀ b o, a = some ⟨b, o, none⟩ → p ≠ some ⟨b, 0, none⟩) : Buf d H' base p xs := by
  cases h with
  | nil => exact .nil
  | blk hb' h => exact .blk hb' (hb.same _ _ (fun o e => ha _ o e rfl) h)
end
theorem pushBuf {α : Type} (d : Enc α) (H : Heap) (xs : List α) : Buf d (pushL d H xs) H.next (some ⟨H.next, 0, none⟩) xs := .blk (Nat.le_refl _) (push_blk _ _)
theorem pushExt {α : Type} (d : Enc α) (H : Heap) (xs : List α) : Ext H (pushL d H xs) := Ext.push _ _
theorem pushNext {α : Type} (d : Enc α) (H : Heap) (xs : List α) : (pushL d H xs).next = H.next + 1 := rfl

set_option maxHeartbeats 1000000 in
theorem law_Kernel (H : Heap) (v : Val) (a b c : Option Addr) (xs ys zs : List Nat) (hA : Rd dFlt H a xs) (hB : Rd dFlt H b ys) (hC : Rd dFlt H c zs) (h1 : xs.length ≤ 9223372036854775807) (h2 : ys.length ≤ 9223372036854775807) (h3 : zs.length ≤ 9223372036854775807) :
    EC Try.prog 10 [valV v, sv a xs, sv b ys, sv c zs] H fun e H' => e = .ret (.bool true) := by
  refine EC_fn ctx (fun _ => true) Try.func10 rfl rfl rfl ?_
  refine ⟨fun _ => rfl, fun l1 => ⟨fun _ => rfl, fun l2 => ⟨fun _ => rfl, fun l3 => ?_⟩⟩⟩
  have l1 : xs.length ≤ 1048576 := by simp at l1; omega
  have l2 : ys.length ≤ 1048576 := by simp at l2; omega
  have l3 : zs.length ≤ 1048576 := by simp at l3; omega
  refine ⟨_, toVal_pc v H, ?_, fun v K hR => by cases hR.1⟩
  rintro _ H0 ⟨hx, rfl⟩
  cases hx
  refine ⟨_, toFloat64S_ec H0 a xs hA l1, ?_, fun v K hR => by cases hR.1⟩
  rintro _ H1 ⟨hx, rfl⟩
  cases hx
  have b1 := pushBuf dFlt H0 xs
  have e1 := pushExt dFlt H0 xs
  generalize pushL dFlt H0 xs = H1 at b1 e1
  refine ⟨_, toFloat64S_ec H1 b ys (hB.mono e1) l2, ?_, fun v K hR => by cases hR.1⟩
  rintro _ H2 ⟨hx, rfl⟩
  cases hx
  have b2 := pushBuf dFlt H1 ys
  have e2 := pushExt dFlt H1 ys
  generalize pushL dFlt H1 ys = H2 at b2 e2
  refine ⟨_, toFloat64S_ec H2 c zs (hC.mono (e1.trans e2)) l3, ?_, fun v K hR => by cases hR.1⟩
  rintro _ H3 ⟨hx, rfl⟩
  cases hx
  have b3 := pushBuf dFlt H2 zs
  have e3 := pushExt dFlt H2 zs
  generalize pushL dFlt H2 zs = H3 at b3 e3
  refine ⟨_, specKernel_ec H3 _ _ _ v xs ys zs (b1.rd.mono (e2.trans e3)) (b2.rd.mono e3) b3.rd l1 l2 l3, ?_, fun v K hR => by obtain ⟨_, h, _⟩ := hR; cases h⟩
  rintro _ H4 ⟨w, hx, e4, b4⟩
  cases hx
  have eA := ((e1.trans e2).trans e3).trans e4
  refine ⟨_, toFloat64S_ec H4 a xs (hA.mono eA) l1, ?_, fun v K hR => by cases hR.1⟩
  rintro _ H5 ⟨hx, rfl⟩
  cases hx
  have b5 := pushBuf dFlt H4 xs
  have e5 := pushExt dFlt H4 xs
  have n5 := pushNext dFlt H4 xs
  generalize pushL dFlt H4 xs = H5 at b5 e5 n5
  refine ⟨_, toFloat64S_ec H5 b ys (hB.mono (eA.trans e5)) l2, ?_, fun v K hR => by cases hR.1⟩
  rintro _ H6 ⟨hx, rfl⟩
  cases hx
  have b6 := pushBuf dFlt H5 ys
  have e6 := pushExt dFlt H5 ys
  have n6 := pushNext dFlt H5 ys
  generalize pushL dFlt H5 ys = H6 at b6 e6 n6
  refine ⟨_, toFloat64S_ec H6 c zs (hC.mono ((eA.trans e5).trans e6)) l3, ?_, fun v K hR => by cases hR.1⟩
  rintro _ H7 ⟨hx, rfl⟩
  cases hx
  have b7 := pushBuf dFlt H6 zs
  have e7 := pushExt dFlt H6 zs
  have n7 := pushNext dFlt H6 zs
  generalize pushL dFlt H6 zs = H7 at b7 e7 n7
  refine ⟨_, toVal_pc v H7, ?_, fun v K hR => by cases hR.1⟩
  rintro _ H7 ⟨hx, rfl⟩
  cases hx
  refine ⟨_, implKernel_ec H7 _ _ _ v xs ys zs (b5.rd.mono (e6.trans e7)) (b6.rd.mono e7) b7.rd l1 l2 l3, ?_, fun v K hR => by obtain ⟨_, h, _⟩ := hR; cases h⟩
  rintro _ H8 ⟨g, hx, e8, b8⟩
  cases hx
  have hkl : (kern v xs ys zs).length ≤ 1048576 := by
    unfold kern
    split
    · rename_i hk
      simp only [kOK, headB, okLen, Bool.and_eq_true, decide_eq_true_eq] at hk
      simp; omega
    · simp
  have e48 := ((e5.trans e6).trans e7).trans e8
  refine ⟨_, eqFloat64S_pc H8 g w _ _ b8.rd (b4.rd.mono e48) (by omega), ?_, fun v K hR => by cases hR.1⟩
  rintro _ H8 ⟨hx, rfl⟩
  cases hx
  refine ⟨fun h => by simp at h, fun _ => ?_⟩
  have eB := eA.trans e48
  -- the arguments as they are held against their copies
  refine ⟨_, toFloat64S_ec H8 a xs (hA.mono eB) l1, ?_, fun v K hR => by cases hR.1⟩
  rintro _ H9 ⟨hx, rfl⟩
  cases hx
  have b9 := pushBuf dFlt H8 xs
  have e9 := pushExt dFlt H8 xs
  generalize pushL dFlt H8 xs = H9 at b9 e9
  have e58 := (e6.trans e7).trans e8
  refine ⟨_, eqFloat64S_pc H9 _ _ xs xs (b5.rd.mono (e58.trans e9)) b9.rd (by omega), ?_, fun v K hR => by cases hR.1⟩
  rintro _ H9 ⟨hx, rfl⟩
  cases hx
  refine ⟨fun h => by simp at h, fun _ => ?_⟩
  refine ⟨_, toFloat64S_ec H9 b ys (hB.mono (eB.trans e9)) l2, ?_, fun v K hR => by cases hR.1⟩
  rintro _ H10 ⟨hx, rfl⟩
  cases hx
  have b10 := pushBuf dFlt H9 ys
  have e10 := pushExt dFlt H9 ys
  generalize pushL dFlt H9 ys = H10 at b10 e10
  refine ⟨_, eqFloat64S_pc H10 _ _ ys ys (b6.rd.mono ((e7.trans e8).trans (e9.trans e10))) b10.rd (by omega), ?_, fun v K hR => by cases hR.1⟩
  rintro _ H10 ⟨hx, rfl⟩
  cases hx
  refine ⟨fun h => by simp at h, fun _ => ?_⟩
  refine ⟨_, toFloat64S_ec H10 c zs (hC.mono (eB.trans (e9.trans e10))) l3, ?_, fun v K hR => by cases hR.1⟩
  rintro _ H11 ⟨hx, rfl⟩
  cases hx
  have b11 := pushBuf dFlt H10 zs
  have e11 := pushExt dFlt H10 zs
  generalize pushL dFlt H10 zs = H11 at b11 e11
  refine ⟨_, eqFloat64S_pc H11 _ _ zs zs (b7.rd.mono (e8.trans ((e9.trans e10).trans e11))) b11.rd (by omega), ?_, fun v K hR => by cases hR.1⟩
  rintro _ H11 ⟨hx, rfl⟩
  cases hx
  refine ⟨fun h => by simp at h, fun _ => ?_⟩
  -- the marks on the copies
  have eC := (e9.trans e10).trans e11
  have n4 := e4.next
  have n8 := e8.next
  have n0 := eA.next
  have aX := b5.mono (e58.trans eC)
  have aY := b6.mono ((e7.trans e8).trans eC)
  have aZ := b7.mono (e8.trans eC)
  have aW := b4.rd.mono (e48.trans eC)
  have iW := b4.in_
  have aG := b8.mono eC
  have iG : In g H7.next H8.next (kern v xs ys zs) := b8.in_
  have gA : ∀ {bb o : Nat}, g = some ⟨bb, o, none⟩ → H7.next ≤ bb ∧ bb < H8.next := fun h => b8.at_ h
  have qA := hA.mono (eB.trans eC)
  have qB := hB.mono (eB.trans eC)
  have qC := hC.mono (eB.trans eC)
  have jA := hA.in_
  have jB := hB.in_
  have jC := hC.in_
  refine ⟨_, mark_ec H11 _ _ xs 1 aX l1 (by omega) (by omega), ?_, fun v K hR => by cases hR.1⟩
  rintro _ H12 ⟨hx, aX, t1⟩
  cases hx
  refine ⟨_, mark_ec H12 _ _ ys (1 + xs.length) (aY.but t1 (fun bb o h k => by cases h; injection k with k; injection k; omega)) l2 (by omega) (by omega), ?_, fun v K hR => by cases hR.1⟩
  rintro _ H13 ⟨hx, aY, t2⟩
  cases hx
  refine ⟨_, mark_ec H13 _ _ zs (1 + xs.length + ys.length) ((aZ.but t1 (fun bb o h k => by cases h; injection k with k; injection k; omega)).but t2 (fun bb o h k => by cases h; injection k with k; injection k; omega)) l3 (by omega) (by omega), ?_, fun v K hR => by cases hR.1⟩
  rintro _ H14 ⟨hx, aZ, t3⟩
  cases hx
  have aW := ((aW.but t1 iW (fun bb o h => by cases h; omega)).but t2 iW (fun bb o h => by cases h; omega)).but t3 iW (fun bb o h => by cases h; omega)
  have aG := ((aG.but t1 (fun bb o h k => by cases h; have := gA k; omega)).but t2 (fun bb o h k => by cases h; have := gA k; omega)).but t3 (fun bb o h k => by cases h; have := gA k; omega)
  have qA := ((qA.but t1 jA (fun bb o h => by cases h; omega)).but t2 jA (fun bb o h => by cases h; omega)).but t3 jA (fun bb o h => by cases h; omega)
  have qB := ((qB.but t1 jB (fun bb o h => by cases h; omega)).but t2 jB (fun bb o h => by cases h; omega)).but t3 jB (fun bb o h => by cases h; omega)
  have qC := ((qC.but t1 jC (fun bb o h => by cases h; omega)).but t2 jC (fun bb o h => by cases h; omega)).but t3 jC (fun bb o h => by cases h; omega)
  refine ⟨_, fun _ => eqFloat64S_pc H14 g w _ _ aG.rd aW (by omega), fun h => ?_, fun _ => ?_⟩
  · simp at h; omega
  -- the mark on the answer
  refine ⟨_, mark_ec H14 g _ _ 1 aG hkl (by omega) (by omega), ?_, fun v K hR => by cases hR.1⟩
  rintro _ H15 ⟨hx, aG, t4⟩
  cases hx
  have aW := aW.but t4 iW (fun bb o h => by have := gA h; omega)
  have qA := qA.but t4 jA (fun bb o h => by have := gA h; omega)
  have qB := qB.but t4 jB (fun bb o h => by have := gA h; omega)
  have qC := qC.but t4 jC (fun bb o h => by have := gA h; omega)
  have hsv : sv g (kern v xs ys zs) = sv g (markL 1 (kern v xs ys zs).length) := by show Value.slice _ _ _ = .slice _ _ _; rw [markL_len]
  have hheld := fun K (hg : Rd dFlt K g (markL 1 (kern v xs ys zs).length)) => held_pc K g 1 (kern v xs ys zs).length hg hkl (by omega) (by omega)
  rw [← hsv] at hheld
  refine ⟨_, hheld H15 aG.rd, ?_, fun v K hR => by cases hR.1⟩
  rintro _ H15 ⟨hx, rfl⟩
  cases hx
  refine ⟨fun h => by simp at h; omega, fun _ => ⟨fun h => by simp at h, fun _ => ?_⟩⟩
  -- once more
  refine ⟨_, toVal_pc v H15, ?_, fun v K hR => by cases hR.1⟩
  rintro _ H15 ⟨hx, rfl⟩
  cases hx
  refine ⟨_, toFloat64S_ec H15 a xs qA l1, ?_, fun v K hR => by cases hR.1⟩
  rintro _ H16 ⟨hx, rfl⟩
  cases hx
  have b16 := pushBuf dFlt H15 xs
  have e16 := pushExt dFlt H15 xs
  generalize pushL dFlt H15 xs = H16 at b16 e16
  refine ⟨_, toFloat64S_ec H16 b ys (qB.mono e16) l2, ?_, fun v K hR => by cases hR.1⟩
  rintro _ H17 ⟨hx, rfl⟩
  cases hx
  have b17 := pushBuf dFlt H16 ys
  have e17 := pushExt dFlt H16 ys
  generalize pushL dFlt H16 ys = H17 at b17 e17
  refine ⟨_, toFloat64S_ec H17 c zs (qC.mono (e16.trans e17)) l3, ?_, fun v K hR => by cases hR.1⟩
  rintro _ H18 ⟨hx, rfl⟩
  cases hx
  have b18 := pushBuf dFlt H17 zs
  have e18 := pushExt dFlt H17 zs
  generalize pushL dFlt H17 zs = H18 at b18 e18
  refine ⟨_, implKernel_ec H18 _ _ _ v xs ys zs (b16.rd.mono (e17.trans e18)) (b17.rd.mono e18) b18.rd l1 l2 l3, ?_, fun v K hR => by obtain ⟨_, h, _⟩ := hR; cases h⟩
  rintro _ H19 ⟨g2, hx, e19, b19⟩
  cases hx
  have eD := ((e16.trans e17).trans e18).trans e19
  refine ⟨_, eqFloat64S_pc H19 g2 w _ _ b19.rd (aW.mono eD) (by omega), ?_, fun v K hR => by cases hR.1⟩
  rintro _ H19 ⟨hx, rfl⟩
  cases hx
  refine ⟨fun h => by simp at h, fun _ => ?_⟩
  refine ⟨_, hheld H19 (aG.rd.mono eD), ?_, fun v K hR => by cases hR.1⟩
  rintro _ H19 ⟨hx, rfl⟩
  cases hx
  exact ⟨fun h => by simp at h; omega, fun _ => ⟨fun h => by simp at h, fun _ => rfl⟩⟩
end Go.Proofs.Ytkmhbppimkphbaa
