/- FnExactLoadCode: the walk. Condition: the argument's slice reads, its elements are bytes. -/
import Derived.Test.YthcnnificgbmhaaLdl
import Derived.Test.YthcnnificgbmhaaByt
set_option linter.unusedVariables false
set_option linter.unusedSimpArgs false
namespace Go.Proofs.Ythcnnificgbmhaa
open Go.Am

theorem toByteS_ec (H : Heap) (a : Option Addr) (xs : List Int) (h : Rd dByte H a xs) (hl : xs.length ≤ 1048576) :
    EC Try.prog 5 [sv a xs] H fun r H' => r = .ret (sv (some ⟨H.next, 0, none⟩) xs) ∧ H' = H.push (.cells (flat dByte xs) dByte.sz true) := by
  refine EC_fn ctx (fun _ => true) Try.func5 rfl rfl rfl ?_
  refine ⟨⟨by omega, by omega, by omega, by dsimp only; omega⟩, ?_⟩
  refine loop_ind ctx (fun _ => true) (fun m E K => ∃ k, k ≤ xs.length ∧ m = xs.length - k ∧ E = ⟨[(0, sv a xs), (3, sv (some ⟨H.next, 0, none⟩) xs), (4, .int .i64 k)], []⟩ ∧ K = H.push (.cells (flat dByte (xs.take k ++ List.replicate (xs.length - k) 0)) dByte.sz true))
    ⟨0, Nat.zero_le _, rfl, rfl, ?_⟩ ⟨⟨rfl, trivial, rfl, trivial, rfl, trivial, trivial⟩, trivial⟩ ?_
  · congr 2; exact flat_rep dByte 0 [.int .u8 0] rfl xs.length
  · rintro m E K ⟨k, hk, rfl, rfl, hK⟩
    have h : Rd dByte K a xs := by subst hK; exact h.mono (Ext.push _ _)
    refine ⟨fun hlt => ?_, fun hge => ?_⟩
    · have hlt : k < xs.length := by simpa using hlt
      have hlt' : k < (xs.take k ++ List.replicate (xs.length - k) 0).length := by simp; omega
      obtain ⟨b, off, rfl, hc⟩ := h.cell (List.getElem?_eq_getElem hlt)
      subst hK
      refine ⟨⟨by omega, by omega⟩, _, hc, ⟨by omega, by omega⟩, stOK_elem dByte H _ hlt' (Nat.zero_add _) rfl, ?_⟩
      refine ⟨xs.length - (k + 1), ⟨[(0, sv (some ⟨b, off, none⟩) xs), (3, sv (some ⟨H.next, 0, none⟩) xs), (4, .int .i64 ((k + 1 : Nat) : Int))], []⟩, by omega, ⟨⟨rfl, trivial, rfl, trivial, congrArg (fun x => some (Value.int .i64 x)) (wrap_nat (by omega)), trivial, trivial⟩, trivial⟩, k + 1, by omega, rfl, rfl, ?_⟩
      refine (stor_elem dByte H _ xs[k] hlt' (Nat.zero_add _) rfl).trans ?_
      rw [take_set xs 0 hlt]
    · have hge : k = xs.length := by simp at hge; omega
      subst hge
      exact ⟨rfl, by simp [hK]⟩

theorem heldCode_pc (K : Heap) (p q r : Option Addr) (c : Code') (k : Int) (h : RdC K p q r (mkC k c)) (h1 : c.ins.length ≤ 1048576) (h2 : c.steps.length ≤ 1048576) (h3 : c.outs.length ≤ 1048576) (hk0 : 0 ≤ k) (hk : k ≤ 1000000) :
    PC Try.prog 11 [cV p q r c, .int .i64 k] K (.int .i64 (mkCk k c)) := by
  refine EC_fn ctx (fun _ => true) Try.func11 rfl rfl rfl ?_
  refine ⟨_, heldIntS_pc K p k c.ins.length h.ins h1 hk0 (by omega), ?_, fun v K hR => by cases hR.1⟩
  rintro _ K1 ⟨hx, rfl⟩
  cases hx
  refine ⟨fun h => by simp at h; omega, fun _ => ?_⟩
  refine ⟨_, heldStepS_pc K1 q _ c.steps.length h.steps h2 (by omega) (by omega), ?_, fun v K hR => by cases hR.1⟩
  rintro _ K1 ⟨hx, rfl⟩
  cases hx
  refine ⟨fun h => by simp at h; omega, fun _ => ?_⟩
  refine ⟨_, heldSpanS_pc K1 r _ c.outs.length h.outs h3 (by omega) (by omega), ?_, fun v K hR => by cases hR.1⟩
  rintro _ K1 ⟨hx, rfl⟩
  cases hx
  exact ⟨fun h => by simp at h; omega, fun _ => ⟨rfl, rfl⟩⟩
/-- What LoadCode answers hangs on the bytes alone. -/
def LA (H : Heap) (c0 : Code') (e0 : Int) (e : AEnd) (K : Heap) : Prop := ∃ p q r, Ext H K ∧ OwnC K H.next K.next p q r c0 ∧ e = .ret (.tuple #[cV p q r c0, .int .i64 e0])
theorem LC.la {bs : List Int} : ∃ c0 e0, CodeS c0 ∧ ∀ H e K, LC H bs e K → LA H c0 e0 e K := by
  by_cases hg : ∃ c, Good c bs ∧ ∀ c', Good c' bs → c = c'
  · obtain ⟨c, h1, h2⟩ := hg
    have hk := ver_K h1.1
    refine ⟨c, 0, ⟨by have := hk.ins; omega, by have := hk.steps; omega, by have := hk.outs; omega⟩, fun H e K hL => ?_⟩
    obtain ⟨p, q, r, c', k1, k2, k3, ⟨k4, k5, k6⟩ | ⟨k4, _⟩⟩ := hL
    · obtain rfl := k5 c h1
      exact ⟨p, q, r, k1, k2, k6⟩
    · exact absurd h1 (k4 c)
  · refine ⟨⟨[], [], [], 0⟩, 1, ⟨by simp, by simp, by simp⟩, fun H e K hL => ?_⟩
    obtain ⟨p, q, r, c', k1, k2, k3, ⟨k4, k5, k6⟩ | ⟨k4, k5, k6⟩⟩ := hL
    · exact absurd ⟨c', k4, k5⟩ hg
    · subst k5
      exact ⟨p, q, r, k1, k2, k6⟩
set_option maxHeartbeats 1000000 in
theorem law_LoadCode {H : Heap} {p : Option Addr} {bs : List Int} (hb : ByteL bs) (hr : Rd dByte H p bs) (hl0 : bs.length ≤ 9223372036854775807) :
    EC Try.prog 3 [sv p bs] H fun e H' => e = .ret (.bool true) := by
  obtain ⟨c, e0, hS, hLA⟩ := LC.la (bs := bs)
  have z1 := hS.ins
  have z2 := hS.steps
  have z3 := hS.outs
  refine EC_fn ctx (fun _ => true) Try.func3 rfl rfl rfl ?_
  refine ⟨fun h => rfl, fun h => ?_⟩
  have hl : bs.length ≤ 1048576 := by simp at h; omega
  have qA := hr.at (Nat.le_refl _)
  refine ⟨_, toByteS_ec H p bs hr hl, ?_, fun v K hR => by cases hR.1⟩
  rintro _ K1 ⟨hx, hK1⟩
  cases hx
  have e1 : Ext H K1 := by rw [hK1]; exact Ext.push _ _
  have r1 : Rd dByte K1 (some ⟨H.next, 0, none⟩) bs := by rw [hK1]; exact Rd.push _ _
  refine ⟨_, specLoad_ec K1 _ bs r1 hb hl, ?_, fun v K hR => by obtain ⟨_, _, _, _, h⟩ := hLA _ _ _ hR; cases h.2⟩
  rintro v K2 hR
  obtain ⟨w1, w2, w3, e2, ow, hv⟩ := hLA _ _ _ hR
  cases hv
  clear hR
  have e12 := e1.trans e2
  refine ⟨_, toByteS_ec K2 p bs (qA.mono e12).rd hl, ?_, fun v K hR => by cases hR.1⟩
  rintro _ K3 ⟨hx, hK3⟩
  cases hx
  have e3 : Ext K2 K3 := by rw [hK3]; exact Ext.push _ _
  have n3 : K3.next = K2.next + 1 := by rw [hK3]; rfl
  have b3 : Buf dByte K3 K2.next (some ⟨K2.next, 0, none⟩) bs := .blk (Nat.le_refl _) (by rw [hK3]; exact push_blk _ _)
  refine ⟨_, implLoad_ec K3 _ bs b3.rd hb hl, ?_, fun v K hR => by obtain ⟨_, _, _, _, h⟩ := hLA _ _ _ hR; cases h.2⟩
  rintro v K4 hR
  obtain ⟨g1, g2, g3, e4, og, hv⟩ := hLA _ _ _ hR
  cases hv
  clear hR
  have e34 := e3.trans e4
  have ow := ow.mono e34
  have b4 := b3.mono e4
  have qA := qA.mono (e12.trans e34)
  refine ⟨_, eqCode_pc K4 _ _ _ _ _ _ c c og.rd ow.rd (by omega) (by omega) (by omega), ?_, fun v K hR => by cases hR.1⟩
  rintro _ K4 ⟨hx, rfl⟩
  cases hx
  refine ⟨fun h => by simp at h, fun _ => ?_⟩
  refine ⟨_, toByteS_ec K4 p bs qA.rd hl, ?_, fun v K hR => by cases hR.1⟩
  rintro _ K5 ⟨hx, hK5⟩
  cases hx
  have e5 : Ext K4 K5 := by rw [hK5]; exact Ext.push _ _
  have r5 : Rd dByte K5 (some ⟨K4.next, 0, none⟩) bs := by rw [hK5]; exact Rd.push _ _
  have b5 := b4.mono e5
  refine ⟨_, eqByteS_pc K5 _ _ bs bs b5.rd r5 (by omega), ?_, fun v K hR => by cases hR.1⟩
  rintro _ K5 ⟨hx, rfl⟩
  cases hx
  refine ⟨fun h => by simp at h, fun _ => ?_⟩
  refine ⟨_, markByteS_ec K5 _ K2.next bs 1 b5 hl (by omega) (by omega), ?_, fun v K hR => by cases hR.1⟩
  rintro _ K6 ⟨hx, _, t6⟩
  cases hx
  have o6 : Out K2.next K3.next K5 K6 := t6.out fun b o e => by cases e; omega
  have m1 := e1.next
  have m2 := e2.next
  have m34 := e34.next
  have m4 := e4.next
  have qA := (qA.mono e5).out o6 (by omega)
  have ow := (ow.mono e5).out o6 (by omega)
  have og := (og.mono e5).out o6 (by omega)
  refine ⟨_, fun _ => eqCode_pc K6 _ _ _ _ _ _ c c og.rd ow.rd (by omega) (by omega) (by omega), fun h => ?_, fun _ => ?_⟩
  · simp at h; omega
  refine ⟨_, markCode_ec K6 _ _ _ _ _ c 1 og (by omega) (by omega) (by omega) (by omega) (by omega), ?_, fun v K hR => by cases hR.1⟩
  rintro _ K7 ⟨hx, og7, o7⟩
  cases hx
  have qA := qA.out o7 (by omega)
  have ow := ow.out o7 (by omega)
  refine ⟨_, heldCode_pc K7 _ _ _ c 1 og7.rd (by omega) (by omega) (by omega) (by omega) (by omega), ?_, fun v K hR => by cases hR.1⟩
  rintro _ K7 ⟨hx, rfl⟩
  cases hx
  refine ⟨fun h => by simp [mkCk] at h; omega, fun _ => ⟨fun h => by simp at h, fun _ => ?_⟩⟩
  refine ⟨_, toByteS_ec K7 p bs qA.rd hl, ?_, fun v K hR => by cases hR.1⟩
  rintro _ K8 ⟨hx, hK8⟩
  cases hx
  have e8 : Ext K7 K8 := by rw [hK8]; exact Ext.push _ _
  have r8 : Rd dByte K8 (some ⟨K7.next, 0, none⟩) bs := by rw [hK8]; exact Rd.push _ _
  refine ⟨_, implLoad_ec K8 _ bs r8 hb hl, ?_, fun v K hR => by obtain ⟨_, _, _, _, h⟩ := hLA _ _ _ hR; cases h.2⟩
  rintro v K9 hR
  obtain ⟨j1, j2, j3, e9, oj, hv⟩ := hLA _ _ _ hR
  cases hv
  clear hR
  have ow := ow.mono (e8.trans e9)
  refine ⟨_, eqCode_pc K9 _ _ _ _ _ _ c c oj.rd ow.rd (by omega) (by omega) (by omega), ?_, fun v K hR => by cases hR.1⟩
  rintro _ K9 ⟨hx, rfl⟩
  cases hx
  refine ⟨fun h => by simp at h, fun _ => ?_⟩
  refine ⟨_, heldCode_pc K9 _ _ _ c 1 (og7.rd.mono (e8.trans e9)) (by omega) (by omega) (by omega) (by omega) (by omega), ?_, fun v K hR => by cases hR.1⟩
  rintro _ K9 ⟨hx, rfl⟩
  cases hx
  exact ⟨fun h => by simp [mkCk] at h; omega, fun _ => ⟨fun h => by simp at h, fun _ => rfl⟩⟩
end Go.Proofs.Ythcnnificgbmhaa
