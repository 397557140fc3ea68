/- LoadCode, the program's side. Conditions: those of each. -/
import Derived.Test.YthcnnificgbmhaaLdk
import Derived.Test.YthcnnificgbmhaaLdf
set_option linter.unusedVariables false
set_option linter.unusedSimpArgs false
namespace Go.Proofs.Ythcnnificgbmhaa
open Go.Am
open FlCore (canon isNan)

theorem equal_pc (H : Heap) (b0 o0 : Nat) (x : Int) (r : List Int) (p : Option Addr) (bs : List Int) (h : Rd dByte H (some ⟨b0, o0, none⟩) (x :: r)) (hb : ByteL (x :: r)) (h' : Rd dByte H p bs) (hb' : ByteL bs) :
    PC Try.prog 17 [sv (some ⟨b0, o0, none⟩) (x :: r), sv p bs] H (.bool (decide ((x :: r) = bs))) := by
  have key : ∀ b : Bool, (!b) = (!((bytesS (x :: r)).toList == (bytesS bs).toList)) → b = decide ((x :: r) = bs) := fun b hb2 => by
    cases b with
    | true => simp [str_eq hb hb' hb2.symm]
    | false => simp [str_ne hb hb' hb2.symm]
  cases bs with
  | nil =>
    refine EC_fn ctx (fun _ => true) Try.func17 rfl rfl rfl ?_
    refine ⟨.string (bytesS (x :: r)), ⟨_, run_all h rfl, rfl⟩, ?_⟩
    refine ⟨?_, rfl⟩
    rw [← key _ rfl]
    rfl
  | cons y s =>
    obtain ⟨b1, o1, rfl, _⟩ := h'.cell (i := 0) (x := y) rfl
    refine EC_fn ctx (fun _ => true) Try.func17 rfl rfl rfl ?_
    refine ⟨.string (bytesS (x :: r)), ⟨_, run_all h rfl, rfl⟩, .string (bytesS (y :: s)), ⟨_, run_all h' rfl, rfl⟩, ?_⟩
    refine ⟨?_, rfl⟩
    rw [← key _ rfl]
    rfl
def ldlPv (k : Nat) : Bool := !(Nat.beq k 8 || Nat.beq k 1000025 || Nat.beq k 1000030)
theorem OwnC.down {K : Heap} {lo lo' hi : Nat} {p q r : Option Addr} {c : Code'} (h : OwnC K lo hi p q r c) (e : lo' ≤ lo) : OwnC K lo' hi p q r c :=
  ⟨h.i.wide e, h.s.wide e, h.o.wide e, h.hi_, h.ne⟩
theorem implLoad_ec (H : Heap) (p : Option Addr) (bs : List Int) (hr : Rd dByte H p bs) (hb : ByteL bs) (hl : bs.length ≤ 1048576) :
    EC Try.prog 6 [sv p bs] H (LC H bs) := by
  refine EC_fn ctx ldlPv Try.func6 rfl rfl rfl ?_
  have l0 : LS (H.next + 1) (H.push (.cells [sv p bs, .bool false] 2 true)) H.next p bs false := {
    blk := push_blk _ _
    rd := hr.mono (Ext.push _ _)
    ne := fun hx o e => by
      obtain ⟨b, o', cs, rw_, h1, h2, h3⟩ := hr.at_ hx
      have := H.lt _ _ h2
      rw [h1] at e; cases e; omega
    byte := hb
    len := hl
    low := fun hx b o e => by
      obtain ⟨b', o', cs, rw_, h1, h2, h3⟩ := hr.at_ hx
      have := H.lt _ _ h2
      rw [h1] at e; cases e; omega }
  refine ⟨_, code_ec _ H.next p bs l0, ?_, fun v K hR => by obtain ⟨_, _, _, _, _, _, _, h, _⟩ := hR; cases h⟩
  rintro _ K ⟨a, b, d, c, pp, xs, bad, hv, l, o, hO, hN, hS, hG⟩
  cases hv
  have e1 : Ext H K := ⟨Nat.le_trans (Nat.le_succ _) o.next, fun x cc hc => o.same _ _ (.inl (H.lt _ _ hc)) ((Ext.push _ _).same _ _ hc)⟩
  have hr1 := hr.mono e1
  have hu : ∀ c', Good c' bs → c = c' := fun c' hc => (hG c' hc).2.2
  refine ⟨.bool bad, cell_of l.blk 1, sv pp xs, fun _ => cell_of l.blk 0, ?_⟩
  refine ⟨fun h1 => ?_, fun h1 => ?_⟩
  · have hbx : bad = false ∧ xs = [] := by
      cases bad with
      | true => simp at h1
      | false => exact ⟨rfl, by simpa using h1⟩
    refine ⟨_, implVerify_ec K a b d c hO.rd hS.ins hS.steps hS.outs, ?_, fun v K hR => by cases hR.1⟩
    rintro _ K2 ⟨hx, e2⟩
    cases hx
    refine ⟨fun h2 => ?_, fun h2 => ?_⟩
    · have hv : verB c = true := by simp [hbx.1, hbx.2] at h2; exact h2
      refine ⟨_, saved_ec K2 a b d c (hO.rd.mono e2) hS, ?_, fun v K hR => by obtain ⟨_, h, _⟩ := hR; cases h⟩
      rintro _ K3 ⟨o2, hx, hb2⟩
      cases hx
      obtain ⟨ys, hy⟩ := savL_cons c
      have hb' := hb2.buf.rd
      have hby := savL_byte c
      rw [hy] at hb' hby ⊢
      obtain ⟨b1, o1, rfl, _⟩ := hb'.cell (i := 0) (x := 71) rfl
      have e3 : Ext K K3 := e2.trans hb2.ext
      refine ⟨.bool (decide ((71 :: ys) = bs)), fun _ => equal_pc K3 b1 o1 71 ys p bs hb' hby (hr1.mono e3) hb, fun h3 => ?_, fun h3 => ?_⟩
      · refine LC.no (e1.trans e3) (good_no hu fun h => ?_)
        rw [hbx.1, hbx.2, hv, ← hy, h.2] at h3
        simp at h3
      · refine LC.yes e1 e3 (hO.down (Nat.le_succ _)) hS ⟨hv, ?_, hN⟩ hu
        rw [hbx.1, hbx.2, hv, ← hy] at h3
        simpa using h3
    · have hv : verB c = false := by simpa [hbx.1, hbx.2] using h2
      refine ⟨.bool false, fun h => absurd (h2.symm.trans h) (by simp), fun h3 => ?_, fun h3 => ?_⟩
      · exact LC.no (e1.trans e2) (good_no hu fun h => by rw [hv] at h; cases h.1)
      · rw [hbx.1, hbx.2, hv] at h3
        simp at h3
  · have hno : ∀ c', ¬ Good c' bs := fun c' hc => by
      obtain ⟨h, h', _⟩ := hG c' hc
      rw [h, h'] at h1
      simp at h1
    have hbx : (bif bad then true else decide ((xs.length : Int) > 0)) = true := by
      cases hh : (bif bad then true else decide ((xs.length : Int) > 0)) with
      | true => rfl
      | false => rw [hh] at h1; simp at h1
    refine ⟨fun h2 => ?_, fun h2 => ?_⟩
    · rw [hbx] at h2; simp at h2
    · refine ⟨.bool false, fun h => absurd (h2.symm.trans h) (by simp), fun h3 => ?_, fun h3 => ?_⟩
      · exact LC.no e1 hno
      · rw [hbx] at h3; simp at h3
end Go.Proofs.Ythcnnificgbmhaa
