/- The program's loader: a count, and what it has read up to a place. Conditions: those of each. -/
import Derived.Test.YthcnnificgbmhaaLdi
set_option linter.unusedVariables false
set_option linter.unusedSimpArgs false
namespace Go.Proofs.Ythcnnificgbmhaa
open Go.Am
open FlCore (canon isNan)

theorem at_drop (bs : List Int) (i j : Nat) : at_ (bs.drop i) j = at_ bs (i + j) := by unfold at_; rw [List.getElem?_drop]
theorem val2 {bs : List Int} (hb : ByteL bs) (i : Nat) : ((valB 2 (bs.drop i) : Nat) : Int) = cntAt bs i := by
  have h1 := at_range hb i
  have h2 := at_range hb (i + 1)
  simp only [valB, List.drop_drop, at_drop, cntAt, Nat.add_zero]
  omega
theorem val1 {bs : List Int} (hb : ByteL bs) (i : Nat) : ((valB 1 (bs.drop i) : Nat) : Int) = at_ bs i := by
  have h1 := at_range hb i
  simp only [valB, List.drop_drop, at_drop, Nat.add_zero]
  omega
/-- Where the loader stands, if the bytes are a good code's. -/
def At (bs : List Int) (pos : Code' → Nat) (xs : List Int) (bad : Bool) : Prop := ∀ c, Good c bs → bad = false ∧ xs = bs.drop (pos c)
theorem At.take {bs xs xs' : List Int} {pos : Code' → Nat} {bad bad' : Bool} {n v : Nat} (h : At bs pos xs bad) (hp : ∀ c, Good c bs → pos c + n ≤ bs.length) (ht : n ≤ xs.length → v = valB n xs ∧ xs' = xs.drop n ∧ bad' = bad) :
    At bs (fun c => pos c + n) xs' bad' ∧ ∀ c, Good c bs → v = valB n (bs.drop (pos c)) := by
  have h2 : ∀ c, Good c bs → v = valB n (bs.drop (pos c)) ∧ xs' = bs.drop (pos c + n) ∧ bad' = false := fun c hc => by
    obtain ⟨h1, h2⟩ := h c hc
    have := hp c hc
    obtain ⟨q1, q2, q3⟩ := ht (by rw [h2, List.length_drop]; omega)
    subst h2
    exact ⟨q1, by rw [q2, List.drop_drop], q3.trans h1⟩
  exact ⟨fun c hc => ⟨(h2 c hc).2.2, (h2 c hc).2.1⟩, fun c hc => (h2 c hc).1⟩
theorem At.eq {bs xs : List Int} {pos pos' : Code' → Nat} {bad : Bool} (h : At bs pos xs bad) (e : ∀ c, Good c bs → pos c = pos' c) : At bs pos' xs bad := fun c hc => by rw [← e c hc]; exact h c hc
theorem At.bad {bs xs : List Int} {pos : Code' → Nat} (h : At bs pos xs true) : ∀ c, ¬ Good c bs := fun c hc => by cases (h c hc).1
/-- What count answers. -/
def CT (B : Nat) (H : Heap) (L : Nat) (xs : List Int) (bad : Bool) (e : AEnd) (K : Heap) : Prop := ∃ (p' : Option Addr) (xs' : List Int) (bad' : Bool) (v : Nat), e = .ret (.int .i64 v) ∧ LS B K L p' xs' bad' ∧ But (some ⟨L, 0, none⟩) H K ∧ v ≤ 65535 ∧ (2 ≤ xs.length → v = valB 2 xs ∧ xs' = xs.drop 2 ∧ bad' = bad)
theorem TR.no {B : Nat} {H K : Heap} {L n : Nat} {xs : List Int} {bad : Bool} {v : Value} (h : TR B H L n xs bad (.pan v) K) : False := by obtain ⟨_, _, _, _, h, _⟩ := h; cases h
theorem CT.no {B : Nat} {H K : Heap} {L : Nat} {xs : List Int} {bad : Bool} {v : Value} (h : CT B H L xs bad (.pan v) K) : False := by obtain ⟨_, _, _, _, h, _⟩ := h; cases h
theorem count_ec (B : Nat) (H : Heap) (L : Nat) (p : Option Addr) (xs : List Int) (bad : Bool) (h : LS B H L p xs bad) :
    EC Try.prog 39 [.pointer (some ⟨L, 0, none⟩)] H (CT B H L xs bad) := by
  refine EC_fn ctx (fun _ => true) Try.func39 rfl rfl rfl ?_
  refine ⟨_, take_ec B H L p xs bad 2 (by decide) (by decide) h, ?_, fun v K hR => hR.no.elim⟩
  rintro _ K ⟨p', xs', bad', v, hv, hL, hb, hlt, ht⟩
  cases hv
  have hlt : v < 65536 := hlt
  have hw : IntKind.i64.wrap (v : Int) = v := wrap_i64 (by omega) (by omega)
  refine ⟨p', xs', bad', v, ?_, hL, hb, by omega, ht⟩
  show AEnd.ret (.int .i64 (IntKind.i64.wrap (v : Int))) = _
  rw [hw]
theorem implFrom_pc (V : Nat) (b1 : V < 18446744073709551616) (H : Heap) : PC Try.prog 40 [.int .u64 (V : Int)] H (.float .f64 (canon V)) :=
  PC_of_calls Try.func40 rfl rfl (fun ρ cargs w h => by
    cases h with
    | cons h1 h =>
      cases h
      cases h1 with
      | int => exact (iFloatFrom_any (V : Int) w (by omega)).mono fun e w' ⟨h1, h2⟩ => ⟨_, h1, .float ⟨b1, congrArg canon (Int.toNat_natCast V)⟩, by rw [← h2]; rfl⟩) H
end Go.Proofs.Ythcnnificgbmhaa
