/- The reference's reader of drawn bytes: what each of its steps answers, as a plain function of the bytes and the place. No condition. -/
import Derived.Test.YtkmhbppimkphbaaFlExp
import Derived.Deep.QuietTactic
import Derived.BigQuiet
import Derived.Below
namespace Go.Proofs.Ytkmhbppimkphbaa
open Go.RowKit
open FlCore

/-- The byte at a place, 0 behind the end; and the next place. -/
def rdb (bs : List Int) (i : Nat) : Int := if i < bs.length then bs.getD i 0 else 0
def adv (bs : List Int) (i : Nat) : Nat := if i < bs.length then i + 1 else i

/-- Bytes that lie at an address. -/
structure BytesAt (w : World) (A : Option Addr) (bs : List Int) : Prop where
  len : bs.length ≤ 140737488351232
  at_ : 0 < bs.length → ∃ b off, A = some ⟨b, off, none⟩ ∧ b < w.heap.size ∧ ∀ j, j < bs.length → w.cell? ⟨b, off + j, none⟩ = some (.int .u8 (bs.getD j 0))
  range : ∀ x ∈ bs, 0 ≤ x ∧ x < 256

theorem rdb_range {w : World} {A : Option Addr} {bs : List Int} (h : BytesAt w A bs) (i : Nat) : 0 ≤ rdb bs i ∧ rdb bs i < 256 := by
  unfold rdb
  split
  · rename_i hi
    have : bs.getD i 0 ∈ bs := by rw [List.getD_eq_getElem?_getD, List.getElem?_eq_getElem hi]; exact List.getElem_mem hi
    exact h.range _ this
  · omega

/-- The reader at block g: its bytes and its place. -/
structure Rd (w : World) (g : Nat) (bs : List Int) (i : Nat) : Prop where
  bytes : ∃ A c, w.cell? ⟨g, 0, none⟩ = some (.slice A bs.length c) ∧ BytesAt w A bs ∧ (0 < bs.length → ∀ b off, A = some ⟨b, off, none⟩ → b < g)
  c1 : w.cell? ⟨g, 1, none⟩ = some (.int .i64 (i : Int))
  fz : w.frozen? ⟨g, 1, none⟩ = false
  le : i ≤ bs.length

theorem Rd.lt {w : World} {g : Nat} {bs : List Int} {i : Nat} (h : Rd w g bs i) : g < w.heap.size := World.block_lt_of_cell? w _ h.c1

theorem cell_drewN (w : World) (n : Nat) (a : Addr) : (w.drewN n).cell? a = w.cell? a := rfl

theorem cell_setCell_same {w : World} {g o : Nat} {v u : Value} (h : w.cell? ⟨g, o, none⟩ = some v) : (w.setCell ⟨g, o, none⟩ u).cell? ⟨g, o, none⟩ = some u := by
  unfold World.cell? at h ⊢
  unfold World.setCell
  dsimp only at h ⊢
  rw [Array.getElem?_modify, if_pos rfl]
  cases hb : w.heap[g]? with
  | none => rw [hb] at h; simp at h
  | some ob =>
    rw [hb] at h
    cases ob with
    | cells c t fr =>
      simp only [Option.isSome_none, Bool.false_eq_true, if_false] at h
      simp only [Option.map_some, Option.isSome_none, Bool.false_eq_true, if_false]
      have hlt : o < c.size := by
        rcases Nat.lt_or_ge o c.size with q | q
        · exact q
        · rw [Array.getElem?_eq_none q] at h; cases h
      rw [Array.getElem?_setIfInBounds_self_of_lt hlt]
    | _ => simp at h

theorem cell_setCell_ne {w : World} {p a : Addr} {u : Value} (h : a.block ≠ p.block ∨ a.off ≠ p.off) : (w.setCell p u).cell? a = w.cell? a := by
  unfold World.cell? World.setCell
  dsimp only
  rw [Array.getElem?_modify]
  by_cases hb : p.block = a.block
  · rw [if_pos hb]
    cases w.heap[a.block]? with
    | none => rfl
    | some ob =>
      cases ob with
      | cells c t fr =>
        simp only [Option.map_some]
        split
        · rfl
        · by_cases hs : p.spot.isSome
          · rw [if_pos hs]
          · rw [if_neg hs, Array.getElem?_setIfInBounds_ne]
            rcases h with h | h
            · exact absurd hb.symm h
            · exact fun e => h e.symm
      | _ => rfl
  · rw [if_neg hb]

theorem frozen_setCell (w : World) (p a : Addr) (u : Value) : (w.setCell p u).frozen? a = w.frozen? a := by
  unfold World.frozen? World.setCell
  dsimp only
  rw [Array.getElem?_modify]
  by_cases hb : p.block = a.block
  · rw [if_pos hb]
    cases w.heap[a.block]? with
    | none => rfl
    | some ob => cases ob <;> rfl
  · rw [if_neg hb]

theorem grownBy_setCell (w : World) (g o : Nat) (u : Value) : w.grownBy (w.setCell ⟨g, o, none⟩ u) (some g) := by
  refine ⟨rfl, rfl, rfl, ?_, ?_⟩
  · unfold World.setCell; simp
  · intro i hi hne
    unfold World.setCell
    dsimp only
    rw [Array.getElem?_modify, if_neg (fun e => hne (by rw [e]))]
theorem grownBy_drewN (w : World) (n : Nat) (row : Option Nat) : w.grownBy (w.drewN n) row := ⟨rfl, rfl, rfl, Nat.le_refl _, fun _ _ _ => rfl⟩

set_option maxHeartbeats 1000000 in
theorem next_any (g : Nat) (bs : List Int) (i : Nat) (w : World) (h : Rd w g bs i) :
    Calls Try.prog 45 #[.pointer (some ⟨g, 0, none⟩)] w fun e w' => e = .returned (.int .i64 (rdb bs i)) ∧ Rd w' g bs (adv bs i) ∧ w.grownBy w' (some g) := by
  obtain ⟨⟨A, c, hc0, hB, hA⟩, hc1, hfz, hle⟩ := h
  have HB := Aside.mk hB
  have HA := Aside.mk hA
  by_cases hi : i < bs.length
  · obtain ⟨b, off, rfl, hb, hcell⟩ := hB.at_ (by omega)
    have hx := hcell i hi
    have hr := hB.range (bs.getD i 0) (by rw [List.getD_eq_getElem?_getD, List.getElem?_eq_getElem hi]; exact List.getElem_mem hi)
    have hbg := hA (by omega) b off rfl
    have HCELL := Aside.mk hcell
    have HV : Aside (rdb bs i = bs.getD i 0 ∧ adv bs i = i + 1) := ⟨by unfold rdb adv; rw [if_pos hi, if_pos hi]; exact ⟨rfl, rfl⟩⟩
    have hl := hB.len
    have hil : (i : Int) < (bs.length : Int) := by omega
    have hi0 : (0 : Int) ≤ (i : Int) := by omega
    obtain ⟨hr0, hr1⟩ := hr
    obtain ⟨x, hxe⟩ : ∃ x, x = bs.getD i 0 := ⟨_, rfl⟩
    rw [← hxe] at hx hr0 hr1 HV
    have HBG := Aside.mk hbg
    have HL := Aside.mk hle
    have HC0 := Aside.mk hc0
    have HC1 := Aside.mk hc1
    have HF := Aside.mk hfz
    clear hcell hA hB hxe hbg hle hb
    go_enter Try.func45, Try.ntmps45
    go_wp2
    go_quiet (fail)
    go_wp2
    go_quiet (fail)
    go_wp2
    go_ret
    refine ⟨by rw [HV.out.1]; rfl, ?_, ?_⟩
    · rw [HV.out.2]
      obtain ⟨b0, off0, e0, hb0, hcell0⟩ := HB.out.at_ (by omega)
      have e0' := e0
      injection e0 with e0
      injection e0 with eb eo
      subst eb
      subst eo
      refine ⟨⟨_, c, ?_, ⟨HB.out.len, fun _ => ⟨b, off, rfl, ?_, fun j hj => ?_⟩, HB.out.range⟩, HA.out⟩, ?_, ?_, by omega⟩
      · rw [cell_setCell_ne (.inr (by simp))]; exact HC0.out
      · show b < (World.setCell _ _ _).heap.size
        unfold World.setCell; simpa using hb0
      · rw [cell_setCell_ne (.inl (by have := HBG.out; simp; omega))]
        exact hcell0 j hj
      · exact cell_setCell_same HC1.out
      · rw [frozen_setCell]; exact HF.out
    · exact World.grownBy.trans (grownBy_drewN _ _ _) (grownBy_setCell _ _ _ _)
  · have hge : (bs.length : Int) ≤ (i : Int) := by omega
    have HV : Aside (rdb bs i = 0 ∧ adv bs i = i) := ⟨by unfold rdb adv; rw [if_neg hi, if_neg hi]; exact ⟨rfl, rfl⟩⟩
    have HR : Aside (∀ n, Rd (w.drewN n) g bs i) := ⟨fun n => ⟨⟨A, c, hc0, ⟨hB.len, hB.at_, hB.range⟩, hA⟩, hc1, hfz, hle⟩⟩
    have hl := hB.len
    clear hA hB hle hi
    go_enter Try.func45, Try.ntmps45
    go_wp2
    go_quiet (fail)
    go_wp2
    go_ret
    exact ⟨by rw [HV.out.1]; rfl, by rw [HV.out.2]; exact HR.out _, grownBy_drewN _ _ _⟩

theorem take_bytes {w : World} {A : Option Addr} {bs : List Int} (h : BytesAt w A bs) (o : Obj) : BytesAt (w.alloc o) A (bs.take 500) := by
  have hle : (bs.take 500).length ≤ bs.length := by rw [List.length_take]; omega
  refine ⟨Nat.le_trans hle h.len, fun hp => ?_, fun x hx => h.range x (List.mem_of_mem_take hx)⟩
  obtain ⟨b, off, e, hb, hc⟩ := h.at_ (by omega)
  refine ⟨b, off, e, by show b < (w.heap.push o).size; simp; omega, fun j hj => ?_⟩
  have h1 : (w.alloc o).cell? ⟨b, off + j, none⟩ = w.cell? ⟨b, off + j, none⟩ := World.cell?_of_block (w := w) (Below.heap_alloc w o b hb)
  rw [h1, hc j (by omega)]
  rw [List.length_take] at hj
  congr 2
  simp only [List.getD_eq_getElem?_getD]
  rw [List.getElem?_take_of_lt (by omega)]

set_option maxHeartbeats 1000000 in
theorem open_any (A : Option Addr) (c : Nat) (bs : List Int) (w : World) (h : BytesAt w A bs) (hc : bs.length ≤ c) :
    Calls Try.prog 43 #[.slice A bs.length c] w fun e w' => ∃ g, e = .returned (.pointer (some ⟨g, 0, none⟩)) ∧ w.heap.size ≤ g ∧ Rd w' g (bs.take 500) 0 ∧ Below w.heap.size w w' := by
  have HB := Aside.mk h
  have hl := h.len
  have hcI : (bs.length : Int) ≤ (c : Int) := by omega
  have HC := Aside.mk hc
  have fin : ∀ n : Nat, n = (bs.take 500).length → Rd (w.alloc (.cells #[.slice A n c, .int .i64 0] 87)) w.heap.size (bs.take 500) 0 := by
    intro n hn
    refine ⟨⟨A, c, ?_, take_bytes h _, ?_⟩, ?_, ?_, by omega⟩
    · rw [hn]; unfold World.cell?; dsimp only; rw [heap_alloc_new]; rfl
    · intro h0 b off e
      rw [List.length_take] at h0
      obtain ⟨b', off', e', hb', _⟩ := h.at_ (by omega)
      rw [e] at e'
      injection e' with e'
      injection e' with e'
      omega
    · unfold World.cell?; dsimp only; rw [heap_alloc_new]; rfl
    · unfold World.frozen?; dsimp only; rw [heap_alloc_new]; rfl
  have FIN := Aside.mk fin
  clear h fin
  by_cases hgt : 500 < bs.length
  · have h5 : (500 : Int) < (bs.length : Int) := by omega
    have h5c : (500 : Int) ≤ (c : Int) := by omega
    have H5 := Aside.mk hgt
    clear hgt hc
    go_enter Try.func43, Try.ntmps43
    go_wp2
    go_ret
    exact ⟨_, rfl, Nat.le_refl _, FIN.out 500 (by rw [List.length_take]; have := H5.out; omega), (Below.refl _ _).alloc (Nat.le_refl _) _⟩
  · have h5 : (bs.length : Int) ≤ (500 : Int) := by omega
    have H5 := Aside.mk hgt
    clear hgt hc
    go_enter Try.func43, Try.ntmps43
    go_wp2
    go_ret
    exact ⟨_, rfl, Nat.le_refl _, FIN.out bs.length (by rw [List.length_take]; have := H5.out; omega), (Below.refl _ _).alloc (Nat.le_refl _) _⟩

/-- The float of a word, negated: no NaN is asked for. -/
def fneg (x : Nat) : Nat := canon (Op.negFloat .f64 x)
/-- The bits that eight bytes give. -/
def word8 (bs : List Int) : Nat → Int × Nat → Int × Nat
  | 0, p => p
  | n + 1, p => word8 bs n (IntKind.u64.wrap (IntKind.u64.wrap (p.1 * 256) + rdb bs p.2), adv bs p.2)
def oddF : List Nat := [0, 9223372036854775808, 9218868437227405312, 18442240474082181120, 9221120237041090560, 1, 9223372036854775809, 4503599627370496, 9218868437227405311, 18442240474082181119, 4607182418800017408, 13830554455654793216, 4591870180066957722, 4846369599423283200, 4841369599423283202, 20240225330731]
/-- A drawn float, and the place behind it. -/
def dF (bs : List Int) (i : Nat) : Nat × Nat :=
  let c := rdb bs i
  let j := adv bs i
  let k := c % 16
  let v := floatOfInt .f64 (c / 16)
  if k < 6 then (v, j)
  else if k < 9 then (fneg v, j)
  else if k = 9 then (fop .quo v 4620693217682128896, j)
  else if k = 10 then (fop .quo v (floatOfInt .f64 (rdb bs j + 1)), adv bs j)
  else if k = 11 then (oddF.getD (c / 16).toNat 0, j)
  else if k = 12 then (fop .mul v 9094988921128908188, j)
  else if k = 13 then (fop .mul (fneg v) 2024, j)
  else
    let p := word8 bs 8 (0, j)
    if k = 14 then (canon (bits .or .u64 p.1 (c / 16 * 576460752303423488)).toNat, p.2) else (canon p.1.toNat, p.2)

theorem fint_is (n : Int) (_h : 0 ≤ n) : Is (floatOfInt .f64 n) (floatOfInt .f64 n) := by
  refine .num ?_ (write_notNan (.number (decide (n < 0)) n.natAbs 0) rfl)
  have := floatOfInt_wf .f64 n
  simpa [Lit.wf] using this

theorem neg_lt {x : Nat} (h : x < 18446744073709551616) : Op.negFloat .f64 x < 18446744073709551616 := by
  obtain ⟨s, r, hr, rfl⟩ := word_of x h
  rw [negF s r hr]; exact word_lt' _ _ hr
theorem Is.neg {b x : Nat} (h : Is b x) : Is (Op.negFloat .f64 b) (fneg x) := by
  refine ⟨neg_lt h.lt, ?_⟩
  unfold fneg
  rw [← h.eq]
  obtain ⟨s, r, hr, rfl⟩ := word_of b h.lt
  cases hn : isNan (Ieee.double.word s r)
  · rw [canon_num hn]
  · rw [canon_nan hn, negF s r hr]
    rw [isNan_word s r hr] at hn
    rw [canon_nan (by rw [isNan_word _ r hr]; exact hn)]
    decide
theorem run_neg' (x : Nat) (wx : World) : (Op.unary .neg (.float .f64 x)).run Try.prog wx = .ok (.float .f64 (Op.negFloat .f64 x)) wx := run_neg x _ rfl wx

/-- What is told of the world behind a step of the reader. -/
structure Drew (w w' : World) (g : Nat) (bs : List Int) (i : Nat) : Prop where
  rd : Rd w' g bs i
  grown : w.grownBy w' (some g)

theorem Rd.drewN {w : World} {g : Nat} {bs : List Int} {i : Nat} (h : Rd w g bs i) (n : Nat) : Rd (w.drewN n) g bs i := by
  obtain ⟨⟨A, c, h0, hB, hA⟩, h1, hf, hl⟩ := h
  exact ⟨⟨A, c, h0, ⟨hB.len, hB.at_, hB.range⟩, hA⟩, h1, hf, hl⟩
theorem Drew.drewN {w w' : World} {g : Nat} {bs : List Int} {i : Nat} (h : Drew w w' g bs i) (n : Nat) : Drew w (w'.drewN n) g bs i := ⟨h.rd.drewN n, h.grown.trans (grownBy_drewN _ _ _)⟩
theorem BytesAt.grown {w w' : World} {A : Option Addr} {bs : List Int} {row : Option Nat} (h : BytesAt w A bs) (hg : w.grownBy w' row) (hne : 0 < bs.length → ∀ b off, A = some ⟨b, off, none⟩ → some b ≠ row) : BytesAt w' A bs := by
  refine ⟨h.len, fun hp => ?_, h.range⟩
  obtain ⟨b, off, e, hb, hc⟩ := h.at_ hp
  refine ⟨b, off, e, Nat.lt_of_lt_of_le hb hg.size, fun j hj => ?_⟩
  rw [World.cell?_of_block (w := w) (hg.block b hb (hne hp b off e))]
  exact hc j hj
theorem Rd.alloc {w : World} {g : Nat} {bs : List Int} {i : Nat} (h : Rd w g bs i) (o : Obj) : Rd (w.alloc o) g bs i := by
  have hg := h.lt
  obtain ⟨⟨A, c, h0, hB, hA⟩, h1, hf, hl⟩ := h
  have e := Below.heap_alloc w o g hg
  refine ⟨⟨A, c, ?_, hB.grown (World.grownBy_alloc w o none) (fun _ _ _ _ => by simp), hA⟩, ?_, ?_, hl⟩
  · rw [World.cell?_of_block (w := w) (a := ⟨g, 0, none⟩) e]; exact h0
  · rw [World.cell?_of_block (w := w) (a := ⟨g, 1, none⟩) e]; exact h1
  · rw [World.frozen?_of_block (w := w) (a := ⟨g, 1, none⟩) e]; exact hf
theorem Drew.alloc {w w' : World} {g : Nat} {bs : List Int} {i : Nat} (h : Drew w w' g bs i) (o : Obj) : Drew w (w'.alloc o) g bs i := ⟨h.rd.alloc o, h.grown.trans (World.grownBy_alloc _ _ _)⟩

theorem Rd.range {w : World} {g : Nat} {bs : List Int} {i : Nat} (h : Rd w g bs i) : 0 ≤ rdb bs i ∧ rdb bs i < 256 := by
  obtain ⟨⟨A, c, h0, hB, hA⟩, h1, hf, hl⟩ := h
  exact rdb_range hB i

/-- A drawn float's contract. -/
def DrawsF (g : Nat) (bs : List Int) (i : Nat) (w : World) (e : Ending) (w' : World) : Prop := ∃ b, e = .returned (.float .f64 b) ∧ Is b (dF bs i).1 ∧ Drew w w' g bs (dF bs i).2

set_option maxHeartbeats 2000000 in
set_option maxRecDepth 100000 in
theorem drawFloat_any (g : Nat) (bs : List Int) (i : Nat) (w : World) (h : Rd w g bs i) :
    Calls Try.prog 44 #[.pointer (some ⟨g, 0, none⟩)] w (DrawsF g bs i w) := by
  have H := Aside.mk h
  have hc : 0 ≤ rdb bs i ∧ rdb bs i < 256 := by obtain ⟨⟨A, c, h0, hB, hA⟩, h1, hf, hl⟩ := h; exact rdb_range hB i
  have hcj : 0 ≤ rdb bs (adv bs i) ∧ rdb bs (adv bs i) < 256 := by obtain ⟨⟨A, c, h0, hB, hA⟩, h1, hf, hl⟩ := h; exact rdb_range hB _
  have HD := Aside.mk (show dF bs i = _ from rfl)
  have HCJ := Aside.mk hcj
  have kneg := run_neg'
  clear h hcj
  go_enter Try.func44, Try.ntmps44
  go_wp2_with fail
  refine (next_any g bs i _ H.out).mono ?_
  rintro e w1 ⟨rfl, hr, hg⟩
  have HR : Aside (Drew w w1 g bs (adv bs i)) := ⟨⟨hr, hg⟩⟩
  clear hr hg
  have HI : Aside (Is (floatOfInt .f64 (rdb bs i / 16)) (floatOfInt .f64 (rdb bs i / 16))) := ⟨fint_is _ (by omega)⟩
  obtain ⟨hc0, hc1⟩ := hc
  by_cases h6 : rdb bs i % 16 < 6
  · have HF : Aside (dF bs i = (floatOfInt .f64 (rdb bs i / 16), adv bs i)) := ⟨by unfold dF; dsimp only; rw [if_pos h6]⟩
    generalize rdb bs i = c at *
    go_wp2
    go_ret
    exact ⟨_, rfl, by rw [HF.out]; exact HI.out, by rw [HF.out]; exact HR.out⟩
  · by_cases h9 : rdb bs i % 16 < 9
    · have HF : Aside (dF bs i = (fneg (floatOfInt .f64 (rdb bs i / 16)), adv bs i)) := ⟨by unfold dF; dsimp only; rw [if_neg h6, if_pos h9]⟩
      generalize rdb bs i = c at *
      go_wp2
      go_ret
      exact ⟨_, rfl, by rw [HF.out]; exact HI.out.neg, by rw [HF.out]; exact HR.out⟩
    · by_cases e9 : rdb bs i % 16 = 9
      · have HF : Aside (dF bs i = (fop .quo (floatOfInt .f64 (rdb bs i / 16)) 4620693217682128896, adv bs i)) := ⟨by unfold dF; dsimp only; rw [if_neg h6, if_neg h9, if_pos e9]⟩
        generalize rdb bs i = c at *
        go_wp2_with (refine wpList_flt rfl .quo _ _ _ _ rfl _ _ rfl rfl (by simp) ?_; intro b2 m2 hb2 hc2; have HB2 := Aside.mk (is_fop _ hb2 hc2); clear hb2 hc2)
        go_ret
        exact ⟨_, rfl, by rw [HF.out]; exact HB2.out, by rw [HF.out]; exact HR.out.drewN _⟩
      · by_cases e10 : rdb bs i % 16 = 10
        · have HF : Aside (dF bs i = (fop .quo (floatOfInt .f64 (rdb bs i / 16)) (floatOfInt .f64 (rdb bs (adv bs i) + 1)), adv bs (adv bs i))) := ⟨by unfold dF; dsimp only; rw [if_neg h6, if_neg h9, if_neg e9, if_pos e10]⟩
          generalize rdb bs i = c at *
          generalize adv bs i = j at *
          have e9b : (c % 16 == 9) = false := by rw [beq_eq_false_iff_ne]; exact e9
          go_wp2_with fail
          refine (next_any g bs j _ HR.out.rd).mono ?_
          rintro e w2 ⟨rfl, hr, hg⟩
          have HR2 : Aside (Drew w w2 g bs (adv bs j)) := ⟨⟨hr, HR.out.grown.trans hg⟩⟩
          clear hr hg
          have hj0 := HCJ.out.1
          have hj1 := HCJ.out.2
          generalize rdb bs j = d at *
          have HI2 : Aside (Is (floatOfInt .f64 (d + 1)) (floatOfInt .f64 (d + 1))) := ⟨fint_is _ (by omega)⟩
          go_wp2_with (refine wpList_flt rfl .quo _ _ _ _ rfl _ _ rfl rfl (by simp) ?_; intro b2 m2 hb2 hc2; have HB2 := Aside.mk (is_fop _ hb2 hc2); clear hb2 hc2)
          go_ret
          exact ⟨_, rfl, by rw [HF.out]; exact HB2.out, by rw [HF.out]; exact HR2.out.drewN _⟩
        · by_cases e11 : rdb bs i % 16 = 11
          · have HF : Aside (dF bs i = (oddF.getD (rdb bs i / 16).toNat 0, adv bs i)) := ⟨by unfold dF; dsimp only; rw [if_neg h6, if_neg h9, if_neg e9, if_neg e10, if_pos e11]⟩
            have ko1 := one_zero
            have ko2 : ∀ wx : World, (binOp .quo 23 (.float .f64 13830554455654793216) (.float .f64 0)).run Try.prog wx = .ok (.float .f64 18442240474082181120) wx := by intro wx; kernel_rfl
            have ko3 := run_zero_zero
            have kn0 : Op.negFloat .f64 0 = 9223372036854775808 := by decide
            obtain ⟨q, hq⟩ : ∃ q : Nat, rdb bs i = 11 + 16 * (q : Int) := ⟨(rdb bs i / 16).toNat, by omega⟩
            have hq16 : q < 16 := by omega
            have HN := Aside.mk (nanOf_spec 0 0 w1)
            rw [hq] at HF HI ⊢
            clear h6 h9 e9 e10 e11 hc0 hc1 HD HCJ
            rw [show ((11 + 16 * (q : Int)) / 16).toNat = q by omega] at HF
            match q, hq16 with
            | 0, _ =>
              rw [show (11 + 16 * ((0 : Nat) : Int)) = 11 from rfl] at HI ⊢
              go_wp2
              go_ret
              exact ⟨_, rfl, by rw [HF.out]; exact .num (by decide) (by decide), by rw [HF.out]; exact (HR.out.drewN 1).alloc _⟩
            | 1, _ =>
              rw [show (11 + 16 * ((1 : Nat) : Int)) = 27 from rfl] at HI ⊢
              go_wp2
              go_ret
              exact ⟨_, rfl, by rw [HF.out]; exact .num (by decide) (by decide), by rw [HF.out]; exact (HR.out.drewN 1).alloc _⟩
            | 2, _ =>
              rw [show (11 + 16 * ((2 : Nat) : Int)) = 43 from rfl] at HI ⊢
              go_wp2
              go_ret
              exact ⟨_, rfl, by rw [HF.out]; exact .num (by decide) (by decide), by rw [HF.out]; exact (HR.out.drewN 1).alloc _⟩
            | 3, _ =>
              rw [show (11 + 16 * ((3 : Nat) : Int)) = 59 from rfl] at HI ⊢
              go_wp2
              go_ret
              exact ⟨_, rfl, by rw [HF.out]; exact .num (by decide) (by decide), by rw [HF.out]; exact (HR.out.drewN 1).alloc _⟩
            | 4, _ =>
              rw [show (11 + 16 * ((4 : Nat) : Int)) = 75 from rfl] at HI ⊢
              go_wp2
              go_ret
              exact ⟨_, rfl, by rw [HF.out]; exact ⟨HN.out.1, canon_nan HN.out.2⟩, by rw [HF.out]; exact (HR.out.drewN 1).alloc _⟩
            | 5, _ =>
              rw [show (11 + 16 * ((5 : Nat) : Int)) = 91 from rfl] at HI ⊢
              go_wp2
              go_ret
              exact ⟨_, rfl, by rw [HF.out]; exact .num (by decide) (by decide), by rw [HF.out]; exact (HR.out.drewN 1).alloc _⟩
            | 6, _ =>
              rw [show (11 + 16 * ((6 : Nat) : Int)) = 107 from rfl] at HI ⊢
              go_wp2
              go_ret
              exact ⟨_, rfl, by rw [HF.out]; exact .num (by decide) (by decide), by rw [HF.out]; exact (HR.out.drewN 1).alloc _⟩
            | 7, _ =>
              rw [show (11 + 16 * ((7 : Nat) : Int)) = 123 from rfl] at HI ⊢
              go_wp2
              go_ret
              exact ⟨_, rfl, by rw [HF.out]; exact .num (by decide) (by decide), by rw [HF.out]; exact (HR.out.drewN 1).alloc _⟩
            | 8, _ =>
              rw [show (11 + 16 * ((8 : Nat) : Int)) = 139 from rfl] at HI ⊢
              go_wp2
              go_ret
              exact ⟨_, rfl, by rw [HF.out]; exact .num (by decide) (by decide), by rw [HF.out]; exact (HR.out.drewN 1).alloc _⟩
            | 9, _ =>
              rw [show (11 + 16 * ((9 : Nat) : Int)) = 155 from rfl] at HI ⊢
              go_wp2
              go_ret
              exact ⟨_, rfl, by rw [HF.out]; exact .num (by decide) (by decide), by rw [HF.out]; exact (HR.out.drewN 1).alloc _⟩
            | 10, _ =>
              rw [show (11 + 16 * ((10 : Nat) : Int)) = 171 from rfl] at HI ⊢
              go_wp2
              go_ret
              exact ⟨_, rfl, by rw [HF.out]; exact .num (by decide) (by decide), by rw [HF.out]; exact (HR.out.drewN 1).alloc _⟩
            | 11, _ =>
              rw [show (11 + 16 * ((11 : Nat) : Int)) = 187 from rfl] at HI ⊢
              go_wp2
              go_ret
              exact ⟨_, rfl, by rw [HF.out]; exact .num (by decide) (by decide), by rw [HF.out]; exact (HR.out.drewN 1).alloc _⟩
            | 12, _ =>
              rw [show (11 + 16 * ((12 : Nat) : Int)) = 203 from rfl] at HI ⊢
              go_wp2
              go_ret
              exact ⟨_, rfl, by rw [HF.out]; exact .num (by decide) (by decide), by rw [HF.out]; exact (HR.out.drewN 1).alloc _⟩
            | 13, _ =>
              rw [show (11 + 16 * ((13 : Nat) : Int)) = 219 from rfl] at HI ⊢
              go_wp2
              go_ret
              exact ⟨_, rfl, by rw [HF.out]; exact .num (by decide) (by decide), by rw [HF.out]; exact (HR.out.drewN 1).alloc _⟩
            | 14, _ =>
              rw [show (11 + 16 * ((14 : Nat) : Int)) = 235 from rfl] at HI ⊢
              go_wp2
              go_ret
              exact ⟨_, rfl, by rw [HF.out]; exact .num (by decide) (by decide), by rw [HF.out]; exact (HR.out.drewN 1).alloc _⟩
            | 15, _ =>
              rw [show (11 + 16 * ((15 : Nat) : Int)) = 251 from rfl] at HI ⊢
              go_wp2
              go_ret
              exact ⟨_, rfl, by rw [HF.out]; exact .num (by decide) (by decide), by rw [HF.out]; exact (HR.out.drewN 1).alloc _⟩
            | n + 16, h => exact absurd h (by omega)
          · by_cases e12 : rdb bs i % 16 = 12
            · have HF : Aside (dF bs i = (fop .mul (floatOfInt .f64 (rdb bs i / 16)) 9094988921128908188, adv bs i)) := ⟨by unfold dF; dsimp only; rw [if_neg h6, if_neg h9, if_neg e9, if_neg e10, if_neg e11, if_pos e12]⟩
              generalize rdb bs i = c at *
              go_wp2_with (refine wpList_flt rfl .mul _ _ _ _ rfl _ _ rfl rfl (by simp) ?_; intro b2 m2 hb2 hc2; have HB2 := Aside.mk (is_fop _ hb2 hc2); clear hb2 hc2)
              go_ret
              exact ⟨_, rfl, by rw [HF.out]; exact HB2.out, by rw [HF.out]; exact HR.out.drewN _⟩
            · by_cases e13 : rdb bs i % 16 = 13
              · have HF : Aside (dF bs i = (fop .mul (fneg (floatOfInt .f64 (rdb bs i / 16))) 2024, adv bs i)) := ⟨by unfold dF; dsimp only; rw [if_neg h6, if_neg h9, if_neg e9, if_neg e10, if_neg e11, if_neg e12, if_pos e13]⟩
                generalize rdb bs i = c at *
                have HN := Aside.mk HI.out.neg
                go_wp2_with (refine wpList_flt rfl .mul _ _ _ _ rfl _ _ rfl rfl (by simp) ?_; intro b2 m2 hb2 hc2; have HB2 : Aside (Is b2 (fop .mul (fneg (floatOfInt .f64 (c / 16))) 2024)) := ⟨.mk' _ hb2 hc2 (HN.out.op _ (.num (by omega) (by decide)))⟩; clear hb2 hc2)
                go_ret
                exact ⟨_, rfl, by rw [HF.out]; exact HB2.out, by rw [HF.out]; exact HR.out.drewN _⟩
              · have HF : Aside (dF bs i = if rdb bs i % 16 = 14 then (canon (bits .or .u64 (word8 bs 8 (0, adv bs i)).1 (rdb bs i / 16 * 576460752303423488)).toNat, (word8 bs 8 (0, adv bs i)).2) else (canon (word8 bs 8 (0, adv bs i)).1.toNat, (word8 bs 8 (0, adv bs i)).2)) := ⟨by unfold dF; dsimp only; rw [if_neg h6, if_neg h9, if_neg e9, if_neg e10, if_neg e11, if_neg e12, if_neg e13]⟩
                generalize rdb bs i = c at *
                generalize adv bs i = j at *
                have e6b : decide (c % 16 < 6) = false := decide_eq_false h6
                have e9c : decide (c % 16 < 9) = false := decide_eq_false h9
                have e9b : (c % 16 == 9) = false := by rw [beq_eq_false_iff_ne]; exact e9
                have e10b : (c % 16 == 10) = false := by rw [beq_eq_false_iff_ne]; exact e10
                have e11b : (c % 16 == 11) = false := by rw [beq_eq_false_iff_ne]; exact e11
                have e12b : (c % 16 == 12) = false := by rw [beq_eq_false_iff_ne]; exact e12
                have e13b : (c % 16 == 13) = false := by rw [beq_eq_false_iff_ne]; exact e13
                clear e9 e10 e11 e12 e13 h6 h9
                go_wp2
                go_loopw [9, 10] (fun b i wr => ∃ (k p : Nat) (x : Int), k ≤ 8 ∧ i = .int .i64 k ∧ b = .int .u64 x ∧ 0 ≤ x ∧ x < 18446744073709551616 ∧ Aside (word8 bs (8 - k) (x, p) = word8 bs 8 (0, j)) ∧ Aside (Drew w wr g bs p)) (fun _ i _ => 8 - (intOf i).toNat)
                case atStart => exact ⟨0, j, 0, by omega, rfl, rfl, by omega, by omega, ⟨rfl⟩, HR⟩
                case round =>
                  obtain ⟨k, p, x, hk, rfl, rfl, hx0, hx1, HW, HP⟩ := hrel
                  by_cases hlt : k < 8
                  · go_wp2_with fail
                    refine (next_any g bs p _ HP.out.rd).mono ?_
                    rintro e w2 ⟨rfl, hr, hg⟩
                    have HR2 : Aside (Drew w w2 g bs (adv bs p)) := ⟨⟨hr, HP.out.grown.trans hg⟩⟩
                    clear hr hg
                    have hd := HP.out.rd.range
                    obtain ⟨hd0, hd1⟩ := hd
                    generalize hdd : rdb bs p = d at *
                    have HDD := Aside.mk hdd
                    clear hdd
                    go_wp2
                    go_roundw
                    case rel => exact ⟨k + 1, _, _, by omega, by go_num, rfl, by rw [IntKind.wrap_u64]; omega, by rw [IntKind.wrap_u64]; omega, ⟨by rw [← HW.out, show 8 - k = (8 - (k + 1)) + 1 by omega]; show _ = word8 bs (8 - (k + 1)) (IntKind.u64.wrap (IntKind.u64.wrap (x * 256) + rdb bs p), adv bs p); rw [HDD.out]⟩, HR2⟩
                    case measure => simp [intOf]; omega
                  · obtain rfl : k = 8 := by omega
                    have HW2 : Aside ((x, p) = word8 bs 8 (0, j)) := ⟨HW.out⟩
                    by_cases e14 : c % 16 = 14
                    · have e14b : (c % 16 == 14) = true := by rw [beq_iff_eq]; exact e14
                      have hbits : 0 ≤ bits .or .u64 x (c / 16 * 576460752303423488) ∧ bits .or .u64 x (c / 16 * 576460752303423488) < 18446744073709551616 := by
                        rw [u64_or x _ hx0 hx1 (by omega) (by omega)]
                        have := Nat.or_lt_two_pow (n := 64) (x := x.toNat) (y := (c / 16 * 576460752303423488).toNat) (by omega) (by omega)
                        omega
                      have HBT := Aside.mk hbits
                      clear hbits
                      go_wp2_with fail
                      refine (sFloatFrom_any _ _ HBT.out.1 HBT.out.2).mono ?_
                      rintro e w2 ⟨r, n, rfl, hrl, hrc, rfl⟩
                      have HQ := Aside.mk (And.intro hrl hrc)
                      clear hrl hrc
                      go_wp2
                      go_ret
                      have e5 : dF bs i = (canon (bits .or .u64 x (c / 16 * 576460752303423488)).toNat, p) := by rw [HF.out, if_pos e14, ← HW2.out]
                      exact ⟨_, rfl, by rw [e5]; exact ⟨HQ.out.1, HQ.out.2⟩, by rw [e5]; exact HP.out.drewN _⟩
                    · have e14b : (c % 16 == 14) = false := by rw [beq_eq_false_iff_ne]; exact e14
                      have HBT := Aside.mk (And.intro hx0 hx1)
                      go_wp2_with fail
                      refine (sFloatFrom_any _ _ HBT.out.1 HBT.out.2).mono ?_
                      rintro e w2 ⟨r, n, rfl, hrl, hrc, rfl⟩
                      have HQ := Aside.mk (And.intro hrl hrc)
                      clear hrl hrc
                      go_wp2
                      go_ret
                      have e5 : dF bs i = (canon x.toNat, p) := by rw [HF.out, if_neg e14, ← HW2.out]
                      exact ⟨_, rfl, by rw [e5]; exact ⟨HQ.out.1, HQ.out.2⟩, by rw [e5]; exact HP.out.drewN _⟩

end Go.Proofs.Ytkmhbppimkphbaa
