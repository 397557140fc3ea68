/- Verify, the program's side: what a span's cells hold. Conditions: codes as the laws let them in. Verify, the program's side. Conditions: codes as the laws let them in. -/
import Derived.Test.YthcnnificgbmhaaVerb
set_option linter.unusedVariables false
set_option linter.unusedSimpArgs false
namespace Go.Proofs.Ythcnnificgbmhaa
open Go.Am

/-- The cells that the first i steps wrote, and of one more step t of its cells. -/
def wrL (steps : List Step) (i : Nat) (peak : Int) (d t : Int) : List Bool := (List.range peak.toNat).map fun j : Nat => wroteB steps i j || decide (d ≤ (j : Int) ∧ (j : Int) < d + t)
@[simp] theorem wrL_len (steps : List Step) (i : Nat) (peak d t : Int) : (wrL steps i peak d t).length = peak.toNat := by simp [wrL]
theorem wrL_get {steps : List Step} {i : Nat} {peak d t : Int} {j : Nat} (h : j < peak.toNat) : (wrL steps i peak d t)[j]'(by simpa using h) = (wroteB steps i j || decide (d ≤ (j : Int) ∧ (j : Int) < d + t)) := by simp [wrL]
def knownB (peak : Int) (W : List Bool) (s : Span) : Bool := decide (0 ≤ s.off ∧ 0 ≤ s.len ∧ s.off ≤ peak - s.len) && !((W.drop s.off.toNat).take s.len.toNat).any fun x => false == x
theorem known_span {steps : List Step} {i : Nat} {peak d : Int} (s : Span) : spanB peak steps i s.off s.len = (decide (1 ≤ s.len ∧ s.len ≤ 1000) && knownB peak (wrL steps i peak d 0) s) := by
  unfold spanB knownB
  by_cases h : 1 ≤ s.len ∧ s.len ≤ 1000 ∧ 0 ≤ s.off ∧ s.off ≤ peak - s.len
  · rw [show decide (1 ≤ s.len ∧ s.len ≤ 1000 ∧ 0 ≤ s.off ∧ s.off ≤ peak - s.len) = true by simpa using h, show decide (1 ≤ s.len ∧ s.len ≤ 1000) = true by simp; omega, show decide (0 ≤ s.off ∧ 0 ≤ s.len ∧ s.off ≤ peak - s.len) = true by simp; omega]
    simp only [Bool.true_and]
    rw [Bool.eq_iff_iff]
    simp only [List.all_eq_true, List.mem_range, Bool.not_eq_true', List.any_eq_false, List.mem_take_iff_getElem, List.getElem_drop]
    constructor
    · rintro hh x ⟨j, hj, rfl⟩
      have hj1 : j < s.len.toNat := by omega
      have := hh j hj1
      rw [wrL_get (by simp at hj; omega)]
      rw [show (((s.off.toNat + j : Nat) : Int)) = s.off + j by omega, this]
      simp
    · intro hh j hj
      have hlt : s.off.toNat + j < peak.toNat := by omega
      have := hh _ ⟨j, by simp; omega, rfl⟩
      rw [wrL_get hlt] at this
      rw [show (((s.off.toNat + j : Nat) : Int)) = s.off + j by omega] at this
      have hd : decide (d ≤ s.off + (j : Int) ∧ s.off + (j : Int) < d + 0) = false := by simp
      rw [hd] at this
      simpa using this
  · rw [show decide (1 ≤ s.len ∧ s.len ≤ 1000 ∧ 0 ≤ s.off ∧ s.off ≤ peak - s.len) = false by simpa using h]
    simp only [Bool.false_and]
    symm
    rw [Bool.eq_false_iff]
    intro e
    simp only [Bool.and_eq_true, decide_eq_true_eq] at e
    omega

/-- What lies in the blocks that the program's closures hold: the code, the slice of what is written, its cells. -/
structure VB (K : Heap) (B : Nat) (p q r : Option Addr) (c : Code') (W : List Bool) : Prop where
  code : K.blk B = some (.cells [sv p c.ins, sv q c.steps, sv r c.outs, .int .i64 c.peak] 4 true)
  hdr : K.blk (B + 2) = some (.cells [sv (some ⟨B + 1, 0, none⟩) W] 1 true)
  cells : K.blk (B + 1) = some (.cells (flat dBool W) 1 true)
theorem cell_of {H : Heap} {b : Nat} {cs : List Value} {esz : Nat} {rw_ : Bool} (h : H.blk b = some (.cells cs esz rw_)) (o : Nat) : H.cell? b o = cs[o]? := by unfold Heap.cell?; rw [h]
theorem known_pc (K : Heap) (B : Nat) (p q r : Option Addr) (c : Code') (W : List Bool) (h : VB K B p q r c W) (hW : W.length = c.peak.toNat) (hp : 0 ≤ c.peak ∧ c.peak ≤ 50000) (s : Span) (hs : s.len ≤ 9223372036854775807) :
    PC Try.prog 44 [spanV s, .pointer (some ⟨B, 0, none⟩), .pointer (some ⟨B + 2, 0, none⟩)] K (.bool (knownB c.peak W s)) := by
  have hR : Rd dBool K (some ⟨B + 1, 0, none⟩) W := Rd.blk h.cells
  refine EC_fn ctx (fun _ => true) Try.func44 rfl rfl rfl ?_
  refine ⟨.int .i64 c.peak, (cell_of h.code 3), _, within_pc K s c.peak hp.1 hp.2 hs, ?_, fun v K hR => by cases hR.1⟩
  rintro _ K ⟨hx, rfl⟩
  cases hx
  refine ⟨sv (some ⟨B + 1, 0, none⟩) W, fun _ => (cell_of h.hdr 0), ?_⟩
  have hin : (0 ≤ s.off ∧ 0 ≤ s.len ∧ s.off ≤ c.peak - s.len) → IntKind.i64.wrap (s.off + s.len) = s.off + s.len := fun hh => wrap_i64 (by omega) (by omega)
  refine ⟨fun hg => ?_, .bool (((W.drop s.off.toNat).take s.len.toNat).any fun x => false == x), fun hg => ?_, ?_⟩
  · have hh : 0 ≤ s.off ∧ 0 ≤ s.len ∧ s.off ≤ c.peak - s.len := by simpa using hg
    rw [hin hh]
    exact ⟨hh.1, by omega, by omega, _, _, h.cells⟩
  · have hh : 0 ≤ s.off ∧ 0 ≤ s.len ∧ s.off ≤ c.peak - s.len := by simpa using hg
    rw [hin hh]
    have hsub := hR.sub (l := s.off.toNat) (n := s.len.toNat) (by omega)
    have hlen : ((W.drop s.off.toNat).take s.len.toNat).length = (s.off + s.len).toNat - s.off.toNat := by simp; omega
    have := containsBool_pc K _ _ hsub (by rw [hlen]; omega) false
    rw [show sv _ _ = _ from congrArg (fun n => Value.slice _ n n) hlen] at this
    exact this
  refine pbool ?_
  unfold knownB
  simp
theorem notLen_pc (H : Heap) (n : Int) : PC Try.prog 42 [.int .i64 n] H (.bool (!okLen n)) := by
  refine EC_fn ctx (fun _ => true) Try.func42 rfl rfl rfl ?_
  refine ⟨_, lenOk_pc H _, ?_, fun v K hR => by cases hR.1⟩
  rintro _ K ⟨hx, rfl⟩
  cases hx
  exact pbool rfl
def badB (peak : Int) (W : List Bool) (s : Span) : Bool := !okLen s.len || !knownB peak W s
theorem bad_pc (K : Heap) (B : Nat) (p q r : Option Addr) (c : Code') (W : List Bool) (h : VB K B p q r c W) (hf : K.blk (B + 3) = some (.cells [.func (.func 44) #[] #[.pointer (some ⟨B, 0, none⟩), .pointer (some ⟨B + 2, 0, none⟩)]] 1 true))
    (hW : W.length = c.peak.toNat) (hp : 0 ≤ c.peak ∧ c.peak ≤ 50000) (s : Span) :
    PC Try.prog 51 [spanV s, .pointer (some ⟨B + 3, 0, none⟩)] K (.bool (badB c.peak W s)) := by
  refine EC_fn ctx (fun _ => true) Try.func51 rfl rfl rfl ?_
  refine ⟨_, lenOk_pc K _, ?_, fun v K hR => by cases hR.1⟩
  rintro _ K ⟨hx, rfl⟩
  cases hx
  refine ⟨.func (.func 44) #[] #[.pointer (some ⟨B, 0, none⟩), .pointer (some ⟨B + 2, 0, none⟩)], fun _ => (cell_of hf 0), ?_⟩
  refine ⟨.bool (knownB c.peak W s), fun hg => known_pc K B p q r c W h hW hp s ?_, ?_⟩
  · have : okLen s.len = true := by simpa using hg
    simp [okLen] at this; omega
  refine pbool ?_
  unfold badB
  simp
end Go.Proofs.Ythcnnificgbmhaa

set_option linter.unusedVariables false
namespace Go.Proofs.Ythcnnificgbmhaa
open Go.Am

theorem fits_len {v : Val} {a b c : Int} (hv : okLen v.len = true) (h0 : ¬ v.op = 0) (h1 : ¬ v.op = 1) (h13 : v.op ≤ 13 ∧ 0 ≤ v.op) (h : fitsB v a b c = true) : okLen a = true := by
  unfold fitsB at h
  by_cases he : eachB v.op = true
  · rw [if_pos he, decide_eq_true_eq] at h; rw [h.1]; exact hv
  rw [if_neg he] at h
  by_cases h9 : v.op = 9
  · rw [if_pos h9, Bool.and_eq_true] at h; exact h.2
  rw [if_neg h9] at h
  by_cases h11 : v.op = 11
  · rw [if_pos h11, Bool.and_eq_true, Bool.and_eq_true] at h; exact h.1.2
  rw [if_neg h11] at h
  by_cases h10 : v.op = 10
  · rw [if_pos h10, decide_eq_true_eq] at h; rw [h]; rfl
  rw [if_neg h10] at h
  by_cases h12 : v.op = 12
  · rw [if_pos h12, decide_eq_true_eq] at h; rw [h.1]; rfl
  exfalso
  simp [eachB] at he
  omega
theorem form_len {ins : List Int} {s : Step} (h : formB ins s = true) {k : Int} (h0 : 0 ≤ k) (hk : k < opnd s.op) : okLen (stepLen s k) = true := by
  unfold formB at h
  simp only [Bool.and_eq_true, decide_eq_true_eq] at h
  obtain ⟨⟨⟨h13, h2⟩, _⟩, h4⟩ := h
  unfold stepLen
  by_cases hk0 : k = 0
  · rw [if_pos hk0]
    by_cases e0 : s.op = 0
    · rw [e0] at hk; simp [opnd] at hk; omega
    by_cases e1 : s.op = 1
    · rw [e1] at hk; simp [opnd] at hk; omega
    rw [if_neg e0, if_neg e1] at h4
    exact fits_len (v := stepVal s) h2 e0 e1 ⟨h13.2, h13.1⟩ h4
  · rw [if_neg hk0]; exact h2
theorem readsL_get {s : Step} {j : Nat} (h : j < (opnd s.op).toNat) : (readsL s)[j]? = some ⟨stepField s j, stepLen s j⟩ := by
  have := opnd_range s.op
  have hj : j = 0 ∨ j = 1 ∨ j = 2 := by omega
  unfold readsL
  rw [List.getElem?_take, if_pos h]
  rcases hj with rfl | rfl | rfl <;> rfl
theorem readsL_len (s : Step) : (readsL s).length = (opnd s.op).toNat := by
  have := opnd_range s.op
  simp [readsL]; omega
theorem opB_eq {ins : List Int} {s : Step} {steps : List Step} {i : Nat} {peak d : Int} (h : formB ins s = true) {j : Nat} (hj : j < (opnd s.op).toNat) :
    opB peak steps i s j = (knownB peak (wrL steps i peak d 0) ⟨stepField s j, stepLen s j⟩ && !meetsB ⟨stepField s j, stepLen s j⟩ ⟨s.dst, s.len⟩) := by
  have hok := form_len h (k := j) (by omega) (by omega)
  unfold opB
  rw [known_span (d := d) ⟨stepField s j, stepLen s j⟩]
  simp only
  rw [show decide (1 ≤ stepLen s j ∧ stepLen s j ≤ 1000) = true from hok, Bool.true_and, meetsB]
theorem wrL_start (steps : List Step) (i : Nat) (peak d : Int) : wrL steps i peak d 0 = wrL steps i peak 0 0 := by
  unfold wrL
  apply List.map_congr_left
  intro j hj
  rw [show decide (d ≤ (j : Int) ∧ (j : Int) < d + 0) = false by simp, show decide ((0 : Int) ≤ (j : Int) ∧ (j : Int) < 0 + 0) = false by simp]
theorem wrL_zero (steps : List Step) (peak : Int) : wrL steps 0 peak 0 0 = List.replicate peak.toNat false := by
  apply List.ext_getElem
  · simp
  · intro j h1 h2
    rw [wrL_get (by simpa using h1)]
    simp [wroteB]
theorem wrL_set (steps : List Step) (i : Nat) (peak d t : Int) (h0 : 0 ≤ d) (ht : 0 ≤ t) (hlt : d + t < peak) : (wrL steps i peak d t).set (d + t).toNat true = wrL steps i peak d (t + 1) := by
  apply List.ext_getElem
  · simp
  · intro j h1 h2
    rw [List.getElem_set, wrL_get (d := d) (t := t + 1) (by simpa using h2)]
    split
    · rename_i e
      rw [show decide (d ≤ (j : Int) ∧ (j : Int) < d + (t + 1)) = true by simp; omega]; simp
    · rw [wrL_get (by simpa using h2)]
      congr 1
      rw [decide_eq_decide]; omega
theorem wrL_end {steps : List Step} {i : Nat} {s : Step} (hi : steps[i]? = some s) (peak : Int) : wrL steps i peak s.dst s.len = wrL steps (i + 1) peak 0 0 := by
  unfold wrL
  apply List.map_congr_left
  intro j hj
  unfold wroteB
  obtain ⟨hlt, rfl⟩ := List.getElem?_eq_some_iff.1 hi
  rw [List.take_succ_eq_append_getElem hlt, List.any_append]
  simp [hitsB]
  omega
/-- Of impl.Verify's boxes, those that its closures capture are blocks. -/
def verPv : Nat → Bool
  | 1 => false
  | 3 => false
  | 4 => false
  | _ => true
theorem stor_at {K : Heap} {b : Nat} {cs : List Value} {esz : Nat} {rw_ : Bool} (h : K.blk b = some (.cells cs esz rw_)) (o : Nat) (l : List Value) (x : Nat) :
    (K.stor b o l).blk x = if x = b then some (.cells (overL cs o l) esz rw_) else K.blk x := by
  rw [Heap.stor_put h]; exact put_blk _ _ _ _ (K.lt _ _ h)
abbrev knV (B : Nat) : Value := .func (.func 44) #[] #[.pointer (some ⟨B, 0, none⟩), .pointer (some ⟨B + 2, 0, none⟩)]
structure VS (H K : Heap) (p q r : Option Addr) (c : Code') (W : List Bool) : Prop where
  ext : Ext H K
  vb : VB K H.next p q r c W
  fn : K.blk (H.next + 3) = some (.cells [knV H.next] 1 true)
theorem VB.mono {K K' : Heap} {B : Nat} {p q r : Option Addr} {c : Code'} {W : List Bool} (h : VB K B p q r c W) (e : Ext K K') : VB K' B p q r c W := ⟨e.same _ _ h.code, e.same _ _ h.hdr, e.same _ _ h.cells⟩
theorem VS.mono {H K K' : Heap} {p q r : Option Addr} {c : Code'} {W : List Bool} (h : VS H K p q r c W) (e : Ext K K') : VS H K' p q r c W := ⟨h.ext.trans e, h.vb.mono e, e.same _ _ h.fn⟩
theorem VS.set {H K : Heap} {p q r : Option Addr} {c : Code'} {W : List Bool} (h : VS H K p q r c W) {j : Nat} (hj : j < W.length) : VS H (K.stor (H.next + 1) (0 + j * 1) [.bool true]) p q r c (W.set j true) where
  ext := h.ext.stor (by omega)
  vb := by
    have hs := stor_at h.vb.cells (0 + j * 1) [.bool true]
    refine ⟨?_, ?_, ?_⟩
    · rw [hs, if_neg (by omega)]; exact h.vb.code
    · show _ = some (Blk.cells [.slice (some ⟨H.next + 1, 0, none⟩) (W.set j true).length (W.set j true).length] 1 true)
      rw [hs, if_neg (by omega), List.length_set]; exact h.vb.hdr
    · rw [hs, if_pos rfl]
      have := flat_over dBool W j true hj
      simp only [show (dBool).sz = 1 from rfl] at this
      rw [Nat.zero_add]
      exact congrArg (fun x => some (Blk.cells x 1 true)) this
  fn := by rw [stor_at h.vb.cells, if_neg (by omega)]; exact h.fn
theorem vstart (H : Heap) (p q r : Option Addr) (c : Code') (z1 z2 : List Value) (hz1 : z1.length = 1) (hz2 : z2.length = 1) (n : Nat) (hn : n = (wrL c.steps 0 c.peak 0 0).length) :
    VS H ((((((H.push (.cells [sv p c.ins, sv q c.steps, sv r c.outs, .int .i64 c.peak] 4 true)).push (.cells (repL c.peak.toNat [.bool false]) 1 true)).push (.cells z1 1 true)).stor (H.next + 1 + 1) 0 [.slice (some ⟨H.next + 1, 0, none⟩) n n]).push (.cells z2 1 true)).stor (H.next + 1 + 1 + 1) 0 [knV H.next]) p q r c (wrL c.steps 0 c.peak 0 0) := by
  subst hn
  have e1 := stor_push ((H.push (.cells [sv p c.ins, sv q c.steps, sv r c.outs, .int .i64 c.peak] 4 true)).push (.cells (repL c.peak.toNat [.bool false]) 1 true)) z1 1 true 0 [sv (some ⟨H.next + 1, 0, none⟩) (wrL c.steps 0 c.peak 0 0)]
  simp only [push_next] at e1
  rw [e1]
  have e2 := stor_push (((H.push (.cells [sv p c.ins, sv q c.steps, sv r c.outs, .int .i64 c.peak] 4 true)).push (.cells (repL c.peak.toNat [.bool false]) 1 true)).push (.cells (overL z1 0 [sv (some ⟨H.next + 1, 0, none⟩) (wrL c.steps 0 c.peak 0 0)]) 1 true)) z2 1 true 0 [knV H.next]
  simp only [push_next] at e2
  rw [e2]
  have o1 : ∀ (z : List Value) (v : Value), z.length = 1 → overL z 0 [v] = [v] := fun z v hz => by match z, hz with | [x], _ => rfl
  rw [o1 _ _ hz1, o1 _ _ hz2, flat_rep dBool false [.bool false] rfl, ← wrL_zero c.steps]
  refine ⟨(((Ext.push _ _).push' _).push' _).push' _, ⟨?_, ?_, ?_⟩, push_blk _ _⟩
  · rw [push_blk_ne _ _ (by simp only [push_next]; omega), push_blk_ne _ _ (by simp only [push_next]; omega), push_blk_ne _ _ (by simp only [push_next]; omega), push_blk]
  · rw [push_blk_ne _ _ (by simp only [push_next]; omega)]; exact push_blk _ _
  · rw [push_blk_ne _ _ (by simp only [push_next]; omega), push_blk_ne _ _ (by simp only [push_next]; omega)]; exact push_blk _ _
def VR (H : Heap) (c : Code') (e : AEnd) (H' : Heap) : Prop := e = .ret (.bool (verB c)) ∧ Ext H H'
theorem vret {H K : Heap} {c : Code'} {b : Bool} (h : verB c = b) (e : Ext H K) : VR H c (.ret (.bool b)) K := ⟨by rw [h], e⟩

set_option maxHeartbeats 1000000 in
theorem implVerify_ec (H : Heap) (p q r : Option Addr) (c : Code') (hc : RdC H p q r c) (hl1 : c.ins.length ≤ 1048576) (hl2 : c.steps.length ≤ 1048576) (hl3 : c.outs.length ≤ 1048576) :
    EC Try.prog 16 [cV p q r c] H (VR H c) := by
  refine EC_fn ctx verPv Try.func16 rfl rfl rfl ?_
  have hE : Ext H (H.push (.cells [sv p c.ins, sv q c.steps, sv r c.outs, .int .i64 c.peak] 4 true)) := Ext.push _ _
  refine ⟨sv p c.ins, cell_push _ _ _ _ _, sv q c.steps, fun _ => cell_push _ _ _ _ _, sv r c.outs, fun _ => cell_push _ _ _ _ _, .int .i64 c.peak, fun _ => cell_push _ _ _ _ _, .int .i64 c.peak, fun _ => cell_push _ _ _ _ _, fun h => vret ?_ hE, fun h => ?_⟩
  · rw [Bool.eq_false_iff]
    intro hv
    simp only [verB, Bool.and_eq_true, decide_eq_true_eq] at hv
    obtain ⟨⟨⟨⟨⟨⟨v1, v2⟩, v3⟩, v4⟩, v5⟩, _⟩, _⟩ := hv
    simp at h
    omega
  have hb : c.ins.length ≤ 20 ∧ c.steps.length ≤ 2000 ∧ c.outs.length ≤ 50 ∧ 0 ≤ c.peak ∧ c.peak ≤ 50000 := by simp at h; omega
  refine ⟨sv p c.ins, cell_push _ _ _ _ _, _, containsFuncInt_pc _ p c.ins (hc.ins.mono hE) hl1 42 [] (fun n => !okLen n) (fun x => notLen_pc _ x), ?_, fun v K hR => by cases hR.1⟩
  rintro _ K ⟨hx, rfl⟩
  cases hx
  have hno : (c.ins.any fun n => !okLen n) = !c.ins.all okLen := by rw [List.not_all_eq_any_not]
  refine ⟨fun h1 => vret ?_ hE, fun h1 => ?_⟩
  · have hq : c.ins.all okLen = false := by rw [hno] at h1; simpa using h1
    unfold verB
    rw [hq]; simp
  refine ⟨.int .i64 c.peak, cell_push _ _ _ _ _, ⟨by omega, by dsimp only; omega⟩, ?_⟩
  refine ⟨stOK_push _ _ _ _ _ (by simp), stOK_push _ _ _ _ _ (by simp), ?_⟩
  have hvs := fun z1 z2 hz1 hz2 => vstart H p q r c z1 z2 hz1 hz2 c.peak.toNat (by simp)
  refine ⟨sv q c.steps, cell_of (hvs _ _ rfl rfl).vb.code 1, ?_⟩
  refine loop_ind ctx verPv (fun m E K => ∃ k, k ≤ c.steps.length ∧ m = c.steps.length - k ∧ E = ⟨[(1, .pointer (some ⟨H.next, 0, none⟩)), (3, .pointer (some ⟨H.next + 2, 0, none⟩)), (4, .pointer (some ⟨H.next + 3, 0, none⟩)), (45, sv q c.steps), (46, .int .i64 c.steps.length), (47, .int .i64 k)], []⟩ ∧ VS H K p q r c (wrL c.steps k c.peak 0 0) ∧ (List.range k).all (stepAt c) = true)
    ⟨0, Nat.zero_le _, rfl, rfl, hvs _ _ rfl rfl, rfl⟩ (by (refine ⟨?_, ?_⟩ <;> repeat' first | exact trivial | exact congrArg (fun x => some (Value.int .i64 x)) (wrap_nat (by omega)) | exact sv_eq (by simp; done) | exact rfl | refine ⟨?_, ?_⟩ | fail)) ?_
  rintro m E K ⟨k, hk, rfl, rfl, hv, hok⟩
  refine ⟨fun hlt => ?_, fun hge => ?_⟩
  · have hlt : k < c.steps.length := by simpa using hlt
    have hx := List.getElem?_eq_getElem hlt
    have hot := ok_take hb.2.2.2.2 hk hok
    have hcK := hc.mono hv.ext
    obtain ⟨b, o, rfl, hcs⟩ := hcK.steps.step hx
    generalize c.steps[k] = s at hx hcs
    have hfalse : stepB c k s = false → verB c = false := fun h => by
      unfold verB
      rw [range_all_false (f := stepAt c) hlt (by rw [stepAt_get hx]; exact h)]; simp
    refine ⟨⟨by omega, by omega⟩, stepV s, hcs, ?_⟩
    refine ⟨sv p c.ins, cell_of hv.vb.code 0, _, fieldsOk_pc K p c.ins hcK.ins s hl1, ?_, fun v K hR => by cases hR.1⟩
    rintro _ K ⟨hx', rfl⟩
    cases hx'
    refine ⟨fun hf => vret ?_ hv.ext, fun hf => ?_⟩
    · exact hfalse (by unfold stepB; rw [show formB c.ins s = false by simpa using hf]; rfl)
    have hform : formB c.ins s = true := by simpa using hf
    have hlen : 1 ≤ s.len ∧ s.len ≤ 1000 := by simp only [formB, okLen, Bool.and_eq_true, decide_eq_true_eq] at hform; omega
    refine ⟨.int .i64 c.peak, cell_of hv.vb.code 3, _, within_pc K ⟨s.dst, s.len⟩ c.peak (by omega) (by omega) (show s.len ≤ _ by omega), ?_, fun v K hR => by cases hR.1⟩
    rintro _ K ⟨hx', rfl⟩
    cases hx'
    refine ⟨fun hf => vret ?_ hv.ext, fun hf => ?_⟩
    · refine hfalse ?_
      rw [Bool.eq_false_iff]
      intro e
      simp only [stepB, Bool.and_eq_true, decide_eq_true_eq] at e
      simp at hf
      omega
    have hdst : 0 ≤ s.dst ∧ s.dst ≤ c.peak - s.len := by simp at hf; omega
    refine ⟨_, reads_ec K s, ?_, fun v K hR => by obtain ⟨b, h, _⟩ := hR; cases h⟩
    rintro _ K1 ⟨b1, hx', he1, hr1⟩
    cases hx'
    have hv1 := hv.mono he1
    refine loop_ind ctx verPv (fun m E K => ∃ j : Nat, j ≤ (opnd s.op).toNat ∧ m = (opnd s.op).toNat - j ∧ E = ⟨[(1, .pointer (some ⟨H.next, 0, none⟩)), (3, .pointer (some ⟨H.next + 2, 0, none⟩)), (4, .pointer (some ⟨H.next + 3, 0, none⟩)), (6, .pointer (some ⟨0, 0, some 0⟩)), (7, .pointer (some ⟨1, 0, some 0⟩)), (45, sv (some ⟨b, o, none⟩) c.steps), (46, .int .i64 c.steps.length), (47, .int .i64 k), (67, sv (some ⟨b1, 0, none⟩) (readsL s)), (68, .int .i64 (readsL s).length), (69, .int .i64 j)], [stepcells s, [.int .i64 s.dst, .int .i64 s.len]]⟩ ∧ K = K1 ∧ (List.range j).all (fun j : Nat => opB c.peak c.steps k s j) = true)
      ⟨0, Nat.zero_le _, rfl, rfl, rfl, rfl⟩ (by (refine ⟨?_, ?_⟩ <;> repeat' first | exact trivial | exact congrArg (fun x => some (Value.int .i64 x)) (wrap_nat (by omega)) | exact sv_eq (by simp; done) | exact rfl | refine ⟨?_, ?_⟩ | fail)) ?_
    rintro m E K2 ⟨j, hj, rfl, rfl, rfl, hoj⟩
    have hrl := readsL_len s
    have hro := opnd_range s.op
    refine ⟨fun hjl => ?_, fun hjg => ?_⟩
    · have hjl : j < (opnd s.op).toNat := by simp at hjl; omega
      have hg := readsL_get hjl
      obtain ⟨b', o', hbe, hcr⟩ := hr1.span hg
      cases hbe
      have hok1 := form_len hform (k := j) (by omega) (by omega)
      have hok2 : 1 ≤ stepLen s j ∧ stepLen s j ≤ 1000 := by simpa [okLen] using hok1
      have hop := opB_eq (steps := c.steps) (i := k) (peak := c.peak) (d := 0) hform hjl
      have hbad : opB c.peak c.steps k s j = false → verB c = false := fun h => hfalse (by
        unfold stepB
        rw [range_all_false (f := fun j : Nat => opB c.peak c.steps k s j) hjl h]; simp)
      refine ⟨⟨by omega, by omega⟩, spanV ⟨stepField s j, stepLen s j⟩, hcr, knV H.next, cell_of hv1.fn 0, ?_⟩
      refine ⟨_, known_pc K2 H.next p (some ⟨b, o, none⟩) r c _ hv1.vb (by simp) ⟨hb.2.2.2.1, hb.2.2.2.2⟩ ⟨stepField s j, stepLen s j⟩ (show stepLen s j ≤ _ by omega), ?_, fun v K hR => by cases hR.1⟩
      rintro _ K3 ⟨hx', rfl⟩
      cases hx'
      refine ⟨.bool (meetsB ⟨stepField s j, stepLen s j⟩ ⟨s.dst, s.len⟩), fun hg => meets_pc _ ⟨stepField s j, stepLen s j⟩ ⟨s.dst, s.len⟩ ?_ ⟨by show _ ≤ s.dst; omega, by show s.dst ≤ _; omega, by show _ ≤ s.len; omega, by show s.len ≤ _; omega⟩, fun hf => vret ?_ hv1.ext, fun hf => ?_⟩
      · have hkn : knownB c.peak (wrL c.steps k c.peak 0 0) ⟨stepField s j, stepLen s j⟩ = true := by simpa using hg
        simp only [knownB, Bool.and_eq_true, decide_eq_true_eq] at hkn
        obtain ⟨⟨a1, a2, a3⟩, _⟩ := hkn
        refine ⟨a1, ?_, a2, ?_⟩
        · show stepField s j ≤ _; omega
        · show stepLen s j ≤ _; omega
      · refine hbad ?_
        rw [hop]
        cases hq1 : knownB c.peak (wrL c.steps k c.peak 0 0) ⟨stepField s j, stepLen s j⟩ <;> cases hq2 : meetsB ⟨stepField s j, stepLen s j⟩ ⟨s.dst, s.len⟩ <;> rw [hq1, hq2] at hf <;> simp at hf ⊢
      · have hopt : opB c.peak c.steps k s j = true := by
          rw [hop]
          cases hq1 : knownB c.peak (wrL c.steps k c.peak 0 0) ⟨stepField s j, stepLen s j⟩ <;> cases hq2 : meetsB ⟨stepField s j, stepLen s j⟩ ⟨s.dst, s.len⟩ <;> rw [hq1, hq2] at hf <;> simp at hf ⊢
        exact ⟨(opnd s.op).toNat - (j + 1), ⟨[(1, .pointer (some ⟨H.next, 0, none⟩)), (3, .pointer (some ⟨H.next + 2, 0, none⟩)), (4, .pointer (some ⟨H.next + 3, 0, none⟩)), (6, .pointer (some ⟨0, 0, some 0⟩)), (7, .pointer (some ⟨1, 0, some 0⟩)), (45, sv (some ⟨b, o, none⟩) c.steps), (46, .int .i64 c.steps.length), (47, .int .i64 k), (67, sv (some ⟨b1, 0, none⟩) (readsL s)), (68, .int .i64 (readsL s).length), (69, .int .i64 ((j + 1 : Nat) : Int))], [stepcells s, [.int .i64 s.dst, .int .i64 s.len]]⟩, by omega, by (refine ⟨?_, ?_⟩ <;> repeat' first | exact trivial | exact congrArg (fun x => some (Value.int .i64 x)) (wrap_nat (by omega)) | exact sv_eq (by simp; done) | exact rfl | refine ⟨?_, ?_⟩ | fail), j + 1, by omega, rfl, rfl, rfl, range_all_succ hoj hopt⟩
    have hje : j = (opnd s.op).toNat := by simp at hjg; omega
    subst hje
    have hstep : stepB c k s = true := by unfold stepB; rw [hform, hoj]; simp; omega
    refine loop_ind ctx verPv (fun m E K => ∃ t : Nat, t ≤ s.len.toNat ∧ m = s.len.toNat - t ∧ E = ⟨[(1, .pointer (some ⟨H.next, 0, none⟩)), (3, .pointer (some ⟨H.next + 2, 0, none⟩)), (4, .pointer (some ⟨H.next + 3, 0, none⟩)), (6, .pointer (some ⟨0, 0, some 0⟩)), (45, sv (some ⟨b, o, none⟩) c.steps), (46, .int .i64 c.steps.length), (47, .int .i64 k), (84, .int .i64 s.len), (85, .int .i64 t)], [stepcells s]⟩ ∧ VS H K p (some ⟨b, o, none⟩) r c (wrL c.steps k c.peak s.dst t))
      ⟨0, Nat.zero_le _, rfl, rfl, by show VS H K2 p _ r c (wrL c.steps k c.peak s.dst 0); rw [wrL_start]; exact hv1⟩ (by (refine ⟨?_, ?_⟩ <;> repeat' first | exact trivial | exact congrArg (fun x => some (Value.int .i64 x)) (wrap_nat (by omega)) | exact sv_eq (by simp; done) | exact rfl | refine ⟨?_, ?_⟩ | fail)) ?_
    rintro m E K3 ⟨t, ht, rfl, rfl, hv3⟩
    refine ⟨fun htl => ?_, fun htg => ?_⟩
    · have htl : (t : Int) < s.len := by simpa using htl
      have hw : IntKind.i64.wrap (s.dst + t) = s.dst + t := wrap_i64 (by omega) (by omega)
      have hjl : (s.dst + t).toNat < (wrL c.steps k c.peak s.dst t).length := by rw [wrL_len]; omega
      refine ⟨sv (some ⟨H.next + 1, 0, none⟩) (wrL c.steps k c.peak s.dst t), cell_of hv3.vb.hdr 0, ⟨show 0 ≤ IntKind.i64.wrap (s.dst + t) by rw [hw]; omega, show IntKind.i64.wrap (s.dst + t) < ((wrL c.steps k c.peak s.dst t).length : Int) by rw [hw, wrL_len]; omega⟩, ⟨_, _, hv3.vb.cells, ?_⟩, ?_⟩
      · show 0 + (IntKind.i64.wrap (s.dst + t)).toNat * 1 + 1 ≤ (flat dBool (wrL c.steps k c.peak s.dst t)).length
        rw [hw, flat_len, wrL_len, show (dBool).sz = 1 from rfl]; omega
      have hv4 := hv3.set hjl
      rw [wrL_set _ _ _ _ _ hdst.1 (by omega) (by omega)] at hv4
      refine ⟨s.len.toNat - (t + 1), ⟨[(1, .pointer (some ⟨H.next, 0, none⟩)), (3, .pointer (some ⟨H.next + 2, 0, none⟩)), (4, .pointer (some ⟨H.next + 3, 0, none⟩)), (6, .pointer (some ⟨0, 0, some 0⟩)), (45, sv (some ⟨b, o, none⟩) c.steps), (46, .int .i64 c.steps.length), (47, .int .i64 k), (84, .int .i64 s.len), (85, .int .i64 ((t + 1 : Nat) : Int))], [stepcells s]⟩, by omega, by (refine ⟨?_, ?_⟩ <;> repeat' first | exact trivial | exact congrArg (fun x => some (Value.int .i64 x)) (wrap_nat (by omega)) | exact sv_eq (by simp; done) | exact rfl | refine ⟨?_, ?_⟩ | fail), t + 1, by omega, rfl, rfl, ?_⟩
      show VS H (K3.stor (H.next + 1) (0 + (IntKind.i64.wrap (s.dst + t)).toNat * 1) [.bool true]) p _ r c _
      rw [hw]
      exact hv4
    have hte : (t : Int) = s.len := by simp at htg; omega
    rw [hte, wrL_end hx] at hv3
    exact ⟨c.steps.length - (k + 1), ⟨[(1, .pointer (some ⟨H.next, 0, none⟩)), (3, .pointer (some ⟨H.next + 2, 0, none⟩)), (4, .pointer (some ⟨H.next + 3, 0, none⟩)), (45, sv (some ⟨b, o, none⟩) c.steps), (46, .int .i64 c.steps.length), (47, .int .i64 ((k + 1 : Nat) : Int))], []⟩, by omega, by (refine ⟨?_, ?_⟩ <;> repeat' first | exact trivial | exact congrArg (fun x => some (Value.int .i64 x)) (wrap_nat (by omega)) | exact sv_eq (by simp; done) | exact rfl | refine ⟨?_, ?_⟩ | fail), k + 1, by omega, rfl, rfl, hv3, range_all_succ hok (by rw [stepAt_get hx]; exact hstep)⟩
  have hkk : k = c.steps.length := by simp at hge; omega
  subst hkk
  refine ⟨sv r c.outs, cell_of hv.vb.code 2, _, containsFuncSpan_pc K r c.outs (hc.outs.mono hv.ext) hl3 51 [.pointer (some ⟨H.next + 3, 0, none⟩)] (badB c.peak (wrL c.steps c.steps.length c.peak 0 0)) (fun x _ => bad_pc K H.next p q r c _ hv.vb hv.fn (by simp) ⟨hb.2.2.2.1, hb.2.2.2.2⟩ x), ?_, fun v K hR => by cases hR.1⟩
  rintro _ K ⟨hx, rfl⟩
  cases hx
  refine vret ?_ hv.ext
  have hall : (c.outs.all fun o => spanB c.peak c.steps c.steps.length o.off o.len) = !(c.outs.any (badB c.peak (wrL c.steps c.steps.length c.peak 0 0))) := by
    rw [List.not_any_eq_all_not]
    congr 1
    funext o
    rw [known_span (d := 0) o]
    simp [badB, okLen]
  have hq : c.ins.all okLen = true := by rw [hno] at h1; simpa using h1
  unfold verB
  rw [hok, hall, hq]
  simp; omega
end Go.Proofs.Ythcnnificgbmhaa
