/- Saved code: the bytes of counts and of floats, and how the program appends them. Conditions: out of at most 10^9 bytes. Saved code, the reference's side. Conditions: counts that are not negative. -/
import Derived.Test.YthcnnificgbmhaaCode
import Derived.Test.YthcnnificgbmhaaAmMark
import Derived.Test.YthcnnificgbmhaaFlBits
set_option linter.unusedVariables false
set_option linter.unusedSimpArgs false
namespace Go.Proofs.Ythcnnificgbmhaa
open Go.Am
open FlCore (canon isNan)

def u8w (n : Int) : Int := IntKind.u8.wrap n
def cntB (n : Int) : List Int := [u8w n, u8w (n / 256)]
theorem cnt_len : ∀ ns : List Int, (ns.flatMap cntB).length = 2 * ns.length
  | [] => rfl
  | n :: r => by simp [cntB, cnt_len r]; omega
theorem u8w_mod (n : Int) : u8w (n % 256) = u8w n := by
  simp only [u8w, IntKind.wrap, IntKind.signed, IntKind.bits]
  simp
/-- The n low bytes of a number. -/
def lowB : Nat → Nat → List Int
  | 0, _ => []
  | n + 1, b => u8w b :: lowB n (b / 256)
@[simp] theorem lowB_len : ∀ n b, (lowB n b).length = n
  | 0, _ => rfl
  | n + 1, b => by simp [lowB, lowB_len n]
theorem lowB_succ : ∀ n b, lowB (n + 1) b = lowB n b ++ [u8w ((b / 256 ^ n : Nat) : Int)]
  | 0, b => by simp [lowB]
  | n + 1, b => by
    rw [lowB, lowB_succ n (b / 256), lowB, Nat.div_div_eq_div_mul, Nat.pow_succ, Nat.mul_comm (256 ^ n) 256]
    rfl
theorem shr8_run (t : TypeId) (k : IntKind) (hk : 8 ≤ k.bits) (n : Int) (P : Program) (w : World) : (binOp .shr t (.int k n) (.int .u64 8)).run P w = .ok (.int k (n / 256)) w := by
  have h8 : min (8 : Nat) k.bits = 8 := by omega
  have hd : n.fdiv (2 ^ 8) = n / 256 := by rw [Int.fdiv_eq_ediv_of_nonneg _ (by decide)]; rfl
  simp only [binOp, Op.shift]
  simp only [show ¬ ((8 : Int) < 0) by decide, if_false, show min (Int.toNat 8) k.bits = 8 from h8, hd]
  rfl
theorem shr8_any (t : TypeId) (k : IntKind) (hk : 8 ≤ k.bits) (n : Int) : anyRun (binOp .shr t (.int k n) (.int .u64 8)) (.int k (n / 256)) := ⟨rfl, fun P w => shr8_run t k hk n P w⟩

/-- Nothing that lay below the base is lost. -/
structure Grow (base : Nat) (H H' : Heap) : Prop where
  next : H.next ≤ H'.next
  ext : ∀ H0 : Heap, H0.next ≤ base → Ext H0 H → Ext H0 H'
theorem Grow.refl (base : Nat) (H : Heap) : Grow base H H := ⟨Nat.le_refl _, fun _ _ h => h⟩
theorem Grow.trans {base : Nat} {H H' H'' : Heap} (h : Grow base H H') (h' : Grow base H' H'') : Grow base H H'' := ⟨Nat.le_trans h.next h'.next, fun H0 hb e => h'.ext H0 hb (h.ext H0 hb e)⟩
theorem Grow.of_ext {base : Nat} {H H' : Heap} (h : Ext H H') : Grow base H H' := ⟨h.next, fun _ _ e => e.trans h⟩
theorem Grow.app {α : Type} {d : Enc α} {base : Nat} {K : Heap} {o : Option Addr} {xs : List α} (hb : Buf d K base o xs) (c : Blk) : Grow base K ((K.killO o).push c) :=
  ⟨by show K.next ≤ K.next + 1; omega, fun H0 h0 e => (hb.killO e h0).push' _⟩
theorem unkill (K : Heap) (o : Option Addr) : Ext (K.killO o) K := ⟨Nat.le_refl _, fun b c h => by
  cases o with
  | none => exact h
  | some a =>
    have h : (if b = a.block then none else K.blk b) = some c := h
    split at h
    · cases h
    · exact h⟩
theorem Ext.app {K : Heap} (o : Option Addr) (c c' : Blk) : Ext (K.killO o) (((((K.push c).killO o).push c')).killO (some ⟨K.next + 1, 0, none⟩)) := ⟨by show K.next ≤ K.next + 1 + 1; omega, fun b x h => by
  have hlt : b < K.next := (K.killO o).lt b x h
  show (if b = K.next + 1 then none else if b = K.next + 1 then some c' else ((K.push c).killO o).blk b) = some x
  rw [if_neg (by omega), if_neg (by omega)]
  cases o with
  | none => exact (push_blk_ne K c (by omega)).trans h
  | some a =>
    have h : (if b = a.block then none else K.blk b) = some x := h
    show (if b = a.block then none else (K.push c).blk b) = some x
    split at h
    · cases h
    · rename_i hb
      rw [if_neg hb, push_blk_ne K c (by omega)]; exact h⟩

/-- A buffer of the walk's own over a heap that lives. -/
structure BufG (H K : Heap) (o : Option Addr) (xs : List Int) : Prop where
  buf : Buf dByte K H.next o xs
  ext : Ext H K
def BR (H : Heap) (ys : List Int) (r : AEnd) (K : Heap) : Prop := ∃ o, r = .ret (sv o ys) ∧ BufG H K o ys
theorem BufG.killed {H K : Heap} {o : Option Addr} {xs : List Int} (h : BufG H K o xs) : Ext H (K.killO o) := h.buf.killO h.ext (Nat.le_refl _)
theorem BufG.app {H K : Heap} {o : Option Addr} {xs ys : List Int} (h : BufG H K o xs) {news : List Value} (hn : news = flat dByte ys) : BufG H ((K.killO o).push (.cells (flat dByte xs ++ news) 1 true)) (some ⟨K.next, 0, none⟩) (xs ++ ys) :=
  ⟨h.buf.app hn h.ext.next, h.killed.push' _⟩
theorem BufG.mono {H K K' : Heap} {o : Option Addr} {xs : List Int} (h : BufG H K o xs) (e : Ext K K') : BufG H K' o xs := ⟨h.buf.mono e, h.ext.trans e⟩

theorem sv_app {α : Type} (a : Option Addr) (xs ys : List α) {n : Nat} (h : ys.length = n) : Value.slice a (xs.length + n) (xs.length + n) = sv a (xs ++ ys) := by
  subst h
  show _ = Value.slice a (xs ++ ys).length (xs ++ ys).length
  rw [List.length_append]
theorem bytesOf_ec (H K0 : Heap) (a b : Option Addr) (xs ns : List Int) (h : BufG H K0 a xs) (hn : Rd dInt (K0.killO a) b ns) (hl : xs.length + 2 * ns.length ≤ 1000000000) :
    EC Try.prog 52 [sv a xs, sv b ns] K0 (BR H (xs ++ ns.flatMap cntB)) := by
  refine EC_fn ctx (fun _ => true) Try.func52 rfl rfl rfl ?_
  refine loop_ind ctx (fun _ => true) (fun m E K => ∃ k o, k ≤ ns.length ∧ m = ns.length - k ∧ E = ⟨[(0, sv o (xs ++ (ns.take k).flatMap cntB)), (7, sv b ns), (8, .int .i64 ns.length), (9, .int .i64 k)], []⟩ ∧ BufG H K o (xs ++ (ns.take k).flatMap cntB) ∧ Rd dInt (K.killO o) b ns)
    (E0 := ⟨[(0, sv a xs), (7, sv b ns), (8, .int .i64 ns.length), (9, .int .i64 ((0 : Nat) : Int))], []⟩) ⟨0, a, Nat.zero_le _, rfl, by simp, by simpa using h, hn⟩ (by (refine ⟨?_, ?_⟩ <;> repeat' first | exact trivial | exact congrArg (fun x => some (Value.int .i64 x)) (wrap_nat (by omega)) | exact sv_eq (by simp; done) | exact rfl | refine ⟨?_, ?_⟩ | fail)) ?_
  rintro m E K ⟨k, o, hk, rfl, rfl, hb, hr⟩
  have hfl : ((ns.take k).flatMap cntB).length = 2 * k := by rw [cnt_len, List.length_take, Nat.min_eq_left hk]
  have hxl : (xs ++ (ns.take k).flatMap cntB).length = xs.length + 2 * k := by rw [List.length_append, hfl]
  refine ⟨fun hlt => ?_, fun hge => ?_⟩
  · have hlt : k < ns.length := by simpa using hlt
    obtain ⟨p, q, rfl, hc⟩ := (hr.mono (unkill K o)).cell (List.getElem?_eq_getElem hlt)
    refine ⟨⟨by omega, by omega⟩, _, hc, _, shr8_any _ .i64 (by decide) _, ?_⟩
    have hb1 := hb.mono (Ext.push K (.cells (flat dByte (cntB ns[k])) 1 true))
    refine ⟨_, run_push _ _ _ _ (by simp), by rw [hxl]; dsimp only; omega, by rw [hxl]; dsimp only; omega, _, hb1.buf.own, ?_⟩
    have htk : xs ++ (ns.take (k + 1)).flatMap cntB = (xs ++ (ns.take k).flatMap cntB) ++ cntB ns[k] := by
      rw [List.take_succ_eq_append_getElem hlt, List.flatMap_append, List.append_assoc]; simp
    refine ⟨ns.length - (k + 1), ⟨[(0, .slice (some ⟨K.next + 1, 0, none⟩) ((xs ++ (ns.take k).flatMap cntB).length + 2) ((xs ++ (ns.take k).flatMap cntB).length + 2)), (7, sv _ ns), (8, .int .i64 ns.length), (9, .int .i64 ((k + 1 : Nat) : Int))], []⟩, by omega, by (refine ⟨?_, ?_⟩ <;> repeat' first | exact trivial | exact congrArg (fun x => some (Value.int .i64 x)) (wrap_nat (by omega)) | exact sv_eq (by simp; done) | exact rfl | refine ⟨?_, ?_⟩ | fail), k + 1, some ⟨K.next + 1, 0, none⟩, by omega, rfl, ?_, ?_, ?_⟩
    · rw [htk, ← sv_app _ _ (cntB ns[k]) rfl]; rfl
    · rw [htk]
      exact hb1.app rfl
    · exact hr.mono (Ext.app o _ _)
  · have hk : k = ns.length := by simp at hge; omega
    subst hk
    rw [List.take_of_length_le (Nat.le_refl _)] at hb ⊢
    exact ⟨o, rfl, hb⟩
end Go.Proofs.Ythcnnificgbmhaa

set_option linter.unusedVariables false
namespace Go.Proofs.Ythcnnificgbmhaa
open Go.Am
open FlCore (canon isNan)

theorem canon_idem (a : Nat) : canon (canon a) = canon a := by
  cases h : isNan a with
  | false => rw [canon_num h]; exact canon_num h
  | true => rw [canon_nan h]; exact canon_nan (by decide)
theorem specBits_pc (x : Nat) (H : Heap) : PC Try.prog 58 [.float .f64 x] H (.int .u64 (canon x)) :=
  PC_of_calls Try.func58 rfl rfl (fun ρ cargs w h => by
    cases h with
    | cons h1 h =>
      cases h
      cases h1 with
      | float i1 => exact (sFloatBits_any _ w i1.lt).mono fun e w' ⟨h1, h3⟩ => ⟨_, h1, by rw [← i1.eq, canon_idem]; exact .int _ _, by rw [h3]; rfl⟩) H
theorem implBits_pc (x : Nat) (H : Heap) : PC Try.prog 53 [.float .f64 x] H (.int .u64 (canon x)) :=
  PC_of_calls Try.func53 rfl rfl (fun ρ cargs w h => by
    cases h with
    | cons h1 h =>
      cases h
      cases h1 with
      | float i1 => exact (iFloatBits_any _ w i1.lt).mono fun e w' ⟨h1, h3⟩ => ⟨_, h1, by rw [← i1.eq, canon_idem]; exact .int _ _, by rw [h3]; rfl⟩) H
theorem wrap_u64 {x : Int} (h0 : 0 ≤ x) (h1 : x ≤ 18446744073709551615) : IntKind.u64.wrap x = x := by
  simp only [IntKind.wrap, IntKind.signed, IntKind.bits]
  simp
  omega
theorem EC_float {P : Program} {f : FuncId} {k : Nat} {r : List Value} {H : Heap} {R : AEnd → Heap → Prop} (h : k < 18446744073709551616 → EC P f (.float .f64 k :: r) H R) : EC P f (.float .f64 k :: r) H R where
  run := fun ρ own w cargs hr hn hv => by
    cases hv with
    | cons h1 t =>
      cases h1 with
      | float i => exact (h (by rw [← i.eq]; exact canon_lt i.lt)).run ρ own w _ hr hn (.cons (.float i) t)
abbrev bytesBlk (ys : List Int) : Blk := .cells (flat dByte ys) 1 true
theorem l6count_ec (H : Heap) (n : Int) (h0 : 0 ≤ n) (h1 : n ≤ 9223372036854775807) :
    EC Try.prog 36 [.int .i64 n] H fun r H' => r = .ret (sv (some ⟨H.next, 0, none⟩) (cntB n)) ∧ H' = H.push (bytesBlk (cntB n)) := by
  refine EC_fn ctx (fun _ => true) Try.func36 rfl rfl rfl ?_
  refine ⟨(by decide : (256 : Int) ≠ 0), (by decide : (256 : Int) ≠ 0), rfl, ?_⟩
  have e1 : n.tmod 256 = n % 256 := Int.tmod_eq_emod_of_nonneg h0
  have e2 : n.tdiv 256 = n / 256 := Int.tdiv_eq_ediv_of_nonneg h0
  have e3 : IntKind.i64.wrap (n.tdiv 256) = n / 256 := by rw [e2, wrap_i64 (by omega) (by omega)]
  show H.push (.cells [.int .u8 (IntKind.u8.wrap (n.tmod 256)), .int .u8 (IntKind.u8.wrap (IntKind.i64.wrap (n.tdiv 256)))] 1 true) = _
  rw [e3, e1]
  have := u8w_mod n
  unfold u8w at this
  rw [this]
  rfl
theorem own_run {α : Type} {d : Enc α} {H : Heap} {b o : Nat} {xs : List α} (h : Rd d H (some ⟨b, o, none⟩) xs) (hp : 0 < xs.length) : H.run? b o (xs.length * d.sz) = some (flat d xs) := by
  obtain ⟨b', off, cs, rw_, h1, h2, h3, h4⟩ := h.at_ hp
  cases h1
  unfold Heap.run?
  rw [h2]
  simp only
  rw [if_pos h3, h4]
theorem l6float_ec (H : Heap) (k : Nat) : EC Try.prog 37 [.float .f64 k] H (BR H (lowB 8 (canon k))) := by
  refine EC_float fun hk => ?_
  have hk : canon k < 18446744073709551616 := canon_lt hk
  refine EC_fn ctx (fun _ => true) Try.func37 rfl rfl rfl ?_
  refine ⟨_, specBits_pc k H, ?_, fun v K hR => by cases hR.1⟩
  rintro _ K ⟨hx, rfl⟩
  cases hx
  refine loop_ind ctx (fun _ => true) (fun m E K' => ∃ (i : Nat) (o : Option Addr), i ≤ 8 ∧ m = 8 - i ∧ E = ⟨[(3, .int .u64 ((canon k / 256 ^ i : Nat) : Int)), (4, .slice o i i), (5, .int .i64 i)], []⟩ ∧ BufG K K' o (lowB i (canon k)))
    (E0 := ⟨[(3, .int .u64 (canon k)), (4, .slice none 0 0), (5, .int .i64 ((0 : Nat) : Int))], []⟩) ⟨0, none, Nat.zero_le _, rfl, by simp, .nil, Ext.refl _⟩ (by (refine ⟨?_, ?_⟩ <;> repeat' first | exact trivial | exact congrArg (fun x => some (Value.int .i64 x)) (wrap_nat (by omega)) | exact sv_eq (by simp; done) | exact rfl | refine ⟨?_, ?_⟩ | fail)) ?_
  rintro m E K' ⟨i, o, hi, rfl, rfl, hb⟩
  refine ⟨fun hlt => ?_, fun hge => ?_⟩
  · have hlt : i < 8 := by simp at hlt; omega
    have hcl : canon k / 256 ^ i < 18446744073709551616 := Nat.lt_of_le_of_lt (Nat.div_le_self _ _) hk
    have h0 : (0 : Int) ≤ ((canon k / 256 ^ i : Nat) : Int) := Int.natCast_nonneg _
    have hby : IntKind.u8.wrap (((canon k / 256 ^ i : Nat) : Int).tmod 256) = u8w ((canon k / 256 ^ i : Nat) : Int) := by
      rw [Int.tmod_eq_emod_of_nonneg h0]
      exact u8w_mod _
    have hnx : IntKind.u64.wrap (((canon k / 256 ^ i : Nat) : Int).tdiv 256) = ((canon k / 256 ^ (i + 1) : Nat) : Int) := by
      rw [Int.tdiv_eq_ediv_of_nonneg h0, Nat.pow_succ, ← Nat.div_div_eq_div_mul]
      generalize canon k / 256 ^ i = z at hcl h0
      rw [wrap_u64 (by omega) (by omega)]
      rfl
    have hb1 := hb.mono (Ext.push K' (.cells [.int .u8 (IntKind.u8.wrap (((canon k / 256 ^ i : Nat) : Int).tmod 256))] 1 true))
    have hown := hb1.buf.own
    rw [lowB_len] at hown
    refine ⟨(by decide : (256 : Int) ≠ 0), _, run_push _ _ _ _ (by simp), by dsimp only; omega, by dsimp only; omega, _, hown, (by decide : (256 : Int) ≠ 0), ?_⟩
    refine ⟨8 - (i + 1), ⟨[(3, .int .u64 ((canon k / 256 ^ (i + 1) : Nat) : Int)), (4, .slice (some ⟨K'.next + 1, 0, none⟩) (i + 1) (i + 1)), (5, .int .i64 ((i + 1 : Nat) : Int))], []⟩, by omega, ⟨⟨congrArg (fun x => some (Value.int .u64 x)) hnx, trivial, rfl, trivial, congrArg (fun x => some (Value.int .i64 x)) (wrap_nat (by omega)), trivial, trivial⟩, trivial⟩, i + 1, _, by omega, rfl, rfl, ?_⟩
    rw [lowB_succ, ← hby]
    exact hb1.app rfl
  · have hi8 : i = 8 := by simp at hge; omega
    subst hi8
    exact ⟨o, rfl, hb⟩
end Go.Proofs.Ythcnnificgbmhaa
