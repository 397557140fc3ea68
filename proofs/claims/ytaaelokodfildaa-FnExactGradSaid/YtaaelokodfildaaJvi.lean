/- The program's builder: values put behind a graph, or a panic where there is no room. Conditions: those of each. The program's moves: closures over boxes. Conditions: those of each. The program's moves: their closures. Conditions: those of each. -/
import Derived.Test.YtaaelokodfildaaJvf
import Derived.Test.YtaaelokodfildaaJvd
import Derived.Test.YtaaelokodfildaaJvc
set_option linter.unusedVariables false
set_option linter.unusedSimpArgs false
namespace Go.Proofs.Ytaaelokodfildaa
open Go.Am

/-- A builder in memory. -/
structure BAt (K : Heap) (lo : Nat) (b : Nat) (p q r : Option Addr) (ins : List Int) (vs : List Val) (outs : List Int) : Prop where
  blk : K.blk b = some (.cells [sv p ins, sv q vs, sv r outs, .int .i64 (cellsOf vs)] 4 true)
  own : OwnG K lo K.next p q r ⟨ins, vs, outs⟩
  lob : lo ≤ b
  nb : ∀ o, p ≠ some ⟨b, o, none⟩ ∧ q ≠ some ⟨b, o, none⟩ ∧ r ≠ some ⟨b, o, none⟩
  fit : fitsL vs = true
  len : ∀ v ∈ vs, 0 ≤ v.len ∧ v.len ≤ 1000
/-- Blocks but the builder's and its values' are kept. -/
structure Fr (K : Heap) (b : Nat) (q : Option Addr) (K' : Heap) : Prop where
  next : K.next ≤ K'.next
  same : ∀ x c, x ≠ b → (∀ o, q ≠ some ⟨x, o, none⟩) → K.blk x = some c → K'.blk x = some c
theorem Fr.refl (K : Heap) (b : Nat) (q : Option Addr) : Fr K b q K := ⟨Nat.le_refl _, fun _ _ _ _ h => h⟩
theorem Fr.of_ext {K K' : Heap} {b : Nat} {q : Option Addr} (e : Ext K K') : Fr K b q K' := ⟨e.next, fun x c _ _ h => e.same x c h⟩
/-- The values' new place. -/
def NewQ (K : Heap) (q q' : Option Addr) : Prop := q' = q ∨ ∃ b, q' = some ⟨b, 0, none⟩ ∧ K.next ≤ b
theorem Fr.trans {K K' K'' : Heap} {b : Nat} {q q' : Option Addr} (h : Fr K b q K') (hn : NewQ K q q') (h' : Fr K' b q' K'') : Fr K b q K'' where
  next := Nat.le_trans h.next h'.next
  same := fun x c hb hq hc => h'.same x c hb (fun o e => by
    rcases hn with rfl | ⟨b', rfl, hn⟩
    · exact hq o e
    · cases e; exact absurd (K.lt _ _ hc) (by omega)) (h.same x c hb hq hc)
theorem NewQ.trans {K K' : Heap} {q q' q'' : Option Addr} (h : NewQ K q q') (hk : K.next ≤ K'.next) (h' : NewQ K' q' q'') : NewQ K q q'' := by
  rcases h' with rfl | ⟨b', rfl, hn⟩
  · exact h
  · exact .inr ⟨b', rfl, Nat.le_trans hk hn⟩
theorem NewQ.refl (K : Heap) (q : Option Addr) : NewQ K q q := .inl rfl
theorem Fr.ext {H K K' : Heap} {b : Nat} {q : Option Addr} (e : Ext H K) (h : Fr K b q K') (hb : H.next ≤ b) (hq : ∀ x o, q = some ⟨x, o, none⟩ → H.next ≤ x) : Ext H K' :=
  ⟨Nat.le_trans e.next h.next, fun x c hc => h.same x c (by have := H.lt _ _ hc; omega) (fun o eq => by have := hq x o eq; have := H.lt _ _ hc; omega) (e.same x c hc)⟩
def noRoom : Value := .iface 74 (.agg #[])
/-- What an operation of the builder leaves: new values and a number; or no room. -/
def BR (K : Heap) (lo b : Nat) (p q r : Option Addr) (ins outs : List Int) (y : List Val × Int) (e : AEnd) (K' : Heap) : Prop :=
  (fitsL y.1 = true ∧ ∃ q', e = .ret (.int .i64 y.2) ∧ BAt K' lo b p q' r ins y.1 outs ∧ Fr K b q K' ∧ NewQ K q q') ∨ (fitsL y.1 = false ∧ e = .pan noRoom ∧ Fr K b q K')
theorem BAt.cell1 {K : Heap} {lo b : Nat} {p q r : Option Addr} {ins outs : List Int} {vs : List Val} (h : BAt K lo b p q r ins vs outs) : K.cell? b 1 = some (sv q vs) := by
  unfold Heap.cell?; rw [h.blk]; rfl
theorem BAt.cell3 {K : Heap} {lo b : Nat} {p q r : Option Addr} {ins outs : List Int} {vs : List Val} (h : BAt K lo b p q r ins vs outs) : K.cell? b 3 = some (.int .i64 (cellsOf vs)) := by
  unfold Heap.cell?; rw [h.blk]; rfl
theorem fits_spec {vs : List Val} : fitsL vs = true ↔ vs.length ≤ 2000 ∧ cellsOf vs ≤ 50000 := by unfold fitsL; simp
theorem cells_snoc (l : List Val) (w : Val) : cellsOf (l ++ [w]) = cellsOf l + w.len := by
  unfold cellsOf; rw [List.map_append, List.foldl_append]; rfl
theorem cells_nonneg {vs : List Val} (h : ∀ v ∈ vs, 0 ≤ v.len ∧ v.len ≤ 1000) : 0 ≤ cellsOf vs := by
  have := (cells_bnd h vs.length (Nat.le_refl _)).1
  rwa [List.take_length] at this
theorem stor_blk {K : Heap} {b o : Nat} {l : List Value} {cs : List Value} {esz : Nat} (h : K.blk b = some (.cells cs esz true)) : (K.stor b o l).blk b = some (.cells (overL cs o l) esz true) := by
  show (if b = b then _ else _) = _
  rw [if_pos rfl, h]
theorem stor_other {K : Heap} {b o x : Nat} {l : List Value} (h : x ≠ b) : (K.stor b o l).blk x = K.blk x := by
  show (if x = b then _ else _) = _
  rw [if_neg h]
theorem keep_buf {α : Type} {d : Enc α} {K K' : Heap} {lo : Nat} {a : Option Addr} {xs : List α} (h : Buf d K lo a xs) (hk : ∀ x c, a = some ⟨x, 0, none⟩ → K.blk x = some c → K'.blk x = some c) : Buf d K' lo a xs := by
  cases h with
  | nil => exact .nil
  | blk h1 h2 => exact .blk h1 (hk _ _ rfl h2)
theorem keep_own {K K' : Heap} {lo hi : Nat} {p q r : Option Addr} {g : Graph} (og : OwnG K lo hi p q r g) (b : Nat) (hb : ∀ o, p ≠ some ⟨b, o, none⟩ ∧ q ≠ some ⟨b, o, none⟩ ∧ r ≠ some ⟨b, o, none⟩) (hk : ∀ x c, x ≠ b → K.blk x = some c → K'.blk x = some c) : OwnG K' lo hi p q r g :=
  ⟨keep_buf og.i fun x c e h => hk x c (fun e2 => (hb 0).1 (by rw [e, e2])) h, keep_buf og.s fun x c e h => hk x c (fun e2 => (hb 0).2.1 (by rw [e, e2])) h, keep_buf og.o fun x c e h => hk x c (fun e2 => (hb 0).2.2 (by rw [e, e2])) h, og.hi_, og.ne⟩
set_option maxHeartbeats 1000000 in
theorem put_ec (K : Heap) (lo b : Nat) (p q r : Option Addr) (ins outs : List Int) (vs : List Val) (v : Val) (h : BAt K lo b p q r ins vs outs) (hlo : lo ≤ K.next) (hv : 0 ≤ v.len ∧ v.len ≤ 1000) :
    EC Try.prog 50 [.pointer (some ⟨b, 0, none⟩), valV v] K (BR K lo b p q r ins outs (vs ++ [v], (vs.length : Int))) := by
  obtain ⟨f1, f2⟩ := fits_spec.1 h.fit
  have f0 := cells_nonneg h.len
  have hcs := cells_snoc vs v
  have hbn := K.lt _ _ h.blk
  refine EC_fn ctx (fun _ => true) Try.func50 rfl rfl rfl ?_
  refine ⟨.leaf [([0, 1, 2, 3, 4, 5, 6, 7, 8, 9, 10, 11, 12, 13, 14, 15, 16], none)] [], by kernel_rfl, _, h.cell1, _, fun _ => h.cell3, fun hf => ?_, fun hf => ?_⟩
  · have hnf : fitsL (vs ++ [v]) = false := by
      have : ¬ fitsL (vs ++ [v]) = true := fun e => by
        obtain ⟨a1, a2⟩ := fits_spec.1 e
        have hw : IntKind.i64.wrap (cellsOf vs + v.len) = cellsOf vs + v.len := wrap_i64 (by omega) (by omega)
        have q1 : ¬ (2000 : Int) ≤ (vs.length : Int) := by simp at a1; omega
        rw [hcs] at a2
        simp [q1, hw] at hf
        omega
      simpa using this
    exact .inr ⟨hnf, rfl, Fr.refl _ _ _⟩
  · have hw : IntKind.i64.wrap (cellsOf vs + v.len) = cellsOf vs + v.len := wrap_i64 (by omega) (by omega)
    have q1 : vs.length < 2000 := by
      by_cases e : (2000 : Int) ≤ (vs.length : Int)
      · simp [e] at hf
      · omega
    have q2 : cellsOf vs + v.len ≤ 50000 := by
      by_cases e : (2000 : Int) ≤ (vs.length : Int)
      · omega
      · simp [e, hw] at hf; omega
    have hfit : fitsL (vs ++ [v]) = true := fits_spec.2 ⟨by simp; omega, by omega⟩
    have hst : K.stOK b 3 1 := ⟨_, _, h.blk, by simp⟩
    refine ⟨.leaf [([0, 1, 2, 3, 4, 5, 6, 7, 8], some 9), ([], none)] [], by kernel_rfl, _, h.cell3, hst, ?_⟩
    have hk1 : (K.stor b 3 [.int .i64 (IntKind.i64.wrap (cellsOf vs + v.len))]).blk b = some (.cells [sv p ins, sv q vs, sv r outs, .int .i64 (cellsOf vs + v.len)] 4 true) := by
      rw [stor_blk h.blk, hw]; rfl
    have hc1 : (K.stor b 3 [.int .i64 (IntKind.i64.wrap (cellsOf vs + v.len))]).cell? b 1 = some (sv q vs) := by unfold Heap.cell?; rw [hk1]; rfl
    have og1 : OwnG (K.stor b 3 [.int .i64 (IntKind.i64.wrap (cellsOf vs + v.len))]) lo (K.stor b 3 [.int .i64 (IntKind.i64.wrap (cellsOf vs + v.len))]).next p q r ⟨ins, vs, outs⟩ := keep_own h.own b h.nb fun x c hx hc => by rw [stor_other hx]; exact hc
    have hnq : ∀ o, q ≠ some ⟨b, o, none⟩ := fun o => (h.nb o).2.1
    obtain ⟨og2, m2⟩ := app_put v og1 hlo
    have hb2 := m2.same b _ hnq hk1
    have hs2 : (((K.stor b 3 [.int .i64 (IntKind.i64.wrap (cellsOf vs + v.len))]).push (.cells (vcells v) 6 true)).killO q |>.push (.cells (flat dVal vs ++ vcells v) 6 true)).stOK b 1 1 := ⟨_, _, hb2, by simp⟩
    have hb3 := stor_blk (o := 1) (l := [.slice (some ⟨K.next + 1, 0, none⟩) (vs.length + 1) (vs.length + 1)]) hb2
    have hc3 : (((((K.stor b 3 [.int .i64 (IntKind.i64.wrap (cellsOf vs + v.len))]).push (.cells (vcells v) 6 true)).killO q).push (.cells (flat dVal vs ++ vcells v) 6 true)).stor b 1 [.slice (some ⟨K.next + 1, 0, none⟩) (vs.length + 1) (vs.length + 1)]).cell? b 1 = some (.slice (some ⟨K.next + 1, 0, none⟩) (vs.length + 1) (vs.length + 1)) := by
      unfold Heap.cell?; rw [hb3]; rfl
    refine ⟨.leaf [([0, 1, 2, 3, 4, 5, 6], some 7), ([], some 8), ([9, 10, 11], some 12), ([], none)] [0, 1, 2, 3, 4, 5, 200008, 200012], by kernel_rfl, _, hc1, Ext.push _ _, _, run_push _ _ _ _ (Nat.le_refl 6), by dsimp only; omega, by dsimp only; omega, _, (og1.s.mono (Ext.push _ _)).own, hs2, ?_⟩
    refine ⟨_, hc3, ?_⟩
    have hlt : ∀ {x c}, K.blk x = some c → x < K.next := fun h => K.lt _ _ h
    refine .inl ⟨hfit, some ⟨K.next + 1, 0, none⟩, ?_, ⟨?_, ?_, h.lob, fun o => ⟨(h.nb o).1, ?_, (h.nb o).2.2⟩, hfit, ?_⟩, ⟨?_, ?_⟩, .inr ⟨_, rfl, by omega⟩⟩
    · show AEnd.ret (.int .i64 (IntKind.i64.wrap (((vs.length + 1 : Nat) : Int) - 1))) = _
      rw [wrap_i64 (by omega) (by omega), show ((vs.length + 1 : Nat) : Int) - 1 = vs.length by omega]
    · refine hb3.trans ?_
      rw [hcs, show sv (some ⟨K.next + 1, 0, none⟩) (vs ++ [v]) = .slice (some ⟨K.next + 1, 0, none⟩) (vs.length + 1) (vs.length + 1) from (sv_one _ _ _).symm]; rfl
    · refine keep_own og2 b (fun o => ⟨(h.nb o).1, fun e => ?_, (h.nb o).2.2⟩) (fun x c hx hc => ?_)
      · injection e with e; injection e with e; have : b = K.next + 1 := e.symm; omega
      · exact (stor_other hx).trans hc
    · intro e; injection e with e; injection e with e; have : b = K.next + 1 := e.symm; omega
    · intro w hw; rcases List.mem_append.1 hw with h' | h'
      · exact h.len w h'
      · rw [List.mem_singleton.1 h']; exact hv
    · show K.next ≤ K.next + 2; omega
    · intro x c hx hq hc
      refine (stor_other hx).trans ?_
      exact m2.same x c hq ((stor_other hx).trans hc)
theorem OwnG.grow' {K : Heap} {lo hi hi' : Nat} {p q r : Option Addr} {g : Graph} (og : OwnG K lo hi p q r g) (h : hi ≤ hi') : OwnG K lo hi' p q r g := og.grow h
theorem BAt.mono {K K' : Heap} {lo b : Nat} {p q r : Option Addr} {ins outs : List Int} {vs : List Val} (h : BAt K lo b p q r ins vs outs) (e : Ext K K') : BAt K' lo b p q r ins vs outs :=
  ⟨e.same _ _ h.blk, (h.own.mono e).grow e.next, h.lob, h.nb, h.fit, h.len⟩
def ptrs (x : Nat) : List Value := [.pointer (some ⟨x, 2, none⟩), .pointer (some ⟨x, 3, none⟩), .pointer (some ⟨x, 4, none⟩)]
/-- A value made of an operation's fields. -/
def fv (op n : Int) (fs : List Int) : Val := opV op n (fs.getD 0 0) (fs.getD 1 0) (fs.getD 2 0)
theorem fv_step (op n : Int) (fs : List Int) (j : Nat) (h : j < fs.length) (h3 : j < 3) : Blk.cells (overL (vcells (fv op n (fs.take j))) (2 + j) [.int .i64 fs[j]]) 6 true = .cells (vcells (fv op n (fs.take (j + 1)))) 6 true := by
  have : j = 0 ∨ j = 1 ∨ j = 2 := by omega
  have t : fs.take (j + 1) = fs.take j ++ [fs[j]] := (List.take_append_getElem h).symm
  rw [t]
  have l : (fs.take j).length = j := by simp; omega
  rcases this with rfl | rfl | rfl
  · simp [fv, opV, vcells, overL]
  · match fs.take 1, l with
    | [x], _ => simp [fv, opV, vcells, overL]
  · match fs.take 2, l with
    | [x, y], _ => simp [fv, opV, vcells, overL]
set_option maxHeartbeats 1000000 in
theorem op_ec (K : Heap) (lo b : Nat) (p q r : Option Addr) (ins outs : List Int) (vs : List Val) (op n : Int) (a : Option Addr) (fs : List Int) (h : BAt K lo b p q r ins vs outs) (hlo : lo ≤ K.next) (hn : 0 ≤ n ∧ n ≤ 1000) (hr : Rd dInt K a fs) (hl : fs.length ≤ 3) :
    EC Try.prog 51 [.pointer (some ⟨b, 0, none⟩), .int .i64 op, .int .i64 n, sv a fs] K (BR K lo b p q r ins outs (vs ++ [fv op n fs], (vs.length : Int))) := by
  refine EC_fn ctx (fun t => t != 9) Try.func51 rfl rfl rfl ?_
  refine ⟨stOK_push _ _ _ _ _ (Nat.le_refl 6), ⟨by omega, by omega, by omega, _, _, push_blk _ _⟩, ?_⟩
  refine loop_ind ctx (fun t => t != 9) (fun m E X => ∃ j, j ≤ fs.length ∧ m = fs.length - j ∧ E = ⟨[(0, .pointer (some ⟨b, 0, none⟩)), (3, sv a fs), (9, .pointer (some ⟨K.next, 0, none⟩)), (21, .slice (some ⟨K.next + 1, 0, none⟩) fs.length fs.length), (22, .int .i64 fs.length), (23, .int .i64 (j : Int))], []⟩ ∧ X.blk K.next = some (.cells (vcells (fv op n (fs.take j))) 6 true) ∧ X.blk (K.next + 1) = some (.cells (ptrs K.next) 1 true) ∧ Ext K X)
    (E0 := ⟨[(0, .pointer (some ⟨b, 0, none⟩)), (3, sv a fs), (9, .pointer (some ⟨K.next, 0, none⟩)), (21, .slice (some ⟨K.next + 1, 0, none⟩) fs.length fs.length), (22, .int .i64 fs.length), (23, .int .i64 ((0 : Nat) : Int))], []⟩) ⟨0, Nat.zero_le _, rfl, rfl, ?_, ?_, ?_⟩ (by (refine ⟨?_, ?_⟩ <;> repeat' first | exact trivial | exact congrArg (fun x => some (Value.int .i64 x)) (wrap_nat (by omega)) | exact sv_eq (by simp; done) | exact rfl | refine ⟨?_, ?_⟩ | fail)) ?_
  · exact (push_blk_ne _ _ (by show K.next ≠ K.next + 1; omega)).trans ((stor_blk (push_blk _ _)).trans rfl)
  · exact push_blk _ _
  · exact ⟨by show K.next ≤ K.next + 2; omega, fun x c hc => by
      have := K.lt _ _ hc
      exact (push_blk_ne _ _ (by show x ≠ K.next + 1; omega)).trans ((stor_other (by omega)).trans ((push_blk_ne _ _ (by omega)).trans hc))⟩
  rintro m E X ⟨j, hj, rfl, rfl, h1, h2, e⟩
  refine ⟨fun hlt => ?_, fun hge => ?_⟩
  · have hlt : j < fs.length := by simpa using hlt
    obtain ⟨ba, oa, rfl, hc⟩ := (hr.mono e).cell (List.getElem?_eq_getElem hlt)
    have hp : X.cell? (K.next + 1) (0 + (j : Int).toNat * 1) = some (.pointer (some ⟨K.next, 2 + j, none⟩)) := by
      unfold Heap.cell?; rw [h2]
      have : j = 0 ∨ j = 1 ∨ j = 2 := by omega
      rcases this with rfl | rfl | rfl <;> rfl
    have hs : X.stOK K.next (2 + j) 1 := ⟨_, _, h1, by simp [vcells]; omega⟩
    refine ⟨⟨by omega, by omega⟩, _, hp, ⟨by omega, by omega⟩, _, hc, hs, ?_⟩
    refine ⟨fs.length - (j + 1), ⟨[(0, .pointer (some ⟨b, 0, none⟩)), (3, sv (some ⟨ba, oa, none⟩) fs), (9, .pointer (some ⟨K.next, 0, none⟩)), (21, .slice (some ⟨K.next + 1, 0, none⟩) fs.length fs.length), (22, .int .i64 fs.length), (23, .int .i64 ((j + 1 : Nat) : Int))], []⟩, by omega, by (refine ⟨?_, ?_⟩ <;> repeat' first | exact trivial | exact congrArg (fun x => some (Value.int .i64 x)) (wrap_nat (by omega)) | exact sv_eq (by simp; done) | exact rfl | refine ⟨?_, ?_⟩ | fail), j + 1, by omega, rfl, rfl, ?_, ?_, ?_⟩
    · refine (stor_blk h1).trans ?_
      exact congrArg some (fv_step op n fs j hlt (by omega))
    · exact (stor_other (by omega)).trans h2
    · exact ⟨e.next, fun x c hc => (stor_other (by have := K.lt _ _ hc; omega)).trans (e.same x c hc)⟩
  · have hj : j = fs.length := by simp at hge; omega
    subst hj
    rw [List.take_length] at h1
    have hag : X.aggAt K.next 0 6 (valV (fv op n fs)) := by
      show X.run? K.next 0 6 = some (vcells (fv op n fs))
      unfold Heap.run?; rw [h1]; rfl
    refine ⟨valV (fv op n fs), hag, ?_⟩
    refine ⟨_, put_ec X lo b p q r ins outs vs (fv op n fs) (h.mono e) (Nat.le_trans hlo e.next) hn, ?_, ?_⟩
    · rintro v K' (⟨f, q', hv, hb, hf, hq⟩ | ⟨f, hv, hf⟩)
      · cases hv
        exact .inl ⟨f, q', rfl, hb, (Fr.of_ext e).trans (.refl _ _) hf, (NewQ.refl K q).trans e.next hq⟩
      · cases hv
    · rintro v K' (⟨f, q', hv, hb, hf, hq⟩ | ⟨f, hv, hf⟩)
      · cases hv
      · cases hv
        exact .inr ⟨f, rfl, (Fr.of_ext e).trans (.refl _ _) hf⟩
end Go.Proofs.Ytaaelokodfildaa

set_option linter.unusedVariables false
namespace Go.Proofs.Ytaaelokodfildaa
open Go.Am

theorem cells_app (l m : List Val) : cellsOf (l ++ m) = cellsOf l + cellsOf m := by
  induction m generalizing l with
  | nil => simp [cellsOf]
  | cons x r ih =>
    rw [show l ++ x :: r = (l ++ [x]) ++ r by simp, ih, cells_snoc, show x :: r = [x] ++ r by rfl, ih [x]]
    have : cellsOf [x] = x.len := by simp [cellsOf]
    omega
/-- A list that begins with another, by values of a length. -/
def Pre (l m : List Val) : Prop := ∃ t, m = l ++ t ∧ ∀ v ∈ t, 0 ≤ v.len ∧ v.len ≤ 1000
theorem Pre.refl (l : List Val) : Pre l l := ⟨[], by simp, fun v h => by cases h⟩
theorem Pre.trans {l m n : List Val} (h : Pre l m) (h' : Pre m n) : Pre l n := by
  obtain ⟨t, rfl, a⟩ := h
  obtain ⟨u, rfl, b⟩ := h'
  exact ⟨t ++ u, by simp, fun v h => (List.mem_append.1 h).elim (a v) (b v)⟩
theorem Pre.snoc (l : List Val) (v : Val) (h : 0 ≤ v.len ∧ v.len ≤ 1000) : Pre l (l ++ [v]) := ⟨[v], rfl, fun w hw => by rw [List.mem_singleton.1 hw]; exact h⟩
theorem Pre.nofit {l m : List Val} (h : Pre l m) (hf : fitsL l = false) : fitsL m = false := by
  obtain ⟨t, rfl, a⟩ := h
  have hb : ¬ (l.length ≤ 2000 ∧ cellsOf l ≤ 50000) := fun e => by rw [fits_spec.2 e] at hf; cases hf
  have : ¬ fitsL (l ++ t) = true := fun e => by
    obtain ⟨x, y⟩ := fits_spec.1 e
    rw [cells_app] at y
    have := cells_nonneg a
    rw [List.length_append] at x
    exact hb ⟨by omega, by omega⟩
  simpa using this
/-- A walk over a builder and boxes of its own. -/
structure MS (K0 : Heap) (q0 : Option Addr) (X : Heap) (lo b : Nat) (p q r : Option Addr) (ins outs : List Int) (vs : List Val) (T : List (Nat × Value)) : Prop where
  b0 : b < K0.next
  p0 : ∀ x o, p = some ⟨x, o, none⟩ → x < K0.next
  r0 : ∀ x o, r = some ⟨x, o, none⟩ → x < K0.next
  at_ : BAt X lo b p q r ins vs outs
  fr : Fr K0 b q0 X
  nq : NewQ K0 q0 q
  lo_ : lo ≤ X.next
  bx : ∀ x v, (x, v) ∈ T → X.blk x = some (.cells [v] 1 true) ∧ K0.next ≤ x ∧ ∀ o, q ≠ some ⟨x, o, none⟩
theorem BAt.qlt {X : Heap} {lo b : Nat} {p q r : Option Addr} {ins outs : List Int} {vs : List Val} (h : BAt X lo b p q r ins vs outs) {x o : Nat} (e : q = some ⟨x, o, none⟩) : x < X.next := by
  have hs := h.own.s
  cases hs with
  | nil => cases e
  | blk h1 h2 => cases e; exact X.lt _ _ h2
section
variable {K0 X : Heap} {q0 : Option Addr} {lo b : Nat} {p q r : Option Addr} {ins outs : List Int} {vs : List Val} {T : List (Nat × Value)}
theorem MS.start (h : BAt K0 lo b p q0 r ins vs outs) (hlo : lo ≤ K0.next) : MS K0 q0 K0 lo b p q0 r ins outs vs [] :=
  ⟨K0.lt _ _ h.blk, fun x o e => by
    have hs := h.own.i
    cases hs with
    | nil => cases e
    | blk h1 h2 => cases e; exact K0.lt _ _ h2, fun x o e => by
    have hs := h.own.o
    cases hs with
    | nil => cases e
    | blk h1 h2 => cases e; exact K0.lt _ _ h2, h, .refl _ _ _, .refl _ _, hlo, fun x v h => by cases h⟩
theorem MS.ext (ms : MS K0 q0 X lo b p q r ins outs vs T) {X' : Heap} (e : Ext X X') : MS K0 q0 X' lo b p q r ins outs vs T :=
  ⟨ms.b0, ms.p0, ms.r0, ms.at_.mono e, ms.fr.trans ms.nq (.of_ext e), ms.nq, Nat.le_trans ms.lo_ e.next, fun x v h => ⟨e.same _ _ (ms.bx x v h).1, (ms.bx x v h).2⟩⟩
theorem MS.alloc (ms : MS K0 q0 X lo b p q r ins outs vs T) (v : Value) : MS K0 q0 (X.push (.cells [v] 1 true)) lo b p q r ins outs vs ((X.next, v) :: T) := by
  have m := ms.ext (Ext.push X (.cells [v] 1 true))
  refine ⟨m.b0, m.p0, m.r0, m.at_, m.fr, m.nq, m.lo_, fun x w h => ?_⟩
  rcases List.mem_cons.1 h with h | h
  · cases h
    exact ⟨push_blk _ _, ms.fr.next, fun o e => by have := ms.at_.qlt e; omega⟩
  · exact m.bx x w h
theorem MS.sub (ms : MS K0 q0 X lo b p q r ins outs vs T) {T' : List (Nat × Value)} (h : ∀ x v, (x, v) ∈ T' → (x, v) ∈ T) : MS K0 q0 X lo b p q r ins outs vs T' :=
  ⟨ms.b0, ms.p0, ms.r0, ms.at_, ms.fr, ms.nq, ms.lo_, fun x v h' => ms.bx x v (h x v h')⟩
theorem MS.set (ms : MS K0 q0 X lo b p q r ins outs vs T) {x : Nat} {v v' : Value} (hx : (x, v) ∈ T) {T' : List (Nat × Value)} (h : ∀ y w, (y, w) ∈ T' → (y = x ∧ w = v') ∨ (y ≠ x ∧ (y, w) ∈ T)) : MS K0 q0 (X.stor x 0 [v']) lo b p q r ins outs vs T' := by
  obtain ⟨hb, hk, hq⟩ := ms.bx x v hx
  have b0 := ms.b0
  have hne : ∀ y, y < K0.next → (X.stor x 0 [v']).blk y = X.blk y := fun y hy => stor_other (by omega)
  refine ⟨ms.b0, ms.p0, ms.r0, ⟨(hne b b0).trans ms.at_.blk, ?_, ms.at_.lob, ms.at_.nb, ms.at_.fit, ms.at_.len⟩, ⟨ms.fr.next, fun y c h1 h2 h3 => ?_⟩, ms.nq, ms.lo_, fun y w h' => ?_⟩
  · refine keep_own ms.at_.own x (fun o => ⟨fun e => ?_, hq o, fun e => ?_⟩) fun y c hy hc => (stor_other hy).trans hc
    · have := ms.p0 x o e; omega
    · have := ms.r0 x o e; omega
  · exact (hne y (K0.lt _ _ h3)).trans (ms.fr.same y c h1 h2 h3)
  · rcases h y w h' with ⟨rfl, rfl⟩ | ⟨h1, h2⟩
    · exact ⟨(stor_blk hb).trans rfl, hk, hq⟩
    · obtain ⟨a1, a2, a3⟩ := ms.bx y w h2
      exact ⟨(stor_other h1).trans a1, a2, a3⟩
theorem MS.cell (ms : MS K0 q0 X lo b p q r ins outs vs T) {x : Nat} {v : Value} (hx : (x, v) ∈ T) : X.cell? x 0 = some v := by
  unfold Heap.cell?; rw [(ms.bx x v hx).1]; rfl
theorem MS.stOK (ms : MS K0 q0 X lo b p q r ins outs vs T) {x : Nat} {v : Value} (hx : (x, v) ∈ T) : X.stOK x 0 1 := ⟨_, _, (ms.bx x v hx).1, by simp⟩
/-- What a call over a builder leaves: values and an index, or no room. -/
def MR (K0 : Heap) (q0 : Option Addr) (lo b : Nat) (p r : Option Addr) (ins outs : List Int) (T : List (Nat × Value)) (y : List Val × Int) (e : AEnd) (X' : Heap) : Prop :=
  (∃ q', e = .ret (.int .i64 y.2) ∧ MS K0 q0 X' lo b p q' r ins outs y.1 T) ∨ (e = .pan noRoom ∧ fitsL y.1 = false ∧ Fr K0 b q0 X')
theorem MS.of_BR (ms : MS K0 q0 X lo b p q r ins outs vs T) {y : List Val × Int} {e : AEnd} {X' : Heap} (h : BR X lo b p q r ins outs y e X') : MR K0 q0 lo b p r ins outs T y e X' := by
  rcases h with ⟨hf, q', rfl, hb, hF, hq⟩ | ⟨hf, rfl, hF⟩
  · refine .inl ⟨q', rfl, ms.b0, ms.p0, ms.r0, hb, ms.fr.trans ms.nq hF, ms.nq.trans ms.fr.next hq, Nat.le_trans ms.lo_ hF.next, fun x v hx => ?_⟩
    obtain ⟨a1, a2, a3⟩ := ms.bx x v hx
    have hlt := X.lt _ _ a1
    have hb0 := ms.b0
    refine ⟨hF.same x _ (by omega) a3 a1, a2, fun o e => ?_⟩
    rcases hq with rfl | ⟨b', rfl, hn⟩
    · exact a3 o e
    · cases e; omega
  · exact .inr ⟨rfl, hf, ms.fr.trans ms.nq hF⟩
theorem MR.fin {y : List Val × Int} {e : AEnd} {X' : Heap} (h : MR K0 q0 lo b p r ins outs T y e X') : BR K0 lo b p q0 r ins outs y e X' := by
  rcases h with ⟨q', rfl, ms⟩ | ⟨rfl, hf, hF⟩
  · exact .inl ⟨ms.at_.fit, q', rfl, ms.at_, ms.fr, ms.nq⟩
  · exact .inr ⟨hf, rfl, hF⟩
theorem MS.fin (ms : MS K0 q0 X lo b p q r ins outs vs T) (m : Int) : BR K0 lo b p q0 r ins outs (vs, m) (.ret (.int .i64 m)) X := .inl ⟨ms.at_.fit, q, rfl, ms.at_, ms.fr, ms.nq⟩
theorem MR.pan {y z : List Val × Int} {v : Value} {X' : Heap} (h : MR K0 q0 lo b p r ins outs T y (.pan v) X') (hp : Pre y.1 z.1) : BR K0 lo b p q0 r ins outs z (.pan v) X' := by
  rcases h with ⟨q', hv, ms⟩ | ⟨hv, hf, hF⟩
  · cases hv
  · cases hv; exact .inr ⟨hp.nofit hf, rfl, hF⟩
theorem MS.op (ms : MS K0 q0 X lo b p q r ins outs vs T) (op n : Int) (a : Option Addr) (fs : List Int) (hn : 0 ≤ n ∧ n ≤ 1000) (hr : Rd dInt X a fs) (hl : fs.length ≤ 3) :
    EC Try.prog 51 [.pointer (some ⟨b, 0, none⟩), .int .i64 op, .int .i64 n, sv a fs] X (MR K0 q0 lo b p r ins outs T (vs ++ [fv op n fs], (vs.length : Int))) :=
  (op_ec X lo b p q r ins outs vs op n a fs ms.at_ ms.lo_ hn hr hl).mono fun _ _ h => ms.of_BR h
theorem MS.opB (ms : MS K0 q0 X lo b p q r ins outs vs T) (op n : Int) (fs : List Int) (hn : 0 ≤ n ∧ n ≤ 1000) (hl : fs.length ≤ 3) :
    EC Try.prog 51 [.pointer (some ⟨b, 0, none⟩), .int .i64 op, .int .i64 n, sv (some ⟨X.next, 0, none⟩) fs] (X.push (.cells (flat dInt fs) 1 true)) (MR K0 q0 lo b p r ins outs T (vs ++ [fv op n fs], (vs.length : Int))) :=
  (ms.ext (Ext.push X _)).op op n _ fs hn (Rd.push X true) hl
theorem MR.ret {y : List Val × Int} {v : Value} {X' : Heap} (h : MR K0 q0 lo b p r ins outs T y (.ret v) X') : ∃ q', v = .int .i64 y.2 ∧ MS K0 q0 X' lo b p q' r ins outs y.1 T := by
  rcases h with ⟨q', hv, m⟩ | ⟨hv, _⟩
  · cases hv; exact ⟨q', rfl, m⟩
  · cases hv
theorem MR.elim {y : List Val × Int} {G : Value → Heap → Prop} (h : ∀ q' X', MS K0 q0 X' lo b p q' r ins outs y.1 T → G (.int .i64 y.2) X') : ∀ v X', MR K0 q0 lo b p r ins outs T y (.ret v) X' → G v X' := fun v X' hR => by
  obtain ⟨q', rfl, m⟩ := hR.ret
  exact h q' X' m
theorem MR.elim2 {l : List Val} {n : Int} {G : Value → Heap → Prop} (h : ∀ q' X', MS K0 q0 X' lo b p q' r ins outs l T → G (.int .i64 n) X') : ∀ v X', MR K0 q0 lo b p r ins outs T (l, n) (.ret v) X' → G v X' := MR.elim h
theorem MS.zeros (ms : MS K0 q0 X lo b p q r ins outs vs T) (n : Int) (hn : 0 ≤ n ∧ n ≤ 1000) :
    EC Try.prog 49 [.pointer (some ⟨b, 0, none⟩), .int .i64 n] X (MR K0 q0 lo b p r ins outs T (vs ++ [opV 1 n 0 0 0], (vs.length : Int))) := by
  refine EC_fn ctx (fun _ => true) Try.func49 rfl rfl rfl ?_
  refine ⟨_, ms.op 1 n none [] hn .nil (by simp), ?_, fun v X' h => h⟩
  rintro v X' (⟨q', hv, m⟩ | ⟨hv, _⟩)
  · cases hv
    exact .inl ⟨q', rfl, m⟩
  · cases hv
end
end Go.Proofs.Ytaaelokodfildaa

set_option linter.unusedVariables false
namespace Go.Proofs.Ytaaelokodfildaa
open Go.Am
section
variable {K0 X : Heap} {q0 : Option Addr} {lo b : Nat} {p q r : Option Addr} {ins outs : List Int} {vs : List Val} {T : List (Nat × Value)}
abbrev ptr (x : Nat) : Value := .pointer (some ⟨x, 0, none⟩)
abbrev int' (x : Int) : Value := .int .i64 x

end
theorem MS.alloc' {K0 X : Heap} {q0 : Option Addr} {lo b : Nat} {p q r : Option Addr} {ins outs : List Int} {vs : List Val} {T : List (Nat × Value)} (ms : MS K0 q0 X lo b p q r ins outs vs T) (v : Value) (x : Nat) (hx : X.next = x) : MS K0 q0 (X.push (.cells [v] 1 true)) lo b p q r ins outs vs ((x, v) :: T) := by
  subst hx; exact ms.alloc v
end Go.Proofs.Ytaaelokodfildaa
