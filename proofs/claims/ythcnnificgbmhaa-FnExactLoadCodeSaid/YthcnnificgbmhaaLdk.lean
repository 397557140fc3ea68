/- The program's loader reads a code. Conditions: those of each. -/
import Derived.Test.YthcnnificgbmhaaLdj
set_option linter.unusedVariables false
set_option linter.unusedSimpArgs false
namespace Go.Proofs.Ythcnnificgbmhaa
open Go.Am
open FlCore (canon isNan)

section
variable {α : Type} {d : Enc α} {lo hi B L : Nat} {H K K' : Heap} {q p : Option Addr} {ys : List α} {xs : List Int} {bad : Bool}
theorem _root_.Go.Am.Out.push' (h : Out lo hi H K) (c : Blk) : Out lo hi H (K.push c) := h.trans (Out.of_ext (Ext.push _ _))
theorem _root_.Go.Am.Out.killB (h : Out lo hi H K) {base : Nat} (hq : Buf d K base q ys) (hb : H.next ≤ base) : Out lo hi H (K.killO q) := by
  cases hq with
  | nil => exact h
  | @blk b _ h1 h2 => exact ⟨h.next, fun x c hx hc => by
      have := H.lt _ _ hc
      show (if x = b then none else K.blk x) = some c
      rw [if_neg (by omega)]
      exact h.same x c hx hc⟩
theorem _root_.Go.Am.Out.stor (h : Out lo hi H K) {b o : Nat} {l : List Value} (hb : H.next ≤ b) : Out lo hi H (K.stor b o l) := by
  rw [Heap.stor_eq]
  split
  · rename_i cs esz rw_ hc
    exact ⟨h.next, fun x c hx q => by
      have := H.lt x c q
      rw [put_blk _ _ _ _ (K.lt _ _ hc), if_neg (by omega)]; exact h.same x c hx q⟩
  · exact h
theorem LS.push (h : LS B K L p xs bad) (c : Blk) : LS B (K.push c) L p xs bad := h.mono (Ext.push _ _)
theorem LS.kill (h : LS B K L p xs bad) (hL : L < B) {base : Nat} (hq : Buf d K base q ys) (hb : B ≤ base) : LS B (K.killO q) L p xs bad := by
  cases hq with
  | nil => exact h
  | @blk b _ h1 h2 =>
    refine h.keep hL fun x c hx hc => ?_
    show (if x = b then none else K.blk x) = some c
    rw [if_neg (by omega)]
    exact hc
theorem LS.stor (h : LS B K L p xs bad) (hL : L < B) {b o : Nat} {l : List Value} (hb : B ≤ b) : LS B (K.stor b o l) L p xs bad := h.keep hL fun x c hx hc => by
  rw [Heap.stor_eq]
  split
  · rename_i cs esz rw_ hcc
    rw [put_blk _ _ _ _ (K.lt _ _ hcc), if_neg (by omega)]; exact hc
  · exact hc
theorem LS.lt (h : LS B K L p xs bad) : L < K.next := K.lt _ _ h.blk
end
def ldcPv (k : Nat) : Bool := !Nat.beq k 6
/-- What the loader answers. -/
def LI (H : Heap) (L : Nat) (bs : List Int) (e : AEnd) (K : Heap) : Prop := ∃ (p q r : Option Addr) (c : Code') (pp : Option Addr) (xs : List Int) (bad : Bool),
  e = .ret (cV p q r c) ∧ LS H.next K L pp xs bad ∧ Out L (L + 1) H K ∧ OwnC K H.next K.next p q r c ∧ Norm c ∧ CodeS c ∧ ∀ c', Good c' bs → bad = false ∧ xs = [] ∧ c = c'
theorem butL {L : Nat} {H K : Heap} (h : But (some ⟨L, 0, none⟩) H K) : Out L (L + 1) H K := h.out fun b o e => by cases e; omega
theorem bufL {α : Type} {d : Enc α} {L B : Nat} {K K' : Heap} {q : Option Addr} {ys : List α} (h : Buf d K B q ys) (b : But (some ⟨L, 0, none⟩) K K') (hL : L < B) : Buf d K' B q ys :=
  h.but b fun b o e hq => by cases e; have := h.lt hq; omega
/-- A step of what is read so far. -/
def mkS (o : Int) (fs : List Int) : Step := ⟨o, fs.getD 0 0, fs.getD 1 0, fs.getD 2 0, fs.getD 3 0, fs.getD 4 0, fs.getD 5 0, 0⟩
def ptrs (S : Nat) : List Value := [.pointer (some ⟨S, 1, none⟩), .pointer (some ⟨S, 2, none⟩), .pointer (some ⟨S, 3, none⟩), .pointer (some ⟨S, 4, none⟩), .pointer (some ⟨S, 5, none⟩), .pointer (some ⟨S, 6, none⟩)]
theorem ptr_at (S : Nat) : ∀ {i : Nat}, i < 6 → (ptrs S)[i]? = some (.pointer (some ⟨S, i + 1, none⟩))
  | 0, _ => rfl
  | 1, _ => rfl
  | 2, _ => rfl
  | 3, _ => rfl
  | 4, _ => rfl
  | 5, _ => rfl
  | n + 6, h => by omega
theorem mkS_snoc (o v : Int) : ∀ {fs : List Int}, fs.length < 6 → overL (stepcells (mkS o fs)) (fs.length + 1) [.int .i64 v] = stepcells (mkS o (fs ++ [v]))
  | [], _ => rfl
  | [_], _ => rfl
  | [_, _], _ => rfl
  | [_, _, _], _ => rfl
  | [_, _, _, _], _ => rfl
  | [_, _, _, _, _], _ => rfl
  | _ :: _ :: _ :: _ :: _ :: _ :: r, h => by simp at h; omega
def withK (s : Step) (f : Nat) : Step := ⟨s.op, s.len, s.n, s.dst, s.a, s.b, s.c, f⟩
theorem good_step {c : Code'} {bs fs : List Int} {k v f : Nat} (hb : ByteL bs) (hc : Good c bs) (hk : k < c.steps.length) (hv : v = valB 1 (bs.drop (posS c k))) (hf : fs = cntsL bs (posS c k + 1) 6) (h1 : v = 1 → f = canon (valB 8 (bs.drop (posS c k + 13)))) (h0 : ¬ v = 1 → f = 0) : withK (mkS v fs) f = c.steps[k] := by
  have hs := hc.step hk
  have hn := hc.2.2 _ (List.getElem_mem hk)
  have hv1 := val1 hb (posS c k)
  rw [← hv] at hv1
  obtain ⟨q1, q2, q3⟩ := hs
  obtain ⟨m1, _, m3⟩ := hn
  rw [← hf] at q2
  generalize c.steps[k] = s at *
  obtain ⟨a0, a1, a2, a3, a4, a5, a6, a7⟩ := s
  simp only at q1 m1 m3 q3
  have q2 : fs = [a1, a2, a3, a4, a5, a6] := q2
  have e0 : (v : Int) = a0 := by omega
  subst q2
  have e7 : f = a7 := by
    by_cases hv1' : v = 1
    · rw [h1 hv1', q3 (by omega), m1]
    · rw [h0 hv1', m3 (by omega)]
  subst e7
  subst e0
  rfl
theorem agg_blk {K : Heap} {b : Nat} {s : Step} (h : K.blk b = some (.cells (stepcells s) 8 true)) : K.aggAt b 0 8 (stepV s) := by
  show K.run? b 0 8 = some (stepcells s)
  unfold Heap.run?
  rw [h]
  rfl
set_option maxHeartbeats 4000000 in
theorem code_ec (H : Heap) (L : Nat) (p0 : Option Addr) (bs : List Int) (h0 : LS H.next H L p0 bs false) :
    EC Try.prog 15 [.pointer (some ⟨L, 0, none⟩)] H (LI H L bs) := by
  have hb := h0.byte
  have hL := h0.lt
  have ebs : ∀ i : Nat, bs.drop i = bs.drop i := fun _ => rfl
  refine EC_fn ctx ldcPv Try.func15 rfl rfl rfl ?_
  refine ⟨_, take_ec _ H L p0 bs false 2 (by decide) (by decide) h0, ?_, fun v K hR => hR.no.elim⟩
  rintro _ K1 ⟨p1, xs1, bad1, v1, hv, l1, b1, _, t1⟩
  cases hv
  have a0 : At bs (fun _ => 0) bs false := fun c hc => ⟨rfl, rfl⟩
  have a1 := (a0.take (fun c hc => by have := hc.len; unfold posO at this; omega) t1).1
  refine ⟨_, count_ec _ K1 L p1 xs1 bad1 l1, ?_, fun v K hR => hR.no.elim⟩
  rintro _ K2 ⟨p2, xs2, bad2, n0, hv, l2, b2, hn0, t2⟩
  cases hv
  have o2 : Out L (L + 1) H K2 := (butL b1).trans (butL b2)
  have n2e : K2.next = H.next := b2.next.trans b1.next
  obtain ⟨a2, c2⟩ := a1.take (fun c hc => by have := hc.len; unfold posO at this; have := posS_le hc (Nat.zero_le _); rw [posS_zero] at this; omega) t2
  have g0 : ∀ c, Good c bs → n0 = c.ins.length := fun c hc => by
    have h1 := c2 c hc
    have h2 := val2 hb 2
    have h3 := hc.insN
    rw [show 0 + 2 = 2 from rfl] at h1
    omega
  clear c2 t1 t2 a1
  refine loop_ind ctx ldcPv (fun m E K => ∃ (k : Nat) (p : Option Addr) (xs : List Int) (bad : Bool) (q : Option Addr) (is : List Int), k ≤ n0 ∧ m = n0 - k ∧ E = ⟨[(0, .pointer (some ⟨L, 0, none⟩)), (2, .pointer (some ⟨0, 0, some 0⟩)), (3, .pointer (some ⟨1, 0, some 0⟩)), (4, .int .i64 ((n0 - k : Nat) : Int))], [[.slice none 0 0, .slice none 0 0, .slice none 0 0, .int .i64 0], [sv q is, .slice none 0 0, .slice none 0 0, .int .i64 0]]⟩ ∧ LS H.next K L p xs bad ∧ Out L (L + 1) H K ∧ Buf dInt K H.next q is ∧ is.length = k ∧ At bs (fun _ => 4 + 2 * k) xs bad ∧ ∀ c, Good c bs → is = c.ins.take k)
    (E0 := ⟨[(0, .pointer (some ⟨L, 0, none⟩)), (2, .pointer (some ⟨0, 0, some 0⟩)), (3, .pointer (some ⟨1, 0, some 0⟩)), (4, .int .i64 ((n0 - 0 : Nat) : Int))], [[.slice none 0 0, .slice none 0 0, .slice none 0 0, .int .i64 0], [sv none ([] : List Int), .slice none 0 0, .slice none 0 0, .int .i64 0]]⟩) ⟨0, p2, xs2, bad2, none, [], Nat.zero_le _, rfl, rfl, l2, o2, .nil, rfl, a2, fun c hc => rfl⟩ (by (refine ⟨?_, ?_⟩ <;> repeat' first | exact trivial | exact congrArg (fun x => some (Value.int .i64 x)) (wrap_nat (by omega)) | exact sv_eq (by simp; done) | exact rfl | refine ⟨?_, ?_⟩ | fail)) ?_
  rintro m E K ⟨k, p, xs, bad, q, is, hk, rfl, rfl, l, o, bq, hl, a, g⟩
  refine ⟨.bool bad, fun _ => cell_of l.blk 1, fun hgo => ?_, fun hend => ?_⟩
  · have hgo : k < n0 := by
      simp at hgo; omega
    refine ⟨.leaf [([0, 1, 2], some 3), ([], some 4), ([], some 5), ([6], some 7), ([], none)] [0, 1], by kernel_rfl, ?_⟩
    refine ⟨_, count_ec _ K L p xs bad l, ?_, fun v K hR => hR.no.elim⟩
    rintro _ K3 ⟨p3, xs3, bad3, v, hv, l3, b3, hv3, t3⟩
    cases hv
    have bq3 : Buf dInt K3 H.next q is := bufL bq b3 hL
    have hq1 := bq3.mono (Ext.push K3 (.cells (flat dInt [(v : Int)]) 1 true))
    refine ⟨_, run_push _ _ _ _ (Nat.le_refl 1), by dsimp only; omega, by dsimp only; omega, _, hq1.own, ?_⟩
    have o3 := o.trans (butL b3)
    obtain ⟨a3, c3⟩ := a.take (fun c hc => by have := hc.len; unfold posO at this; have := posS_le hc (Nat.zero_le _); rw [posS_zero] at this; have := g0 c hc; omega) t3
    refine ⟨n0 - (k + 1), ⟨[(0, .pointer (some ⟨L, 0, none⟩)), (2, .pointer (some ⟨0, 0, some 0⟩)), (3, .pointer (some ⟨1, 0, some 0⟩)), (4, .int .i64 ((n0 - (k + 1) : Nat) : Int))], [[.slice none 0 0, .slice none 0 0, .slice none 0 0, .int .i64 0], [sv (some ⟨K3.next + 1, 0, none⟩) (is ++ [(v : Int)]), .slice none 0 0, .slice none 0 0, .int .i64 0]]⟩, by omega, ?_, k + 1, p3, xs3, bad3, some ⟨K3.next + 1, 0, none⟩, _, by omega, rfl, rfl, ?_, ?_, ?_, by rw [List.length_append, hl]; rfl, a3.eq fun c hc => by omega, ?_⟩
    · have hw : IntKind.i64.wrap (((n0 - k : Nat) : Int) - 1) = ((n0 - (k + 1) : Nat) : Int) := by rw [wrap_i64 (by omega) (by omega)]; omega
      rw [← sv_app _ _ ([(v : Int)] : List Int) rfl]
      exact (by (refine ⟨?_, ?_⟩ <;> repeat' first | exact trivial | exact congrArg (fun x => some (Value.int .i64 x)) hw | exact rfl | refine ⟨?_, ?_⟩ | fail))
    · exact ((l3.push _).kill hL hq1 (Nat.le_refl _)).push _
    · exact ((o3.push' _).killB hq1 (Nat.le_refl _)).push' _
    · exact hq1.app rfl (by show H.next ≤ K3.next + 1; have := o3.next; omega)
    · intro c hc
      have h1 := g0 c hc
      have h2 := val2 hb (4 + 2 * k)
      have h3 := hc.ins
      have h4 := c3 c hc
      have h5 : (cntsL bs 4 c.ins.length)[k]? = some (v : Int) := by
        unfold cntsL
        rw [List.getElem?_map, List.getElem?_range (by omega), h4, h2]; rfl
      rw [h3] at h5
      rw [List.take_add_one, h5, g c hc]; rfl
  · have gI : ∀ c, Good c bs → k = n0 ∧ is = c.ins := fun c hc => by
      have hbad := (a c hc).1
      rw [hbad] at hend
      have hk' : k = n0 := by simp at hend; omega
      exact ⟨hk', by rw [g c hc, hk', g0 c hc, List.take_of_length_le (Nat.le_refl _)]⟩
    refine ⟨_, count_ec _ K L p xs bad l, ?_, fun v K hR => hR.no.elim⟩
    rintro _ K3 ⟨p3, xs3, bad3, n1, hv, l3, b3, hn1, t3⟩
    cases hv
    obtain ⟨a3, c3⟩ := a.take (fun c hc => by have := hc.len; unfold posO at this; have := posS_le hc (Nat.zero_le _); rw [posS_zero] at this; have := g0 c hc; omega) t3
    have gS : ∀ c, Good c bs → n1 = c.steps.length := fun c hc => by
      obtain ⟨hk', _⟩ := gI c hc
      have h1 := c3 c hc
      have h2 := val2 hb (4 + 2 * k)
      have h3 := hc.stepsN
      have h4 := g0 c hc
      rw [← h4, ← hk'] at h3
      omega
    have a4 : At bs (fun c => posS c 0) xs3 bad3 := a3.eq fun c hc => by
      obtain ⟨hk', _⟩ := gI c hc
      rw [posS_zero, ← g0 c hc]; omega
    have bq3 : Buf dInt K3 H.next q is := bufL bq b3 hL
    have o3 : Out L (L + 1) H K3 := o.trans (butL b3)
    have hil : is.length ≤ 65535 := by omega
    have gI2 : ∀ c, Good c bs → is = c.ins := fun c hc => (gI c hc).2
    clear a3 c3 t3 gI g0 a g hend l a2 l2 o2 b1 b2 l1 bq o b3
    refine loop_ind ctx ldcPv (fun m E K => ∃ (k : Nat) (p : Option Addr) (xs : List Int) (bad : Bool) (q2 : Option Addr) (ss : List Step), k ≤ n1 ∧ m = n1 - k ∧ E = ⟨[(0, .pointer (some ⟨L, 0, none⟩)), (2, .pointer (some ⟨0, 0, some 0⟩)), (3, .pointer (some ⟨1, 0, some 0⟩)), (5, .int .i64 ((n1 - k : Nat) : Int))], [[.slice none 0 0, .slice none 0 0, .slice none 0 0, .int .i64 0], [sv q is, sv q2 ss, .slice none 0 0, .int .i64 0]]⟩ ∧ LS H.next K L p xs bad ∧ Out L (L + 1) K3 K ∧ Buf dStep K K3.next q2 ss ∧ ss.length = k ∧ NormS ss ∧ At bs (fun c => posS c k) xs bad ∧ ∀ c, Good c bs → ss = c.steps.take k)
      (E0 := ⟨[(0, .pointer (some ⟨L, 0, none⟩)), (2, .pointer (some ⟨0, 0, some 0⟩)), (3, .pointer (some ⟨1, 0, some 0⟩)), (5, .int .i64 ((n1 - 0 : Nat) : Int))], [[.slice none 0 0, .slice none 0 0, .slice none 0 0, .int .i64 0], [sv q is, sv none ([] : List Step), .slice none 0 0, .int .i64 0]]⟩) ⟨0, p3, xs3, bad3, none, [], Nat.zero_le _, rfl, rfl, l3, Out.of_ext (Ext.refl _), .nil, rfl, (fun _ h => by cases h), a4, fun c hc => rfl⟩ (by (refine ⟨?_, ?_⟩ <;> repeat' first | exact trivial | exact congrArg (fun x => some (Value.int .i64 x)) (wrap_nat (by omega)) | exact sv_eq (by simp; done) | exact rfl | refine ⟨?_, ?_⟩ | fail)) ?_
    clear a4 l3
    rintro m E K ⟨k, p, xs, bad, q2, ss, hk, rfl, rfl, l, o, bs2, hl, hnm, a, g⟩
    refine ⟨.bool bad, fun _ => cell_of l.blk 1, fun hgo => ?_, fun hend => ?_⟩
    · have hgo : k < n1 := by
        simp at hgo; omega
      refine ⟨_, take_ec _ K L p xs bad 1 (by decide) (by decide) l, ?_, fun v K hR => hR.no.elim⟩
      rintro _ K4 ⟨p4, xs4, bad4, v, hv, l4, b4, hv4, t4⟩
      cases hv
      have hv4 : v < 256 := hv4
      have hw : IntKind.i64.wrap (v : Int) = v := wrap_i64 (by omega) (by omega)
      refine ⟨stOK_push _ _ _ _ _ (Nat.le_refl 8), ?_⟩
      obtain ⟨a4, c4⟩ := a.take (fun c hc => by have := posS_le hc (k := k) (by rw [← gS c hc]; omega); omega) t4
      have o4 : Out L (L + 1) K3 K4 := o.trans (butL b4)
      have bs4 : Buf dStep K4 K3.next q2 ss := bufL bs2 b4 (Nat.lt_of_lt_of_le hL o3.next)
      have hHK : H.next ≤ K4.next := Nat.le_trans o3.next o4.next
      have hq2S : ∀ b o, q2 = some ⟨b, o, none⟩ → b < K4.next := fun b o h => (bs4.lt h).2
      refine loop_ind ctx ldcPv (fun m E K => ∃ (i : Nat) (p : Option Addr) (xs : List Int) (bad : Bool) (fs : List Int), i ≤ 6 ∧ m = 6 - i ∧ E = ⟨[(0, .pointer (some ⟨L, 0, none⟩)), (2, .pointer (some ⟨0, 0, some 0⟩)), (3, .pointer (some ⟨1, 0, some 0⟩)), (5, .int .i64 ((n1 - k : Nat) : Int)), (6, .pointer (some ⟨K4.next, 0, none⟩)), (57, .slice (some ⟨K4.next + 1, 0, none⟩) 6 6), (58, .int .i64 6), (59, .int .i64 (i : Int))], [[.slice none 0 0, .slice none 0 0, .slice none 0 0, .int .i64 0], [sv q is, sv q2 ss, .slice none 0 0, .int .i64 0]]⟩ ∧ LS H.next K L p xs bad ∧ Out L (L + 1) K3 K ∧ Buf dStep K K3.next q2 ss ∧ K.blk K4.next = some (.cells (stepcells (mkS v fs)) 8 true) ∧ K.blk (K4.next + 1) = some (.cells (ptrs K4.next) 1 true) ∧ fs.length = i ∧ At bs (fun c => posS c k + 1 + 2 * i) xs bad ∧ ∀ c, Good c bs → fs = (cntsL bs (posS c k + 1) 6).take i)
        (E0 := ⟨[(0, .pointer (some ⟨L, 0, none⟩)), (2, .pointer (some ⟨0, 0, some 0⟩)), (3, .pointer (some ⟨1, 0, some 0⟩)), (5, .int .i64 ((n1 - k : Nat) : Int)), (6, .pointer (some ⟨K4.next, 0, none⟩)), (57, .slice (some ⟨K4.next + 1, 0, none⟩) 6 6), (58, .int .i64 6), (59, .int .i64 ((0 : Nat) : Int))], [[.slice none 0 0, .slice none 0 0, .slice none 0 0, .int .i64 0], [sv q is, sv q2 ss, .slice none 0 0, .int .i64 0]]⟩) (n := 6) ?_ (by (refine ⟨?_, ?_⟩ <;> repeat' first | exact trivial | exact congrArg (fun x => some (Value.int .i64 x)) (wrap_nat (by omega)) | exact sv_eq (by simp; done) | exact rfl | refine ⟨?_, ?_⟩ | fail)) ?_
      · refine ⟨0, p4, xs4, bad4, [], Nat.zero_le _, rfl, rfl, ?_⟩
        have hK : (K4.push (.cells (stepcells (mkS 0 [])) 8 true)).stor K4.next 0 (stepcells (mkS (IntKind.i64.wrap (v : Int)) [])) = K4.push (.cells (stepcells (mkS v [])) 8 true) := by
          rw [hw, stor_push]; rfl
        have key : ∀ K5 : Heap, K5 = (K4.push (.cells (stepcells (mkS v [])) 8 true)).push (.cells (ptrs K4.next) 1 true) → LS H.next K5 L p4 xs4 bad4 ∧ Out L (L + 1) K3 K5 ∧ Buf dStep K5 K3.next q2 ss ∧ K5.blk K4.next = some (.cells (stepcells (mkS v [])) 8 true) ∧ K5.blk (K4.next + 1) = some (.cells (ptrs K4.next) 1 true) := fun K5 h5 => by
          subst h5
          exact ⟨(l4.push _).push _, (o4.push' _).push' _, (bs4.mono (Ext.push _ _)).mono (Ext.push _ _), (Ext.push _ _).same _ _ (push_blk _ _), push_blk (K4.push _) _⟩
        obtain ⟨k1, k2, k3, k4, k5⟩ := key _ rfl
        rw [← hK] at k1 k2 k3 k4 k5
        exact ⟨k1, k2, k3, k4, k5, rfl, a4.eq fun c hc => rfl, fun c hc => by rw [List.take_zero]⟩
      rintro m E K ⟨i, p, xs, bad, fs, hi, rfl, rfl, l, o, bs2, hbS, hbP, hfl, a, gf⟩
      refine ⟨fun hlt => ?_, fun hge => ?_⟩
      · have hlt : i < 6 := by simp at hlt; omega
        refine ⟨⟨by omega, by omega⟩, .pointer (some ⟨K4.next, i + 1, none⟩), ?_, ?_⟩
        · have := cell_of hbP i
          rw [ptr_at _ hlt] at this
          rw [show (i : Int).toNat = i from rfl, Nat.mul_one, Nat.zero_add]
          exact this
        refine ⟨_, count_ec _ K L p xs bad l, ?_, fun v K hR => hR.no.elim⟩
        rintro _ K5 ⟨p5, xs5, bad5, x, hv, l5, b5, hx5, t5⟩
        cases hv
        have hS5 : K5.blk K4.next = some (.cells (stepcells (mkS v fs)) 8 true) := b5.same _ _ (fun o e => by cases e; omega) hbS
        have hP5 : K5.blk (K4.next + 1) = some (.cells (ptrs K4.next) 1 true) := b5.same _ _ (fun o e => by cases e; omega) hbP
        have bs5 : Buf dStep K5 K3.next q2 ss := bufL bs2 b5 (Nat.lt_of_lt_of_le hL o3.next)
        obtain ⟨a5, c5⟩ := a.take (fun c hc => by
          have h1 := posS_le hc (k := k + 1) (by rw [← gS c hc]; omega)
          rw [posS_succ (by rw [← gS c hc]; omega), stepBy_len] at h1
          omega) t5
        refine ⟨⟨_, _, hS5, by show i + 1 + 1 ≤ 8; omega⟩, ?_⟩
        have hst := Heap.stor_put hS5 (i + 1) [.int .i64 (x : Int)]
        have hSt : (K5.stor K4.next (i + 1) [.int .i64 (x : Int)]).blk K4.next = some (.cells (stepcells (mkS v (fs ++ [(x : Int)]))) 8 true) := by
          rw [hst, put_blk _ _ _ _ (K5.lt _ _ hS5), if_pos rfl, ← hfl, mkS_snoc _ _ (by omega)]
        have hPt : (K5.stor K4.next (i + 1) [.int .i64 (x : Int)]).blk (K4.next + 1) = some (.cells (ptrs K4.next) 1 true) := by
          rw [hst, put_blk _ _ _ _ (K5.lt _ _ hS5), if_neg (by omega)]; exact hP5
        have hBt : Buf dStep (K5.stor K4.next (i + 1) [.int .i64 (x : Int)]) K3.next q2 ss := by
          cases bs5 with
          | nil => exact .nil
          | @blk b _ h1 h2 => exact .blk h1 (by rw [hst, put_blk _ _ _ _ (K5.lt _ _ hS5), if_neg (by have := hq2S b 0 rfl; omega)]; exact h2)
        refine ⟨6 - (i + 1), ⟨[(0, .pointer (some ⟨L, 0, none⟩)), (2, .pointer (some ⟨0, 0, some 0⟩)), (3, .pointer (some ⟨1, 0, some 0⟩)), (5, .int .i64 ((n1 - k : Nat) : Int)), (6, .pointer (some ⟨K4.next, 0, none⟩)), (57, .slice (some ⟨K4.next + 1, 0, none⟩) 6 6), (58, .int .i64 6), (59, .int .i64 ((i + 1 : Nat) : Int))], [[.slice none 0 0, .slice none 0 0, .slice none 0 0, .int .i64 0], [sv q is, sv q2 ss, .slice none 0 0, .int .i64 0]]⟩, by omega, ?_, i + 1, p5, xs5, bad5, _, by omega, rfl, rfl, l5.stor hL hHK, (o.trans (butL b5)).stor o4.next, hBt, hSt, hPt, by rw [List.length_append, hfl]; rfl, a5.eq fun c hc => by omega, fun c hc => ?_⟩
        · have hw : IntKind.i64.wrap ((i : Int) + 1) = ((i + 1 : Nat) : Int) := wrap_nat (by omega)
          exact (by (refine ⟨?_, ?_⟩ <;> repeat' first | exact trivial | exact congrArg (fun x => some (Value.int .i64 x)) hw | exact rfl | refine ⟨?_, ?_⟩ | fail))
        · have h1 := c5 c hc
          have h2 := val2 hb (posS c k + 1 + 2 * i)
          rw [List.take_add_one, gf c hc]
          unfold cntsL
          rw [List.getElem?_map, List.getElem?_range (by omega), h1, h2]; rfl
      · have hi6 : i = 6 := by simp at hge; omega
        subst hi6
        have gf2 : ∀ c, Good c bs → fs = cntsL bs (posS c k + 1) 6 := fun c hc => by rw [gf c hc, List.take_of_length_le (by simp)]
        refine ⟨.int .i64 (v : Int), cell_of hbS 0, fun h1 => ?_, fun h1 => ?_⟩
        · have h1 : v = 1 := by simp at h1; omega
          refine ⟨_, take_ec _ K L p xs bad 8 (by decide) (by decide) l, ?_, fun v K hR => hR.no.elim⟩
          rintro _ K5 ⟨p5, xs5, bad5, V, hv, l5, b5, hV, t5⟩
          cases hv
          have hV : V < 18446744073709551616 := hV
          refine ⟨_, implFrom_pc V hV K5, ?_, fun v K hR => by cases hR.1⟩
          rintro _ K5 ⟨hx, rfl⟩
          cases hx
          have hS5 : K5.blk K4.next = some (.cells (stepcells (mkS v fs)) 8 true) := b5.same _ _ (fun o e => by cases e; omega) hbS
          have bs5 : Buf dStep K5 K3.next q2 ss := bufL bs2 b5 (Nat.lt_of_lt_of_le hL o3.next)
          have o5 := o.trans (butL b5)
          obtain ⟨a5, c5⟩ := a.take (fun c hc => by
            have hk' : k < c.steps.length := by rw [← gS c hc]; omega
            have h2 := posS_le hc (k := k + 1) (by omega)
            have hs := (hc.step hk').1
            have h3 := val1 hb (posS c k)
            have h4 := c4 c hc
            rw [posS_succ hk', stepBy_len, if_pos (by omega)] at h2
            omega) t5
          refine ⟨⟨_, _, hS5, by show 7 + 1 ≤ 8; omega⟩, ?_⟩
          have hst := Heap.stor_put hS5 7 [.float .f64 (canon V)]
          have hSt : (K5.stor K4.next 7 [.float .f64 (canon V)]).blk K4.next = some (.cells (stepcells (withK (mkS v fs) (canon V))) 8 true) := by
            rw [hst, put_blk _ _ _ _ (K5.lt _ _ hS5), if_pos rfl]; rfl
          have hBt : Buf dStep (K5.stor K4.next 7 [.float .f64 (canon V)]) K3.next q2 ss := by
            cases bs5 with
            | nil => exact .nil
            | @blk b _ h1 h2 => exact .blk h1 (by rw [hst, put_blk _ _ _ _ (K5.lt _ _ hS5), if_neg (by have := hq2S b 0 rfl; omega)]; exact h2)
          have l6 := l5.stor hL hHK (o := 7) (l := [.float .f64 (canon V)])
          have o6 := o5.stor (o := 7) (l := [.float .f64 (canon V)]) o4.next
          refine ⟨stepV (withK (mkS v fs) (canon V)), agg_blk hSt, ?_⟩
          have hq1 := hBt.mono (Ext.push (K5.stor K4.next 7 [.float .f64 (canon V)]) (.cells (flat dStep [(withK (mkS v fs) (canon V))]) 8 true))
          refine ⟨_, run_push _ _ _ _ (Nat.le_refl 8), by dsimp only; omega, by dsimp only; omega, _, hq1.own, ?_⟩
          refine ⟨n1 - (k + 1), ⟨[(0, .pointer (some ⟨L, 0, none⟩)), (2, .pointer (some ⟨0, 0, some 0⟩)), (3, .pointer (some ⟨1, 0, some 0⟩)), (5, .int .i64 ((n1 - (k + 1) : Nat) : Int))], [[.slice none 0 0, .slice none 0 0, .slice none 0 0, .int .i64 0], [sv q is, sv (some ⟨(K5.stor K4.next 7 [.float .f64 (canon V)]).next + 1, 0, none⟩) (ss ++ [(withK (mkS v fs) (canon V))]), .slice none 0 0, .int .i64 0]]⟩, by omega, ?_, k + 1, p5, xs5, bad5, some ⟨(K5.stor K4.next 7 [.float .f64 (canon V)]).next + 1, 0, none⟩, _, by omega, rfl, rfl, ((l6.push _).kill hL hq1 (Nat.le_trans o3.next (Nat.le_refl _))).push _, ((o6.push' _).killB hq1 (Nat.le_refl _)).push' _, hq1.app rfl (by show K3.next ≤ (K5.stor K4.next 7 [.float .f64 (canon V)]).next + 1; have := o6.next; omega), by rw [List.length_append, hl]; rfl, hnm.snoc (canon_idem _) (canon_lt hV) (fun h => absurd (show (v : Int) = 1 by omega) h), a5.eq fun c hc => ?_, fun c hc => ?_⟩
          · have hw : IntKind.i64.wrap (((n1 - k : Nat) : Int) - 1) = ((n1 - (k + 1) : Nat) : Int) := by rw [wrap_i64 (by omega) (by omega)]; omega
            rw [← sv_app _ _ [(withK (mkS v fs) (canon V))] rfl]
            exact (by (refine ⟨?_, ?_⟩ <;> repeat' first | exact trivial | exact congrArg (fun x => some (Value.int .i64 x)) hw | exact rfl | refine ⟨?_, ?_⟩ | fail))
          · have hk' : k < c.steps.length := by rw [← gS c hc]; omega
            have hs := (hc.step hk').1
            have h1 := val1 hb (posS c k)
            have h2 := c4 c hc
            rw [posS_succ hk', stepBy_len, if_pos (by omega)]
            try omega
          · have hk' : k < c.steps.length := by rw [← gS c hc]; omega
            rw [List.take_succ_eq_append_getElem hk', g c hc, ← good_step (f := canon V) hb hc hk' (c4 c hc) (gf2 c hc) (fun _ => by rw [c5 c hc]) (fun h => absurd h1 h)]
        · have h1 : ¬ v = 1 := by simp at h1; omega
          refine ⟨stepV (mkS v fs), agg_blk hbS, ?_⟩
          have hq1 := bs2.mono (Ext.push K (.cells (flat dStep [(mkS v fs)]) 8 true))
          refine ⟨_, run_push _ _ _ _ (Nat.le_refl 8), by dsimp only; omega, by dsimp only; omega, _, hq1.own, ?_⟩
          refine ⟨n1 - (k + 1), ⟨[(0, .pointer (some ⟨L, 0, none⟩)), (2, .pointer (some ⟨0, 0, some 0⟩)), (3, .pointer (some ⟨1, 0, some 0⟩)), (5, .int .i64 ((n1 - (k + 1) : Nat) : Int))], [[.slice none 0 0, .slice none 0 0, .slice none 0 0, .int .i64 0], [sv q is, sv (some ⟨(K).next + 1, 0, none⟩) (ss ++ [(mkS v fs)]), .slice none 0 0, .int .i64 0]]⟩, by omega, ?_, k + 1, p, xs, bad, some ⟨(K).next + 1, 0, none⟩, _, by omega, rfl, rfl, ((l.push _).kill hL hq1 (Nat.le_trans o3.next (Nat.le_refl _))).push _, ((o.push' _).killB hq1 (Nat.le_refl _)).push' _, hq1.app rfl (by show K3.next ≤ (K).next + 1; have := o.next; omega), by rw [List.length_append, hl]; rfl, hnm.snoc (show canon 0 = 0 by decide) (show 0 < 18446744073709551616 by decide) (fun _ => rfl), a.eq fun c hc => ?_, fun c hc => ?_⟩
          · have hw : IntKind.i64.wrap (((n1 - k : Nat) : Int) - 1) = ((n1 - (k + 1) : Nat) : Int) := by rw [wrap_i64 (by omega) (by omega)]; omega
            rw [← sv_app _ _ [(mkS v fs)] rfl]
            exact (by (refine ⟨?_, ?_⟩ <;> repeat' first | exact trivial | exact congrArg (fun x => some (Value.int .i64 x)) hw | exact rfl | refine ⟨?_, ?_⟩ | fail))
          · have hk' : k < c.steps.length := by rw [← gS c hc]; omega
            have hs := (hc.step hk').1
            have h1 := val1 hb (posS c k)
            have h2 := c4 c hc
            rw [posS_succ hk', stepBy_len, if_neg (by omega)]
            try omega
          · have hk' : k < c.steps.length := by rw [← gS c hc]; omega
            rw [List.take_succ_eq_append_getElem hk', g c hc, ← good_step (f := 0) hb hc hk' (c4 c hc) (gf2 c hc) (fun h => absurd h h1) (fun _ => rfl)]
            rfl
    · have gK : ∀ c, Good c bs → k = c.steps.length ∧ ss = c.steps := fun c hc => by
        have hbad := (a c hc).1
        rw [hbad] at hend
        have hk' : k = n1 := by simp at hend; omega
        exact ⟨hk'.trans (gS c hc), by rw [g c hc, hk', gS c hc, List.take_of_length_le (Nat.le_refl _)]⟩
      refine ⟨_, count_ec _ K L p xs bad l, ?_, fun v K hR => hR.no.elim⟩
      rintro _ K4 ⟨p4, xs4, bad4, n2, hv, l4, b4, hn2, t4⟩
      cases hv
      obtain ⟨a4, c4⟩ := a.take (fun c hc => by have := posS_le hc (k := k) (by rw [(gK c hc).1]; exact Nat.le_refl _); omega) t4
      have gO : ∀ c, Good c bs → n2 = c.outs.length := fun c hc => by
        have h1 := c4 c hc
        have h2 := val2 hb (posS c k)
        have h3 := hc.outsN
        rw [← (gK c hc).1] at h3
        omega
      have a5 : At bs (fun c => posO c 0) xs4 bad4 := a4.eq fun c hc => by rw [posO_zero, (gK c hc).1]
      have bs4 : Buf dStep K4 K3.next q2 ss := bufL bs2 b4 (Nat.lt_of_lt_of_le hL o3.next)
      have o4 : Out L (L + 1) K3 K4 := o.trans (butL b4)
      have hsl : ss.length ≤ 65535 := by omega
      have gS2 : ∀ c, Good c bs → ss = c.steps := fun c hc => (gK c hc).2
      clear a4 c4 t4 gK gS a g hend l bs2 o b4
      refine loop_ind ctx ldcPv (fun m E K => ∃ (k : Nat) (p : Option Addr) (xs : List Int) (bad : Bool) (r : Option Addr) (os : List Span), k ≤ n2 ∧ m = n2 - k ∧ E = ⟨[(0, .pointer (some ⟨L, 0, none⟩)), (2, .pointer (some ⟨0, 0, some 0⟩)), (3, .pointer (some ⟨1, 0, some 0⟩)), (9, .int .i64 ((n2 - k : Nat) : Int))], [[.slice none 0 0, .slice none 0 0, .slice none 0 0, .int .i64 0], [sv q is, sv q2 ss, sv r os, .int .i64 0]]⟩ ∧ LS H.next K L p xs bad ∧ Out L (L + 1) K4 K ∧ Buf dSpan K K4.next r os ∧ os.length = k ∧ At bs (fun c => posO c k) xs bad ∧ ∀ c, Good c bs → os = c.outs.take k)
        (E0 := ⟨[(0, .pointer (some ⟨L, 0, none⟩)), (2, .pointer (some ⟨0, 0, some 0⟩)), (3, .pointer (some ⟨1, 0, some 0⟩)), (9, .int .i64 ((n2 - 0 : Nat) : Int))], [[.slice none 0 0, .slice none 0 0, .slice none 0 0, .int .i64 0], [sv q is, sv q2 ss, sv none ([] : List Span), .int .i64 0]]⟩) ⟨0, p4, xs4, bad4, none, [], Nat.zero_le _, rfl, rfl, l4, Out.of_ext (Ext.refl _), .nil, rfl, a5, fun c hc => rfl⟩ (by (refine ⟨?_, ?_⟩ <;> repeat' first | exact trivial | exact congrArg (fun x => some (Value.int .i64 x)) (wrap_nat (by omega)) | exact sv_eq (by simp; done) | exact rfl | refine ⟨?_, ?_⟩ | fail)) ?_
      clear a5 l4
      rintro m E K ⟨k, p, xs, bad, r, os, hk, rfl, rfl, l, o, bo, hl, a, g⟩
      have hB4 : H.next ≤ K4.next := Nat.le_trans o3.next o4.next
      refine ⟨.bool bad, fun _ => cell_of l.blk 1, fun hgo => ?_, fun hend => ?_⟩
      · have hgo : k < n2 := by
          simp at hgo; omega
        refine ⟨_, count_ec _ K L p xs bad l, ?_, fun v K hR => hR.no.elim⟩
        rintro _ K5 ⟨p5, xs5, bad5, x, hv, l5, b5, hx, t5⟩
        cases hv
        refine ⟨_, count_ec _ K5 L p5 xs5 bad5 l5, ?_, fun v K hR => hR.no.elim⟩
        rintro _ K6 ⟨p6, xs6, bad6, y, hv, l6, b6, hy, t6⟩
        cases hv
        have hpos : ∀ c, Good c bs → posO c k + 4 + 2 ≤ bs.length ∧ posO c (k + 1) = posO c k + 4 := fun c hc => by
          have h1 := hc.len
          have h2 := gO c hc
          unfold posO at h1 ⊢
          omega
        obtain ⟨a5, c5⟩ := a.take (fun c hc => by have := hpos c hc; omega) t5
        obtain ⟨a6, c6⟩ := a5.take (fun c hc => by have := hpos c hc; omega) t6
        have o6 := (o.trans (butL b5)).trans (butL b6)
        have hL4 := Nat.lt_of_lt_of_le hL hB4
        have bo6 := bufL (bufL bo b5 hL4) b6 hL4
        have hq1 := bo6.mono (Ext.push K6 (.cells (flat dSpan [⟨(x : Int), (y : Int)⟩]) 2 true))
        refine ⟨_, run_push _ _ _ _ (Nat.le_refl 2), by dsimp only; omega, by dsimp only; omega, _, hq1.own, ?_⟩
        refine ⟨n2 - (k + 1), ⟨[(0, .pointer (some ⟨L, 0, none⟩)), (2, .pointer (some ⟨0, 0, some 0⟩)), (3, .pointer (some ⟨1, 0, some 0⟩)), (9, .int .i64 ((n2 - (k + 1) : Nat) : Int))], [[.slice none 0 0, .slice none 0 0, .slice none 0 0, .int .i64 0], [sv q is, sv q2 ss, sv (some ⟨K6.next + 1, 0, none⟩) (os ++ [⟨(x : Int), (y : Int)⟩]), .int .i64 0]]⟩, by omega, ?_, k + 1, p6, xs6, bad6, some ⟨K6.next + 1, 0, none⟩, _, by omega, rfl, rfl, ((l6.push _).kill hL hq1 hB4).push _, ((o6.push' _).killB hq1 (Nat.le_refl _)).push' _, hq1.app rfl (by show K4.next ≤ K6.next + 1; have := o6.next; omega), by rw [List.length_append, hl]; rfl, a6.eq fun c hc => by have := hpos c hc; omega, fun c hc => ?_⟩
        · have hw : IntKind.i64.wrap (((n2 - k : Nat) : Int) - 1) = ((n2 - (k + 1) : Nat) : Int) := by rw [wrap_i64 (by omega) (by omega)]; omega
          rw [← sv_app _ _ ([⟨(x : Int), (y : Int)⟩] : List Span) rfl]
          exact (by (refine ⟨?_, ?_⟩ <;> repeat' first | exact trivial | exact congrArg (fun x => some (Value.int .i64 x)) hw | exact rfl | refine ⟨?_, ?_⟩ | fail))
        · have hk' : k < c.outs.length := by rw [← gO c hc]; omega
          rw [List.take_succ_eq_append_getElem hk', g c hc]
          congr 2
          have ho := hc.out hk'
          have h1 := val2 hb (posO c k)
          have h2 := val2 hb (posO c k + 2)
          rw [← c5 c hc] at h1
          rw [← c6 c hc] at h2
          have ho : [cntAt bs (posO c k), cntAt bs (posO c k + 2)] = _ := ho
          rw [← h1, ← h2] at ho
          simp only [List.cons.injEq, and_true] at ho
          rw [ho.1, ho.2]
      · refine ⟨_, count_ec _ K L p xs bad l, ?_, fun v K hR => hR.no.elim⟩
        rintro _ K5 ⟨p5, xs5, bad5, x, hv, l5, b5, hx, t5⟩
        cases hv
        have gK : ∀ c, Good c bs → k = c.outs.length ∧ os = c.outs := fun c hc => by
          have hbad := (a c hc).1
          rw [hbad] at hend
          have hk' : k = n2 := by simp at hend; omega
          exact ⟨hk'.trans (gO c hc), by rw [g c hc, hk', gO c hc, List.take_of_length_le (Nat.le_refl _)]⟩
        obtain ⟨a5, c5⟩ := a.take (fun c hc => by have := hc.len; rw [← (gK c hc).1] at this; omega) t5
        have o5 := o.trans (butL b5)
        have hL4 := Nat.lt_of_lt_of_le hL hB4
        have b35 : Out L (L + 1) K3 K5 := o4.trans o5
        have iq : Buf dInt K5 H.next q is := bq3.out b35 (fun b o h => .inr (by have := bq3.lt h; omega))
        have sq : Buf dStep K5 K3.next q2 ss := bs4.out o5 (fun b o h => .inr (by have := bs4.lt h; have := o3.next; omega))
        have oq : Buf dSpan K5 K4.next r os := bufL bo b5 hL4
        refine ⟨q, q2, r, ⟨is, ss, os, (x : Int)⟩, p5, xs5, bad5, rfl, l5, (o3.trans o4).trans o5, OwnC.of iq (fun b o h => (bq3.lt h).2) sq (fun b o h => (bs4.lt h).2) oq o3.next o4.next, hnm, ⟨by dsimp only; omega, by dsimp only; omega, by dsimp only; omega⟩, fun c hc => ?_⟩
        obtain ⟨q1, q3⟩ := a5 c hc
        have hpk := hc.peak_
        have hlen := hc.len
        have h1 := val2 hb (posO c k)
        rw [← c5 c hc] at h1
        rw [← (gK c hc).1] at hpk hlen
        refine ⟨q1, by rw [q3]; exact List.drop_eq_nil_of_le (by show bs.length ≤ posO c k + 2; omega), ?_⟩
        have e1 := gI2 c hc
        have e2 := gS2 c hc
        have e3 := (gK c hc).2
        obtain ⟨c1, c2, c3, c4⟩ := c
        simp only at e1 e2 e3 hpk
        rw [e1, e2, e3, h1, hpk]
end Go.Proofs.Ythcnnificgbmhaa
