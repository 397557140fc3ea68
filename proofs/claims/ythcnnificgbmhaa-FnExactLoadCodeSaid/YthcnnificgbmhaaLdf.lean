/- LoadCode, the reference's side. Conditions: those of each. -/
import Derived.Test.YthcnnificgbmhaaLde
import Derived.Test.YthcnnificgbmhaaSave
set_option linter.unusedVariables false
set_option linter.unusedSimpArgs false
namespace Go.Proofs.Ythcnnificgbmhaa
open Go.Am
open FlCore (canon isNan)

/-- What LoadCode answers. -/
def LC (H : Heap) (bs : List Int) (e : AEnd) (K : Heap) : Prop := ∃ p q r c, Ext H K ∧ OwnC K H.next K.next p q r c ∧ CodeS c ∧
  ((Good c bs ∧ (∀ c', Good c' bs → c = c') ∧ e = .ret (.tuple #[cV p q r c, .int .i64 0])) ∨
   ((∀ c', ¬ Good c' bs) ∧ c = ⟨[], [], [], 0⟩ ∧ e = .ret (.tuple #[cV p q r c, .int .i64 1])))
theorem OwnC.none (K : Heap) (lo hi : Nat) : OwnC K lo hi none none none ⟨[], [], [], 0⟩ := ⟨.nil, .nil, .nil, ⟨by simp, by simp, by simp⟩, ⟨by simp, by simp, by simp⟩⟩
theorem LC.no {H K : Heap} {bs : List Int} (e : Ext H K) (h : ∀ c', ¬ Good c' bs) : LC H bs (.ret (.tuple #[.agg #[.slice none 0 0, .slice none 0 0, .slice none 0 0, .int .i64 0], .int .i64 1])) K :=
  ⟨none, none, none, ⟨[], [], [], 0⟩, e, OwnC.none _ _ _, ⟨by simp, by simp, by simp⟩, .inr ⟨h, rfl, rfl⟩⟩
def ldPv (k : Nat) : Bool := !Nat.beq k 1000020
theorem bytesS_data : ∀ (ns : List Int) (a : ByteArray), (ns.foldl (fun r n => r.push (UInt8.ofNat n.toNat)) a).data.toList = a.data.toList ++ ns.map fun n => UInt8.ofNat n.toNat
  | [], a => by simp
  | n :: r, a => by
    rw [List.foldl_cons, bytesS_data r]
    simp [ByteArray.push]
theorem ofNat_inj {x y : Int} (hx : 0 ≤ x ∧ x ≤ 255) (hy : 0 ≤ y ∧ y ≤ 255) (h : UInt8.ofNat x.toNat = UInt8.ofNat y.toNat) : x = y := by
  have := congrArg UInt8.toNat h
  simp only [UInt8.toNat_ofNat'] at this
  omega
theorem map_inj : ∀ {xs ys : List Int}, ByteL xs → ByteL ys → (xs.map fun n : Int => UInt8.ofNat n.toNat) = ys.map (fun n => UInt8.ofNat n.toNat) → xs = ys
  | [], [], _, _, _ => rfl
  | [], y :: r, _, _, h => by simp at h
  | x :: r, [], _, _, h => by simp at h
  | x :: r, y :: t, hx, hy, h => by
    simp only [List.map_cons, List.cons.injEq] at h
    rw [ofNat_inj (hx x (by simp)) (hy y (by simp)) h.1, map_inj (fun b hb => hx b (by simp [hb])) (fun b hb => hy b (by simp [hb])) h.2]
theorem bytesS_inj {xs ys : List Int} (hx : ByteL xs) (hy : ByteL ys) (h : bytesS xs = bytesS ys) : xs = ys := by
  have := congrArg (fun b : ByteArray => b.data.toList) h
  simp only [bytesS, bytesS_data] at this
  exact map_inj hx hy (by simpa using this)
theorem u8w_range (n : Int) : 0 ≤ u8w n ∧ u8w n ≤ 255 := by rw [u8w_low]; omega
theorem cntB_byte (n : Int) : ByteL (cntB n) := fun b hb => by
  simp only [cntB, List.mem_cons, List.not_mem_nil, or_false] at hb
  rcases hb with rfl | rfl <;> exact u8w_range _
theorem ByteL.app {xs ys : List Int} (h : ByteL xs) (h' : ByteL ys) : ByteL (xs ++ ys) := fun b hb => by
  rw [List.mem_append] at hb
  exact hb.elim (h b) (h' b)
theorem ByteL.flat {α : Type} {f : α → List Int} (h : ∀ x, ByteL (f x)) (xs : List α) : ByteL (xs.flatMap f) := fun b hb => by
  obtain ⟨x, _, hx⟩ := List.mem_flatMap.1 hb
  exact h x b hx
theorem lowB_byte : ∀ n b, ByteL (lowB n b)
  | 0, b => fun x hx => by cases hx
  | n + 1, b => fun x hx => by
    simp only [lowB, List.mem_cons] at hx
    rcases hx with rfl | hx
    · exact u8w_range _
    · exact lowB_byte n _ x hx
theorem stepBy_byte (s : Step) : ByteL (stepBy s) := by
  refine ByteL.app (ByteL.app (fun b hb => ?_) (ByteL.flat cntB_byte _)) ?_
  · simp only [List.mem_cons, List.not_mem_nil, or_false] at hb; subst hb; exact u8w_range _
  · split
    · exact lowB_byte _ _
    · intro b hb; cases hb
theorem spanBy_byte (o : Span) : ByteL (spanBy o) := (cntB_byte _).app (cntB_byte _)
theorem savL_byte (c : Code') : ByteL (savL c) := by
  have h0 : ByteL [71, 76] := fun b hb => by
    simp only [List.mem_cons, List.not_mem_nil, or_false] at hb
    rcases hb with rfl | rfl <;> decide
  exact (((((((h0.app (cntB_byte _)).app (ByteL.flat cntB_byte _)).app (cntB_byte _)).app (ByteL.flat stepBy_byte _)).app (cntB_byte _)).app (ByteL.flat spanBy_byte _)).app (cntB_byte _))
theorem flat_byte : ∀ xs : List Int, flat dByte xs = xs.map (Value.int .u8)
  | [] => rfl
  | x :: r => by rw [List.map_cons, ← flat_byte r]; rfl
/-- All of a slice of bytes, at one load. -/
theorem run_all {H : Heap} {b o : Nat} {xs : List Int} (h : Rd dByte H (some ⟨b, o, none⟩) xs) {n : Nat} (hn : xs.length = n + 1) : H.run? b o (n + 1) = some (xs.map (Value.int .u8)) := by
  obtain ⟨b', o', cs, rw_, h1, h2, h3, h4⟩ := h.at_ (by omega)
  cases h1
  have h3 : o + xs.length * 1 ≤ cs.length := h3
  have h4 : (cs.drop o).take (xs.length * 1) = flat dByte xs := h4
  rw [hn, Nat.mul_one] at h3 h4
  unfold Heap.run?
  rw [h2]
  simp only
  rw [if_pos h3, h4]
  rw [flat_byte]
theorem good_ne {c : Code'} (h : Good c []) : False := by
  have := congrArg List.length h.2.1
  simp [savL, savC, savB, savA] at this
theorem savL_cons (c : Code') : ∃ ys, savL c = 71 :: ys := by
  refine ⟨(savL c).tail, ?_⟩
  simp [savL, savC, savB, savA]
theorem OwnC.up {K : Heap} {lo hi hi' : Nat} {p q r : Option Addr} {c : Code'} (h : OwnC K lo hi p q r c) (e : hi ≤ hi') : OwnC K lo hi' p q r c :=
  ⟨h.i, h.s, h.o, ⟨fun b f hh => Nat.lt_of_lt_of_le (h.hi_.1 b f hh) e, fun b f hh => Nat.lt_of_lt_of_le (h.hi_.2.1 b f hh) e, fun b f hh => Nat.lt_of_lt_of_le (h.hi_.2.2 b f hh) e⟩, h.ne⟩
theorem LC.yes {H K K' : Heap} {bs : List Int} {p q r : Option Addr} {c : Code'} (e : Ext H K) (e' : Ext K K') (hO : OwnC K H.next K.next p q r c) (hs : CodeS c) (hg : Good c bs) (hu : ∀ c', Good c' bs → c = c') : LC H bs (.ret (.tuple #[cV p q r c, .int .i64 0])) K' :=
  ⟨p, q, r, c, e.trans e', (hO.mono e').up e'.next, hs, .inl ⟨hg, hu, rfl⟩⟩
theorem good_no {c : Code'} {bs : List Int} (hu : ∀ c', Good c' bs → c = c') (h : ¬ (verB c = true ∧ savL c = bs)) : ∀ c', ¬ Good c' bs := fun c' hc => by
  have := hu c' hc; subst this
  exact h ⟨hc.1, hc.2.1⟩
theorem str_ne {xs ys : List Int} (hx : ByteL xs) (hy : ByteL ys) (h : (!((bytesS xs).toList == (bytesS ys).toList)) = true) : xs ≠ ys := fun e => by
  subst e; simp at h
theorem toList_loop (a : ByteArray) : ∀ (n i : Nat) (r : List UInt8), n = a.size - i → ByteArray.toList.loop a i r = r.reverse ++ a.data.toList.drop i
  | 0, i, r, h => by
    rw [ByteArray.toList.loop, if_neg (by omega), List.drop_eq_nil_of_le (by have : a.size = a.data.toList.length := Array.length_toList.symm
                                                                             omega)]
    simp
  | n + 1, i, r, h => by
    have hs : a.size = a.data.toList.length := Array.length_toList.symm
    have hi : i < a.data.toList.length := by omega
    rw [ByteArray.toList.loop, if_pos (by omega), toList_loop a n (i + 1) _ (by omega), List.drop_eq_getElem_cons hi]
    have : a.get! i = a.data.toList[i] := by
      have hi' : i < a.data.size := by simpa using hi
      have h2 : a.data[i]! = a.data[i] := getElem!_pos a.data i hi'
      have h1 : a.get! i = a.data[i]! := rfl
      rw [h1, h2, Array.getElem_toList]
    simp [this]
theorem toList_all (a : ByteArray) : a.toList = a.data.toList := by
  rw [ByteArray.toList, toList_loop a _ 0 [] rfl]; simp
theorem toList_inj {a b : ByteArray} (h : a.toList = b.toList) : a = b := by
  have h1 : a.data.toList = b.data.toList := by rw [← toList_all, ← toList_all]; exact h
  exact ByteArray.ext (Array.ext' h1)
theorem str_eq {xs ys : List Int} (hx : ByteL xs) (hy : ByteL ys) (h : (!((bytesS xs).toList == (bytesS ys).toList)) = false) : xs = ys := by
  refine bytesS_inj hx hy (toList_inj ?_)
  simpa using h
theorem specLoad_nil (H : Heap) (p : Option Addr) (hr : Rd dByte H p []) :
    EC Try.prog 4 [sv p ([] : List Int)] H (LC H []) := by
  have hno : ∀ c, ¬ Good c [] := fun c hc => good_ne hc
  refine EC_fn ctx ldPv Try.func4 rfl rfl rfl ?_
  refine ⟨_, l6load_ec H p [] hr (fun _ h => by cases h) (by simp), ?_, fun v K hR => by obtain ⟨_, _, _, _, ⟨h, _⟩ | ⟨h, _⟩⟩ := hR <;> cases h⟩
  rintro v K ⟨a, b, d, c, ⟨hv, e1, hno⟩ | ⟨hv, e1, hO, hN, hS, hG⟩⟩
  · cases hv
    refine ⟨.leaf [([0, 1, 2, 3, 4, 5, 6, 7, 8, 11, 12], some 9), ([10, 13, 14], none)] [11, 12], by kernel_rfl, .bool true, fun h => by simp at h, ?_⟩
    refine ⟨fun h => by simp at h, fun _ => ?_⟩
    refine ⟨rfl, ?_⟩
    refine ⟨rfl, ?_⟩
    refine ⟨fun _ => ?_, fun h => by simp at h⟩
    exact LC.no (e1.trans (Ext.refl _)) hno
  · cases hv
    refine ⟨.leaf [([0, 1, 2, 3, 4, 5, 6, 7, 8, 11, 12], some 9), ([10, 13, 14], none)] [11, 12], by kernel_rfl, .bool (verB c), fun h => specVerify_pc _ a b d c hO.rd hS.ins hS.steps hS.outs, ?_⟩
    refine ⟨fun h => ?_, fun h => ?_⟩
    · have hv : verB c = true := by simpa using h
      refine ⟨_, l6save_ec _ a b d c hO.rd (ver_nums hv) hS, ?_, fun v K hR => by obtain ⟨_, h, _⟩ := hR; cases h⟩
      rintro _ K2 ⟨o, hx, hb2⟩
      cases hx
      obtain ⟨ys, hy⟩ := savL_cons c
      have hb' := hb2.buf.rd
      have hby := savL_byte c
      rw [hy] at hb' hby ⊢
      obtain ⟨b1, o1, rfl, _⟩ := hb'.cell (i := 0) (x := 71) rfl
      refine ⟨.string (bytesS (71 :: ys)), fun _ => ⟨_, run_all hb' rfl, rfl⟩, ?_⟩
      refine ⟨fun hne => ?_, fun heq => ?_⟩
      · exact LC.no (e1.trans hb2.ext) hno
      · exfalso
        have h0 : (!((bytesS (71 :: ys)).toList == (bytesS []).toList)) = false := by simpa [hv, bytesS] using heq
        cases str_eq hby (fun _ h => by cases h) h0
    · have hv : verB c = false := by simpa using h
      refine ⟨h, ?_⟩
      refine ⟨h, ?_⟩
      refine ⟨fun _ => ?_, fun h2 => ?_⟩
      · exact LC.no (e1.trans (Ext.refl _)) (good_no hG fun h => by rw [hv] at h; cases h.1)
      · rw [hv] at h2; simp at h2
theorem specLoad_cons (H : Heap) (b0 o0 : Nat) (x : Int) (r : List Int) (hr : Rd dByte H (some ⟨b0, o0, none⟩) (x :: r)) (hb : ByteL (x :: r)) (hl : (x :: r).length ≤ 1048576) :
    EC Try.prog 4 [sv (some ⟨b0, o0, none⟩) (x :: r)] H (LC H (x :: r)) := by
  refine EC_fn ctx ldPv Try.func4 rfl rfl rfl ?_
  refine ⟨_, l6load_ec H (some ⟨b0, o0, none⟩) (x :: r) hr hb hl, ?_, fun v K hR => by obtain ⟨_, _, _, _, ⟨h, _⟩ | ⟨h, _⟩⟩ := hR <;> cases h⟩
  rintro v K ⟨a, b, d, c, ⟨hv, e1, hno⟩ | ⟨hv, e1, hO, hN, hS, hG⟩⟩
  · cases hv
    refine ⟨.leaf [([0, 1, 2, 3, 4, 5, 6, 7, 8, 11, 12], some 9), ([10, 13, 14], none)] [11, 12], by kernel_rfl, .bool true, fun h => by simp at h, .string ByteArray.empty, fun h => by simp at h, ?_⟩
    refine ⟨fun h => by simp at h, fun _ => ⟨Ext.refl _, ?_⟩⟩
    refine ⟨rfl, ?_⟩
    refine ⟨rfl, ?_⟩
    refine ⟨fun _ => ?_, fun h => by simp at h⟩
    exact LC.no (e1.trans (Ext.refl _)) hno
  · cases hv
    refine ⟨.leaf [([0, 1, 2, 3, 4, 5, 6, 7, 8, 11, 12], some 9), ([10, 13, 14], none)] [11, 12], by kernel_rfl, .bool (verB c), fun h => specVerify_pc _ a b d c hO.rd hS.ins hS.steps hS.outs, .string (bytesS (x :: r)), fun _ => ⟨_, run_all (hr.mono e1) rfl, rfl⟩, ?_⟩
    refine ⟨fun h => ?_, fun h => ?_⟩
    · have hv : verB c = true := by simpa using h
      refine ⟨_, l6save_ec _ a b d c hO.rd (ver_nums hv) hS, ?_, fun v K hR => by obtain ⟨_, h, _⟩ := hR; cases h⟩
      rintro _ K2 ⟨o, hx, hb2⟩
      cases hx
      refine ⟨hb2.ext, ?_⟩
      obtain ⟨ys, hy⟩ := savL_cons c
      have hb' := hb2.buf.rd
      have hby := savL_byte c
      rw [hy] at hb' hby ⊢
      obtain ⟨b1, o1, rfl, _⟩ := hb'.cell (i := 0) (x := 71) rfl
      refine ⟨.string (bytesS (71 :: ys)), fun _ => ⟨_, run_all hb' rfl, rfl⟩, ?_⟩
      refine ⟨fun hne => ?_, fun heq => ?_⟩
      · refine LC.no (e1.trans hb2.ext) (good_no hG fun h => ?_)
        have h0 : (!((bytesS (71 :: ys)).toList == (bytesS (x :: r)).toList)) = true := by simpa [hv] using hne
        exact str_ne hby hb h0 (by rw [← hy, h.2])
      · have h0 : (!((bytesS (71 :: ys)).toList == (bytesS (x :: r)).toList)) = false := by simpa [hv] using heq
        have h1 := str_eq hby hb h0
        rw [← hy] at h1
        exact LC.yes e1 hb2.ext hO hS ⟨hv, h1, hN⟩ hG
    · have hv : verB c = false := by simpa using h
      refine ⟨Ext.refl _, ?_⟩
      refine ⟨h, ?_⟩
      refine ⟨h, ?_⟩
      refine ⟨fun _ => ?_, fun h2 => ?_⟩
      · exact LC.no (e1.trans (Ext.refl _)) (good_no hG fun h => by rw [hv] at h; cases h.1)
      · rw [hv] at h2; simp at h2
theorem specLoad_ec (H : Heap) (p : Option Addr) (bs : List Int) (hr : Rd dByte H p bs) (hb : ByteL bs) (hl : bs.length ≤ 1048576) :
    EC Try.prog 4 [sv p bs] H (LC H bs) := by
  cases bs with
  | nil => exact specLoad_nil H p hr
  | cons x r =>
    obtain ⟨b1, o1, rfl, _⟩ := hr.cell (i := 0) (x := x) rfl
    exact specLoad_cons H b1 o1 x r hr hb hl
end Go.Proofs.Ythcnnificgbmhaa
