/- Slices of slices of floats: the laws' helpers over them. Conditions: all together at most 2^20 elements. Slices of slices of floats of a call's own: copies and marks. Conditions: all together at most 2^20 elements. Slices of slices of floats: the laws' copies. Conditions: all together at most 2^20 elements. -/
import Derived.Test.YtaaelokodfildaaAmOpenS
import Derived.Test.YtaaelokodfildaaHel
set_option linter.unusedVariables false
set_option linter.unusedSimpArgs false
namespace Go.Proofs.Ytaaelokodfildaa
open Go.Am

abbrev snds (es : List SlE) : List (List Nat) := es.map (·.2)
def tot : List SlE → Nat
  | [] => 0
  | e :: r => e.2.length + tot r
theorem tot_append : ∀ l r, tot (l ++ r) = tot l + tot r
  | [], r => by simp [tot]
  | e :: l, r => by simp [tot, tot_append l r]; omega
theorem tot_snds : ∀ {l r : List SlE}, snds l = snds r → tot l = tot r
  | [], [], _ => rfl
  | [], _ :: _, h => by simp at h
  | _ :: _, [], h => by simp at h
  | e :: l, f :: r, h => by
    simp only [snds, List.map_cons, List.cons.injEq] at h
    simp only [tot, h.1, tot_snds (l := l) (r := r) h.2]
theorem tot_take (es : List SlE) (k : Nat) : tot (es.take k) ≤ tot es := by
  have := tot_append (es.take k) (es.drop k)
  rw [List.take_append_drop] at this
  omega
theorem tot_mem {es : List SlE} {e : SlE} (h : e ∈ es) : e.2.length ≤ tot es := by
  obtain ⟨i, hi, rfl⟩ := List.getElem_of_mem h
  have := tot_take es (i + 1)
  rw [List.take_succ_eq_append_getElem hi, tot_append] at this
  simp only [tot] at this
  omega
def szGo : List SlE → Int → Int
  | [], l => l
  | e :: r, l => if l - e.2.length < 0 then -1 else szGo r (l - e.2.length)
def szSS (es : List SlE) (left : Int) : Int := if left - es.length < 0 then -1 else szGo es (left - es.length)
theorem szGo_tot : ∀ (es : List SlE) (l : Int), 0 ≤ l → ¬ szGo es l < 0 → (tot es : Int) ≤ l
  | [], l, h0, h => by simpa [tot] using h0
  | e :: r, l, h0, h => by
    simp only [szGo] at h
    split at h
    · omega
    · have := szGo_tot r _ (by omega) h
      simp only [tot]
      omega
theorem szSS_bound {es : List SlE} {left : Int} (h : ¬ szSS es left < 0) : (es.length : Int) ≤ left ∧ (tot es : Int) ≤ left := by
  unfold szSS at h
  split at h
  · omega
  · have := szGo_tot es _ (by omega) h
    omega
end Go.Proofs.Ytaaelokodfildaa

set_option linter.unusedVariables false
namespace Go.Proofs.Ytaaelokodfildaa
open Go.Am

/-- Two slices do not lie in one block. -/
abbrev Apart (e f : Option Addr) : Prop := ∀ b o o', e = some ⟨b, o, none⟩ → f ≠ some ⟨b, o', none⟩
structure OwnSS (K : Heap) (lo : Nat) (a : Option Addr) (es : List SlE) : Prop where
  out : Buf dSl K lo a es
  inn : ∀ e ∈ es, Buf dFlt K lo e.1 e.2
  ne : ∀ e ∈ es, Apart a e.1
  pw : es.Pairwise fun e f => Apart e.1 f.1
theorem Apart.symm {e f : Option Addr} (h : Apart e f) : Apart f e := fun b o o' hf he => h b o' o he hf
theorem OwnSS.rd {K : Heap} {lo : Nat} {a : Option Addr} {es : List SlE} (h : OwnSS K lo a es) : RdSS K a es := ⟨h.out.rd, fun e he => (h.inn e he).rd⟩
theorem OwnSS.mono {K K' : Heap} {lo : Nat} {a : Option Addr} {es : List SlE} (h : OwnSS K lo a es) (e : Ext K K') : OwnSS K' lo a es := ⟨h.out.mono e, fun x hx => (h.inn x hx).mono e, h.ne, h.pw⟩
theorem OwnSS.out_ {K K' : Heap} {lo lo' hi' : Nat} {a : Option Addr} {es : List SlE} (h : OwnSS K lo a es) (e : Out lo' hi' K K') (hd : hi' ≤ lo) : OwnSS K' lo a es :=
  ⟨h.out.out e (fun b o hp => by have := h.out.lt hp; omega), fun x hx => (h.inn x hx).out e (fun b o hp => by have := (h.inn x hx).lt hp; omega), h.ne, h.pw⟩
theorem apart_but {a b : Option Addr} (h : Apart a b) : ∀ x o, a = some ⟨x, o, none⟩ → b ≠ some ⟨x, 0, none⟩ := fun x o ha => h x o 0 ha
/-- One of the slices is written over. -/
theorem OwnSS.upd {K K' : Heap} {lo : Nat} {a : Option Addr} {l r : List SlE} {e : SlE} {ys : List Nat} (h : OwnSS K lo a (l ++ e :: r)) (hb : Buf dFlt K' lo e.1 ys) (hl : ys.length = e.2.length) (ht : But e.1 K K') : OwnSS K' lo a (l ++ (e.1, ys) :: r) := by
  have hcell : flat dSl (l ++ (e.1, ys) :: r) = flat dSl (l ++ e :: r) := by
    rw [flat_append, flat_append]
    show _ ++ ([Value.slice e.1 ys.length ys.length] ++ flat dSl r) = _ ++ ([Value.slice e.1 e.2.length e.2.length] ++ flat dSl r)
    rw [hl]
  have hpw := List.pairwise_append.1 h.pw
  obtain ⟨p1, p2, p3⟩ := hpw
  rw [List.pairwise_cons] at p2
  refine ⟨?_, fun f hf => ?_, fun f hf => ?_, ?_⟩
  · have ho := h.out.but ht (fun b o he hq => h.ne e (by simp) b 0 o hq he)
    generalize hes : l ++ e :: r = es at ho hcell
    cases ho with
    | nil => simp at hes
    | blk h1 h2 => exact .blk h1 (by rw [hcell]; exact h2)
  · rcases List.mem_append.1 hf with hf | hf
    · exact (h.inn f (by simp [hf])).but ht (apart_but (p3 f hf e (by simp)).symm)
    · rcases List.mem_cons.1 hf with rfl | hf
      · exact hb
      · exact (h.inn f (by simp [hf])).but ht (apart_but (p2.1 f hf))
  · rcases List.mem_append.1 hf with hf | hf
    · exact h.ne f (by simp [hf])
    · rcases List.mem_cons.1 hf with rfl | hf
      · exact h.ne e (by simp)
      · exact h.ne f (by simp [hf])
  · refine List.pairwise_append.2 ⟨p1, List.pairwise_cons.2 ⟨fun f hf => p2.1 f hf, p2.2⟩, fun x hx f hf => ?_⟩
    rcases List.mem_cons.1 hf with rfl | hf
    · exact p3 x hx e (by simp)
    · exact p3 x hx f (by simp [hf])
/-- A new slice is stored over an empty place. -/
def mkSS : Int → List SlE → List SlE
  | _, [] => []
  | k, e :: r => (e.1, markL k e.2.length) :: mkSS (k + e.2.length) r
@[simp] theorem mkSS_len : ∀ k es, (mkSS k es).length = es.length
  | _, [] => rfl
  | k, e :: r => by simp [mkSS, mkSS_len _ r]
theorem mkSS_snoc : ∀ (k : Int) (l : List SlE) (e : SlE), mkSS k (l ++ [e]) = mkSS k l ++ [(e.1, markL (k + tot l) e.2.length)]
  | k, [], e => by simp [mkSS, tot]
  | k, f :: l, e => by
    simp only [List.cons_append, mkSS, mkSS_snoc _ l e, tot]
    rw [show k + (f.2.length : Int) + (tot l : Int) = k + ((f.2.length + tot l : Nat) : Int) by omega]
theorem mkSS_get : ∀ (es : List SlE) (k : Int) (i : Nat) (e : SlE), es[i]? = some e → (mkSS k es)[i]? = some (e.1, markL (k + tot (es.take i)) e.2.length)
  | [], _, _, _, h => by simp at h
  | f :: r, k, 0, e, h => by simp at h; subst h; simp [mkSS, tot]
  | f :: r, k, i + 1, e, h => by
    simp at h
    have := mkSS_get r (k + f.2.length) i e h
    simp only [mkSS, List.getElem?_cons_succ, this, List.take_succ_cons, tot]
    rw [show k + (f.2.length : Int) + (tot (r.take i) : Int) = k + ((f.2.length + tot (r.take i) : Nat) : Int) by omega]
theorem tot_succ {es : List SlE} {k : Nat} (h : k < es.length) : tot (es.take (k + 1)) = tot (es.take k) + es[k].2.length := by
  rw [List.take_succ_eq_append_getElem h, tot_append]; simp [tot]
end Go.Proofs.Ytaaelokodfildaa

set_option linter.unusedVariables false
namespace Go.Proofs.Ytaaelokodfildaa
open Go.Am

theorem snoc_set {α : Type} (fs : List α) (z e : α) {k n : Nat} (hf : fs.length = k) (hk : k < n) : (fs ++ List.replicate (n - k) z).set k e = (fs ++ [e]) ++ List.replicate (n - (k + 1)) z := by
  subst hf
  obtain ⟨d, hd⟩ : ∃ d, n - fs.length = d + 1 := ⟨n - fs.length - 1, by omega⟩
  rw [hd, List.replicate_succ, List.set_append, if_neg (by omega), Nat.sub_self, List.set_cons_zero, show n - (fs.length + 1) = d by omega, List.append_assoc]
  rfl
/-- Slices that lie in blocks of their own, above a place. -/
structure Inn (K : Heap) (lo : Nat) (fs : List SlE) : Prop where
  blk : ∀ f ∈ fs, ∃ b, f.1 = some ⟨b, 0, none⟩ ∧ lo < b ∧ K.blk b = some (.cells (flat dFlt f.2) 1 true)
  pw : fs.Pairwise fun e f => Apart e.1 f.1
theorem Inn.snoc {K K' : Heap} {lo b : Nat} {fs : List SlE} {xs : List Nat} (h : Inn K lo fs) (hs : ∀ x, x < K.next → x ≠ lo → K'.blk x = K.blk x) (hb : K.next ≤ b) (hlo : lo < K.next) (hx : K'.blk b = some (.cells (flat dFlt xs) 1 true)) : Inn K' lo (fs ++ [(some ⟨b, 0, none⟩, xs)]) where
  blk := fun f hf => by
    rcases List.mem_append.1 hf with hf | hf
    · obtain ⟨c, h1, h2, h3⟩ := h.blk f hf
      exact ⟨c, h1, h2, by rw [hs c (K.lt _ _ h3) (by omega)]; exact h3⟩
    · simp at hf; subst hf
      exact ⟨b, rfl, by omega, hx⟩
  pw := List.pairwise_append.2 ⟨h.pw, by simp, fun f hf e he => by
    simp at he; subst he
    obtain ⟨c, h1, h2, h3⟩ := h.blk f hf
    have := K.lt _ _ h3
    intro x o o' e1 e2
    rw [h1] at e1; cases e1; cases e2
    omega⟩
theorem Inn.own {K : Heap} {lo : Nat} {fs : List SlE} (h : Inn K lo fs) (hb : K.blk lo = some (.cells (flat dSl fs) 1 true)) : OwnSS K lo (some ⟨lo, 0, none⟩) fs where
  out := .blk (Nat.le_refl _) hb
  inn := fun f hf => by
    obtain ⟨c, h1, h2, h3⟩ := h.blk f hf
    obtain ⟨f1, f2⟩ := f
    simp only at h1 h3
    subst h1
    exact .blk (by omega) h3
  ne := fun f hf => by
    obtain ⟨c, h1, h2, h3⟩ := h.blk f hf
    intro x o o' e1 e2
    rw [h1] at e2; cases e1; cases e2
    omega
  pw := h.pw
structure AtSS (K : Heap) (lo hi : Nat) (a : Option Addr) (es : List SlE) : Prop where
  out : RdAt dSl K lo hi a es
  inn : ∀ e ∈ es, RdAt dFlt K lo hi e.1 e.2
theorem _root_.Go.Am.RdSS.at_ {K : Heap} {a : Option Addr} {es : List SlE} (h : RdSS K a es) : Go.Proofs.Ytaaelokodfildaa.AtSS K 0 K.next a es := ⟨h.out.at (Nat.le_refl _), fun e he => (h.inn e he).at (Nat.le_refl _)⟩
theorem OwnSS.at_ {K : Heap} {lo : Nat} {a : Option Addr} {es : List SlE} (h : OwnSS K lo a es) : AtSS K lo K.next a es := ⟨h.out.atR, fun e he => (h.inn e he).atR⟩
theorem AtSS.out_ {K K' : Heap} {lo hi lo' hi' : Nat} {a : Option Addr} {es : List SlE} (h : AtSS K lo hi a es) (e : Out lo' hi' K K') (hd : hi ≤ lo' ∨ hi' ≤ lo) : AtSS K' lo hi a es := ⟨h.out.out e hd, fun f hf => (h.inn f hf).out e hd⟩
theorem AtSS.mono {K K' : Heap} {lo hi : Nat} {a : Option Addr} {es : List SlE} (h : AtSS K lo hi a es) (e : Ext K K') : AtSS K' lo hi a es := ⟨h.out.mono e, fun f hf => (h.inn f hf).mono e⟩
theorem AtSS.rd {K : Heap} {lo hi : Nat} {a : Option Addr} {es : List SlE} (h : AtSS K lo hi a es) : RdSS K a es := ⟨h.out.rd, fun e he => (h.inn e he).rd⟩
theorem tot_le {n : Nat} : ∀ {es : List SlE}, (∀ e ∈ es, e.2.length ≤ n) → tot es ≤ n * es.length
  | [], _ => by simp [tot]
  | e :: r, h => by
    have := tot_le (es := r) fun f hf => h f (by simp [hf])
    have := h e (by simp)
    simp only [tot, List.length_cons, Nat.mul_add]
    omega
end Go.Proofs.Ytaaelokodfildaa
