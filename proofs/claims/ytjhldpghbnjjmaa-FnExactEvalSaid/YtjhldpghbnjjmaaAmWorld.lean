/- The abstract machine: what making and writing memory does to the relation of a world and an abstract heap. No condition. -/
import Derived.Test.YtjhldpghbnjjmaaAmFill
import Derived.Laws.Append
set_option linter.unusedVariables false
set_option linter.unusedSimpArgs false
namespace Go.Am

def updO (own : Nat → Owner) (B : Nat) (o : Owner) : Nat → Owner := fun x => if x = B then o else own x
def updR (ρ : Rho) (b : Nat) (L : Loc) : Rho := fun x => if x = b then some L else ρ x
theorem updO_same (own : Nat → Owner) (B : Nat) (o : Owner) : updO own B o B = o := by simp [updO]
theorem updO_ne (own : Nat → Owner) {B x : Nat} (o : Owner) (h : x ≠ B) : updO own B o x = own x := by simp [updO, h]

section
variable {ρ : Rho} {own : Nat → Owner} {H : Heap} {w w' : World} {π : List Nat} {bx : List (List Value)}

theorem BW.none (b : BW π ρ own bx H w) : ρ H.next = none := by
  cases h : ρ H.next with
  | none => rfl
  | some L => have := b.hrel.lt _ L h; omega
theorem le_updR (b : BW π ρ own bx H w) (L : Loc) : Rho.le ρ (updR ρ H.next L) := fun x K h => by
  have : x ≠ H.next := fun e => by rw [e, b.none] at h; cases h
  simp [updR, this, h]

theorem BW.of_heap (b : BW π ρ own bx H w) (h : w'.heap = w.heap) : BW π ρ own bx H w' where
  hrel := ⟨b.hrel.lt, fun x L cs esz rw_ h1 h2 => by rw [h]; exact b.hrel.cells x L cs esz rw_ h1 h2⟩
  len := b.len
  box := fun k cs hk => by rw [h]; exact b.box k cs hk

theorem push_get {w : World} {w' : World} {o : Obj} (h : w'.heap = w.heap.push o) {B : Nat} (hB : B < w.heap.size) : w'.heap[B]? = w.heap[B]? := by
  rw [h, Array.getElem?_push]; rw [if_neg (by omega)]
theorem push_at {w : World} {w' : World} {o : Obj} (h : w'.heap = w.heap.push o) : w'.heap[w.heap.size]? = some o := by
  rw [h, Array.getElem?_push]; simp
theorem lt_of_some {w : World} {B : Nat} {o : Obj} (h : w.heap[B]? = some o) : B < w.heap.size := (Array.getElem?_eq_some_iff.1 h).1

/-- A block of the walk's own. -/
theorem BW.pushBox (b : BW π ρ own bx H w) {cs : List Value} {D : Array Value} {T : TypeId} (hc : VRels ρ cs D.toList) (h : w'.heap = w.heap.push (.cells D T (0, 0))) :
    BW (π ++ [w.heap.size]) ρ (updO own w.heap.size (.priv bx.length)) (bx ++ [cs]) H w' where
  hrel := ⟨b.hrel.lt, fun x L cs esz rw_ h1 h2 => by
    obtain ⟨e1, D', T', fz, e2, e3, e4, e5, e6, e7⟩ := b.hrel.cells x L cs esz rw_ h1 h2
    have hlt := lt_of_some e2
    refine ⟨e1, D', T', fz, by rw [push_get h hlt]; exact e2, e3, e4, e5, fun hr => ?_, fun hr => ?_⟩
    · rw [updO_ne _ _ (by omega)]; exact e6 hr
    · rw [updO_ne _ _ (by omega)]; exact e7 hr⟩
  len := by simp [b.len]
  box := fun k cs' hk => by
    by_cases hlt : k < bx.length
    · rw [List.getElem?_append_left hlt] at hk
      obtain ⟨B, D', T', e1, e2, e3, e4⟩ := b.box k cs' hk
      have hB := lt_of_some e3
      refine ⟨B, D', T', ?_, ?_, by rw [push_get h hB]; exact e3, e4⟩
      · rw [List.getElem?_append_left (by rw [b.len]; exact hlt)]; exact e1
      · rw [updO_ne _ _ (by omega)]; exact e2
    · have hkl : k = bx.length := by
        have := (List.getElem?_eq_some_iff.1 hk).1
        simp at this; omega
      subst hkl
      simp at hk
      subst hk
      exact ⟨w.heap.size, D, T, by rw [← b.len]; simp, updO_same _ _ _, push_at h, hc⟩

/-- A new block of the heap. -/
theorem BW.pushHeap (b : BW π ρ own bx H w) {cs : List Value} {D : Array Value} {T : TypeId} {esz : Nat} (hc : VRels ρ cs (D.toList.take cs.length)) (hl : cs.length ≤ D.size) (hf : ∀ v ∈ cs, flatV v = true) (h : w'.heap = w.heap.push (.cells D T (0, 0))) :
    BW π (updR ρ H.next ⟨w.heap.size, 0, D.size, esz⟩) (updO own w.heap.size (.rw H.next)) bx (H.push (.cells cs esz true)) w' where
  hrel := ⟨fun x L h1 => by
      show x < H.next + 1
      by_cases hx : x = H.next
      · omega
      · simp only [updR, if_neg hx] at h1
        have := b.hrel.lt x L h1; omega,
    fun x L cs' esz' rw_ h1 h2 => by
      have hle := le_updR b ⟨w.heap.size, 0, D.size, esz⟩
      by_cases hx : x = H.next
      · subst hx
        simp only [updR, if_true] at h2
        simp only [Heap.push, if_true] at h1
        cases h1; cases h2
        refine ⟨rfl, D, T, (0, 0), push_at h, fun _ => rfl, by simpa using hl, fun i v hi => ⟨hf v (List.mem_of_getElem? hi), ?_⟩, fun _ => ⟨rfl, updO_same _ _ _⟩, fun hr => by cases hr⟩
        obtain ⟨v', g1, g2⟩ := hc.get i v hi
        rw [List.getElem?_take] at g1
        split at g1
        · exact ⟨v', by simpa using g1, g2.mono hle⟩
        · cases g1
      · simp only [updR, if_neg hx] at h2
        simp only [Heap.push, if_neg hx] at h1
        obtain ⟨e1, D', T', fz, e2, e3, e4, e5, e6, e7⟩ := b.hrel.cells x L cs' esz' rw_ h1 h2
        have hlt := lt_of_some e2
        refine ⟨e1, D', T', fz, by rw [push_get h hlt]; exact e2, e3, e4, fun i v hi => ?_, fun hr => ?_, fun hr => ?_⟩
        · obtain ⟨g0, v', g1, g2⟩ := e5 i v hi; exact ⟨g0, v', g1, g2.mono hle⟩
        · rw [updO_ne _ _ (by omega)]; exact e6 hr
        · rw [updO_ne _ _ (by omega)]; exact e7 hr⟩
  len := b.len
  box := fun k cs' hk => by
    obtain ⟨B, D', T', e1, e2, e3, e4⟩ := b.box k cs' hk
    have hB := lt_of_some e3
    exact ⟨B, D', T', e1, by rw [updO_ne _ _ (by omega)]; exact e2, by rw [push_get h hB]; exact e3, e4.mono (le_updR b _)⟩

theorem BW.kill (b : BW π ρ own bx H w) (k : Nat) : BW π ρ own bx (H.kill k) w where
  hrel := ⟨b.hrel.lt, fun x L cs esz rw_ h1 h2 => by
    have : H.blk x = some (.cells cs esz rw_) := by
      simp only [Heap.kill] at h1
      split at h1
      · cases h1
      · exact h1
    exact b.hrel.cells x L cs esz rw_ this h2⟩
  len := b.len
  box := b.box

/-- A store into a box. -/
theorem BW.setBox (b : BW π ρ own bx H w) {k B : Nat} {cs : List Value} {D : Array Value} {T : TypeId} (hk : k < bx.length) (hB : π[k]? = some B) (ho : own B = .priv k) (hc : VRels ρ cs D.toList)
    (h1 : w'.heap[B]? = some (.cells D T (0, 0))) (h2 : ∀ x, x ≠ B → w'.heap[x]? = w.heap[x]?) : BW π ρ own (bx.set k cs) H w' where
  hrel := ⟨b.hrel.lt, fun x L cs' esz rw_ g1 g2 => by
    obtain ⟨e1, D', T', fz, e2, e3, e4, e5, e6, e7⟩ := b.hrel.cells x L cs' esz rw_ g1 g2
    have hne : L.B ≠ B := fun e => by
      cases rw_ with
      | true => have := (e6 rfl).2; rw [e, ho] at this; cases this
      | false => have := e7 rfl; rw [e, ho] at this; cases this
    exact ⟨e1, D', T', fz, by rw [h2 _ hne]; exact e2, e3, e4, e5, e6, e7⟩⟩
  len := by simp [b.len]
  box := fun j cs' hj => by
    by_cases hjk : j = k
    · subst hjk
      rw [List.getElem?_set_self hk] at hj
      cases hj
      exact ⟨B, D, T, hB, ho, h1, hc⟩
    · rw [List.getElem?_set_ne (by omega)] at hj
      obtain ⟨B', D', T', e1, e2, e3, e4⟩ := b.box j cs' hj
      have hne : B' ≠ B := fun e => by rw [e, ho] at e2; cases e2; exact hjk rfl
      exact ⟨B', D', T', e1, e2, by rw [h2 _ hne]; exact e3, e4⟩

/-- A store into a block of the heap. -/
theorem BW.stor (b : BW π ρ own bx H w) {k o : Nat} {l l' cs : List Value} {esz : Nat} {L : Loc} {D : Array Value} {T : TypeId} (hb : H.blk k = some (.cells cs esz true)) (hL : ρ k = some L) (hle : o + l.length ≤ cs.length)
    (hl : VRels ρ l l') (hf : ∀ v ∈ l, flatV v = true) (h0 : w.heap[L.B]? = some (.cells D T (0, 0))) (h1 : w'.heap[L.B]? = some (.cells (overL D.toList (L.o + o) l').toArray T (0, 0))) (h2 : ∀ x, x ≠ L.B → w'.heap[x]? = w.heap[x]?) :
    BW π ρ own bx (H.stor k o l) w' := by
  have hst : H.stor k o l = H.put k (.cells (overL cs o l) esz true) := Heap.stor_put hb o l
  obtain ⟨f1, Dk, Tk, fzk, f2, f3, f4, f5, f6, f7⟩ := b.hrel.cells k L cs esz true hb hL
  have f3 := f3 rfl
  have hDk : Dk = D := by rw [h0] at f2; cases f2; rfl
  subst hDk
  have hown := (f6 rfl).2
  have hlen : l.length = l'.length := hl.length
  rw [hst]
  refine ⟨⟨b.hrel.lt, fun x L' cs' esz' rw_ g1 g2 => ?_⟩, b.len, fun j cs' hj => ?_⟩
  · by_cases hx : x = k
    · subst hx
      have : L' = L := by rw [hL] at g2; exact (Option.some.inj g2).symm
      subst this
      simp only [Heap.put, if_true] at g1
      rw [if_pos (H.lt _ _ hb)] at g1
      cases g1
      have hsz : (overL Dk.toList (L'.o + o) l').length = Dk.size := by
        unfold overL; simp; omega
      refine ⟨f1, _, T, (0, 0), h1, fun _ => by rw [List.size_toArray, hsz, f3], by rw [List.size_toArray, hsz]; unfold overL; simp; omega, fun i v hi => ?_, fun _ => ⟨rfl, hown⟩, fun hr => by cases hr⟩
      unfold overL at hi ⊢
      by_cases hi1 : i < o
      · rw [List.append_assoc, List.getElem?_append_left (by simp; omega), List.getElem?_take, if_pos hi1] at hi
        obtain ⟨g0, v', g1, g2⟩ := f5 i v hi
        refine ⟨g0, v', ?_, g2⟩
        rw [List.getElem?_toArray, List.append_assoc, List.getElem?_append_left (by simp; omega), List.getElem?_take, if_pos (by omega)]
        simpa using g1
      · by_cases hi2 : i < o + l.length
        · rw [List.append_assoc, List.getElem?_append_right (by simp; omega), List.getElem?_append_left (by simp; omega)] at hi
          have hmin : min o cs.length = o := by omega
          simp only [List.length_take, hmin] at hi
          obtain ⟨v', g1, g2⟩ := hl.get _ v hi
          refine ⟨hf v (List.mem_of_getElem? hi), v', ?_, g2⟩
          rw [List.getElem?_toArray, List.append_assoc, List.getElem?_append_right (by simp; omega), List.getElem?_append_left (by simp; omega)]
          have hmin2 : min (L'.o + o) Dk.toList.length = L'.o + o := by simp; omega
          simp only [List.length_take, hmin2]
          rw [← g1]; congr 1; omega
        · rw [List.getElem?_append_right (by simp; omega)] at hi
          have hmin : min o cs.length = o := by omega
          simp only [List.length_append, List.length_take, hmin, List.getElem?_drop] at hi
          have hii : o + l.length + (i - (o + l.length)) = i := by omega
          rw [hii] at hi
          obtain ⟨g0, v', g1, g2⟩ := f5 i v hi
          refine ⟨g0, v', ?_, g2⟩
          rw [List.getElem?_toArray, List.getElem?_append_right (by simp; omega)]
          have hmin2 : min (L'.o + o) Dk.toList.length = L'.o + o := by simp; omega
          simp only [List.length_append, List.length_take, hmin2, List.getElem?_drop]
          rw [← hlen, show L'.o + o + l.length + (L'.o + i - (L'.o + o + l.length)) = L'.o + i by omega]
          simpa using g1
    · simp only [Heap.put, if_neg hx] at g1
      obtain ⟨e1, D', T', fz, e2, e3, e4, e5, e6, e7⟩ := b.hrel.cells x L' cs' esz' rw_ g1 g2
      have hne : L'.B ≠ L.B := fun e => by
        cases rw_ with
        | true => have := (e6 rfl).2; rw [e, hown] at this; cases this; exact hx rfl
        | false => have := e7 rfl; rw [e, hown] at this; cases this
      exact ⟨e1, D', T', fz, by rw [h2 _ hne]; exact e2, e3, e4, e5, e6, e7⟩
  · obtain ⟨B', D', T', e1, e2, e3, e4⟩ := b.box j cs' hj
    have hne : B' ≠ L.B := fun e => by rw [e, hown] at e2; cases e2
    exact ⟨B', D', T', e1, e2, by rw [h2 _ hne]; exact e3, e4⟩

/-- An append in place: the old block is given up, the new one lies where it lay. -/
theorem BW.grown (b : BW π ρ own bx H w) {k : Nat} {cs news : List Value} {esz off n : Nat} {L : Loc} {D D' : Array Value} {T : TypeId} {l0 : List Value} (hb : H.blk k = some (.cells l0 esz true)) (hL : ρ k = some L)
    (h0 : w.heap[L.B]? = some (.cells D T (0, 0))) (hsz : D'.size = D.size) (hfit : off + (cs ++ news).length ≤ D.size)
    (hc : ∀ i v, (cs ++ news)[i]? = some v → flatV v = true ∧ ∃ v', D'[off + i]? = some v' ∧ VRel ρ v v')
    (h1 : w'.heap[L.B]? = some (.cells D' T (0, 0))) (h2 : ∀ x, x ≠ L.B → w'.heap[x]? = w.heap[x]?) :
    BW π (updR ρ H.next ⟨L.B, off, L.n, esz⟩) (updO own L.B (.rw H.next)) bx ((H.kill k).push (.cells (cs ++ news) esz true)) w' := by
  obtain ⟨f1, Dk, Tk, fzk, f2, f3, f4, f5, f6, f7⟩ := b.hrel.cells k L l0 esz true hb hL
  have f3 := f3 rfl
  have hDk : Dk = D := by rw [h0] at f2; cases f2; rfl
  subst hDk
  have hown := (f6 rfl).2
  have hle := le_updR b ⟨L.B, off, L.n, esz⟩
  have hkn : k < H.next := H.lt _ _ hb
  refine ⟨⟨fun x L' h1 => ?_, fun x L' cs' esz' rw_ g1 g2 => ?_⟩, b.len, fun j cs' hj => ?_⟩
  · show x < H.next + 1
    by_cases hx : x = H.next
    · omega
    · simp only [updR, if_neg hx] at h1
      have := b.hrel.lt x L' h1; omega
  · have hnx : (H.kill k).next = H.next := rfl
    by_cases hx : x = H.next
    · subst hx
      simp only [updR, if_true] at g2
      have g1' : (if H.next = H.next then some (Blk.cells (cs ++ news) esz true) else (if H.next = k then Option.none else H.blk H.next)) = some (Blk.cells cs' esz' rw_) := g1
      rw [if_pos rfl] at g1'
      cases g1'; cases g2
      exact ⟨rfl, D', T, (0, 0), h1, fun _ => by rw [hsz]; exact f3, by simp only; omega, fun i v hi => by
        obtain ⟨g0, v', g1, g2⟩ := hc i v hi; exact ⟨g0, v', g1, g2.mono hle⟩, fun _ => ⟨rfl, updO_same _ _ _⟩, fun hr => by cases hr⟩
    · simp only [updR, if_neg hx] at g2
      have g1' : (if x = H.next then some (Blk.cells (cs ++ news) esz true) else (if x = k then Option.none else H.blk x)) = some (Blk.cells cs' esz' rw_) := g1
      rw [if_neg hx] at g1'
      clear g1
      have g1 := g1'
      clear g1'
      split at g1
      · cases g1
      · rename_i hxk
        obtain ⟨e1, D'', T', fz, e2, e3, e4, e5, e6, e7⟩ := b.hrel.cells x L' cs' esz' rw_ g1 g2
        have hne : L'.B ≠ L.B := fun e => by
          cases rw_ with
          | true => have := (e6 rfl).2; rw [e, hown] at this; cases this; exact hxk rfl
          | false => have := e7 rfl; rw [e, hown] at this; cases this
        refine ⟨e1, D'', T', fz, by rw [h2 _ hne]; exact e2, e3, e4, fun i v hi => ?_, fun hr => ?_, fun hr => ?_⟩
        · obtain ⟨g0, v', g1, g2⟩ := e5 i v hi; exact ⟨g0, v', g1, g2.mono hle⟩
        · rw [updO_ne _ _ hne]; exact e6 hr
        · rw [updO_ne _ _ hne]; exact e7 hr
  · obtain ⟨B', D'', T', e1, e2, e3, e4⟩ := b.box j cs' hj
    have hne : B' ≠ L.B := fun e => by rw [e, hown] at e2; cases e2
    exact ⟨B', D'', T', e1, by rw [updO_ne _ _ hne]; exact e2, by rw [h2 _ hne]; exact e3, e4.mono hle⟩

/-! What is kept. -/
variable {ρ0 : Rho} {own0 : Nat → Owner} {w0 : World}
theorem Guar.of_heap (g : Guar ρ0 own0 w0 ρ own w) (h : Same w w') : Guar ρ0 own0 w0 ρ own w' :=
  ⟨g.le, g.ext.trans h.ext, by rw [h.heap]; exact g.size, fun B hB hn => by rw [h.heap]; exact g.keep B hB hn⟩
theorem Guar.push (g : Guar ρ0 own0 w0 ρ own w) {ρ' : Rho} (hle : Rho.le ρ ρ') {o : Obj} (ow : Owner) (h : w'.heap = w.heap.push o) (hx : Ext3 w w') : Guar ρ0 own0 w0 ρ' (updO own w.heap.size ow) w' :=
  ⟨Rho.le_trans g.le hle, g.ext.trans hx, by rw [h]; have := g.size; simp; omega, fun B hB hn => by
    have hlt : B < w.heap.size := Nat.lt_of_lt_of_le hB g.size
    rw [push_get h hlt, updO_ne _ _ (by omega)]; exact g.keep B hB hn⟩
theorem Guar.set (g : Guar ρ0 own0 w0 ρ own w) (hn0 : NoPriv own0) {ρ' : Rho} {own' : Nat → Owner} (hle : Rho.le ρ ρ') {B0 : Nat} (ho : (∃ b, own B0 = .rw b) ∨ ∃ k, own B0 = .priv k) (hs : w'.heap.size = w.heap.size) (hx : Ext3 w w')
    (h2 : ∀ x, x ≠ B0 → w'.heap[x]? = w.heap[x]?) (h3 : ∀ x, x ≠ B0 → own' x = own x) : Guar ρ0 own0 w0 ρ' own' w' :=
  ⟨Rho.le_trans g.le hle, g.ext.trans hx, by rw [hs]; exact g.size, fun B hB hn => by
    have hne : B ≠ B0 := fun e => by
      subst e
      have := (g.keep B hB hn).2
      rcases ho with ⟨b, ho⟩ | ⟨k, ho⟩
      · rw [ho] at this; exact hn b this.symm
      · rw [ho] at this; exact hn0 B k this.symm
    rw [h2 B hne, h3 B hne]; exact g.keep B hB hn⟩
end
end Go.Am
