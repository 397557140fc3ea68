/- The abstract machine: what making and writing memory does to the relation of a world and an abstract heap. No condition. The abstract machine: operations that make or write memory do in every world what 'effF' says. Conditions: the tables say what the program's own types are (TOK). -/
import Derived.Test.YtajcbdamgaofcaaDoorAmFill
import Derived.Laws.Append
import Derived.Lib.ConvBytes
set_option linter.unusedVariables false
set_option linter.unusedSimpArgs false
namespace Go.Am

def updO (own : Nat → Owner) (B : Nat) (o : Owner) : Nat → Owner := fun x => if x = B then o else own x
def updR (ρ : Rho) (b : Nat) (L : Loc) : Rho := fun x => if x = b then some L else ρ x
theorem updO_same (own : Nat → Owner) (B : Nat) (o : Owner) : updO own B o B = o := by simp [updO]
theorem updO_ne (own : Nat → Owner) {B x : Nat} (o : Owner) (h : x ≠ B) : updO own B o x = own x := by simp [updO, h]

section
variable {ρ : Rho} {own : Nat → Owner} {H : Heap} {w w' : World} {π : List Nat} {bx : List (List Value)}

theorem BW.none (b : BW π ρ own bx H w) : ρ H.next = none := by
  cases h : ρ H.next with
  | none => rfl
  | some L => have := b.hrel.lt _ L h; omega
theorem le_updR (b : BW π ρ own bx H w) (L : Loc) : Rho.le ρ (updR ρ H.next L) := fun x K h => by
  have : x ≠ H.next := fun e => by rw [e, b.none] at h; cases h
  simp [updR, this, h]

theorem BW.of_heap (b : BW π ρ own bx H w) (h : w'.heap = w.heap) : BW π ρ own bx H w' where
  hrel := ⟨b.hrel.lt, fun x L cs esz rw_ h1 h2 => by rw [h]; exact b.hrel.cells x L cs esz rw_ h1 h2, fun x L kk es h1 h2 => (b.hrel.maps x L kk es h1 h2).mono (Rho.le_refl _) rfl (by rw [h])⟩
  len := b.len
  box := fun k cs hk => by rw [h]; exact b.box k cs hk

theorem push_get {w : World} {w' : World} {o : Obj} (h : w'.heap = w.heap.push o) {B : Nat} (hB : B < w.heap.size) : w'.heap[B]? = w.heap[B]? := by
  rw [h, Array.getElem?_push]; rw [if_neg (by omega)]
theorem push_at {w : World} {w' : World} {o : Obj} (h : w'.heap = w.heap.push o) : w'.heap[w.heap.size]? = some o := by
  rw [h, Array.getElem?_push]; simp
theorem lt_of_some {w : World} {B : Nat} {o : Obj} (h : w.heap[B]? = some o) : B < w.heap.size := (Array.getElem?_eq_some_iff.1 h).1

/-- A block of the walk's own. -/
theorem BW.pushBox (b : BW π ρ own bx H w) {cs : List Value} {D : Array Value} {T : TypeId} (hc : VRels ρ cs D.toList) (h : w'.heap = w.heap.push (.cells D T (0, 0))) :
    BW (π ++ [w.heap.size]) ρ (updO own w.heap.size (.priv bx.length)) (bx ++ [cs]) H w' where
  hrel := ⟨b.hrel.lt, fun x L cs esz rw_ h1 h2 => by
    obtain ⟨e1, D', T', fz, e2, e3, e4, e5, e6, e7⟩ := b.hrel.cells x L cs esz rw_ h1 h2
    have hlt := lt_of_some e2
    refine ⟨e1, D', T', fz, by rw [push_get h hlt]; exact e2, e3, e4, e5, fun hr => ?_, fun hr => ?_⟩
    · rw [updO_ne _ _ (by omega)]; exact e6 hr
    · rw [updO_ne _ _ (by omega)]; exact e7 hr, fun x L kk es h1 h2 => by
    have q := b.hrel.maps x L kk es h1 h2
    have hlt := q.lt
    exact q.mono (Rho.le_refl _) (updO_ne _ _ (by omega)) (push_get h hlt)⟩
  len := by simp [b.len]
  box := fun k cs' hk => by
    by_cases hlt : k < bx.length
    · rw [List.getElem?_append_left hlt] at hk
      obtain ⟨B, D', T', e1, e2, e3, e4⟩ := b.box k cs' hk
      have hB := lt_of_some e3
      refine ⟨B, D', T', ?_, ?_, by rw [push_get h hB]; exact e3, e4⟩
      · rw [List.getElem?_append_left (by rw [b.len]; exact hlt)]; exact e1
      · rw [updO_ne _ _ (by omega)]; exact e2
    · have hkl : k = bx.length := by
        have := (List.getElem?_eq_some_iff.1 hk).1
        simp at this; omega
      subst hkl
      simp at hk
      subst hk
      exact ⟨w.heap.size, D, T, by rw [← b.len]; simp, updO_same _ _ _, push_at h, hc⟩

/-- A new block of the heap, be it written or not. -/
theorem BW.pushHeapG (b : BW π ρ own bx H w) {cs : List Value} {D : Array Value} {T : TypeId} {esz : Nat} {r : Bool} {fz : Nat × Nat} {ow : Owner} (hr1 : r = true → fz = (0, 0) ∧ ow = .rw H.next) (hr2 : r = false → ow = .ro) (hc : VRels ρ cs (D.toList.take cs.length)) (hl : cs.length ≤ D.size) (hf : ∀ v ∈ cs, flatV v = true) (h : w'.heap = w.heap.push (.cells D T fz)) :
    BW π (updR ρ H.next ⟨w.heap.size, 0, D.size, esz⟩) (updO own w.heap.size ow) bx (H.push (.cells cs esz r)) w' where
  hrel := ⟨fun x L h1 => by
      show x < H.next + 1
      by_cases hx : x = H.next
      · omega
      · simp only [updR, if_neg hx] at h1
        have := b.hrel.lt x L h1; omega,
    fun x L cs' esz' rw_ h1 h2 => by
      have hle := le_updR b ⟨w.heap.size, 0, D.size, esz⟩
      by_cases hx : x = H.next
      · subst hx
        simp only [updR, if_true] at h2
        simp only [Heap.push, if_true] at h1
        cases h1; cases h2
        refine ⟨rfl, D, T, fz, push_at h, fun _ => rfl, by simpa using hl, fun i v hi => ⟨hf v (List.mem_of_getElem? hi), ?_⟩, fun hr => ⟨(hr1 hr).1, by rw [updO_same]; exact (hr1 hr).2⟩, fun hr => by rw [updO_same]; exact hr2 hr⟩
        obtain ⟨v', g1, g2⟩ := hc.get i v hi
        rw [List.getElem?_take] at g1
        split at g1
        · exact ⟨v', by simpa using g1, g2.mono hle⟩
        · cases g1
      · simp only [updR, if_neg hx] at h2
        simp only [Heap.push, if_neg hx] at h1
        obtain ⟨e1, D', T', fz', e2, e3, e4, e5, e6, e7⟩ := b.hrel.cells x L cs' esz' rw_ h1 h2
        have hlt := lt_of_some e2
        refine ⟨e1, D', T', fz', by rw [push_get h hlt]; exact e2, e3, e4, fun i v hi => ?_, fun hr => ?_, fun hr => ?_⟩
        · obtain ⟨g0, v', g1, g2⟩ := e5 i v hi; exact ⟨g0, v', g1, g2.mono hle⟩
        · rw [updO_ne _ _ (by omega)]; exact e6 hr
        · rw [updO_ne _ _ (by omega)]; exact e7 hr,
    fun x L kk es h1 h2 => by
      by_cases hx : x = H.next
      · subst hx
        simp only [Heap.push, if_true] at h1
        cases h1
      · simp only [updR, if_neg hx] at h2
        simp only [Heap.push, if_neg hx] at h1
        have q := b.hrel.maps x L kk es h1 h2
        have hlt := q.lt
        exact q.mono (le_updR b _) (updO_ne _ _ (by omega)) (push_get h hlt)⟩
  len := b.len
  box := fun k cs' hk => by
    obtain ⟨B, D', T', e1, e2, e3, e4⟩ := b.box k cs' hk
    have hB := lt_of_some e3
    exact ⟨B, D', T', e1, by rw [updO_ne _ _ (by omega)]; exact e2, by rw [push_get h hB]; exact e3, e4.mono (le_updR b _)⟩

/-- A new block of the heap. -/
theorem BW.pushHeap (b : BW π ρ own bx H w) {cs : List Value} {D : Array Value} {T : TypeId} {esz : Nat} (hc : VRels ρ cs (D.toList.take cs.length)) (hl : cs.length ≤ D.size) (hf : ∀ v ∈ cs, flatV v = true) (h : w'.heap = w.heap.push (.cells D T (0, 0))) :
    BW π (updR ρ H.next ⟨w.heap.size, 0, D.size, esz⟩) (updO own w.heap.size (.rw H.next)) bx (H.push (.cells cs esz true)) w' :=
  BW.pushHeapG b (r := true) (fun _ => ⟨rfl, rfl⟩) (fun h => by cases h) hc hl hf h

/-- A new map. -/
theorem BW.pushMap (b : BW π ρ own bx H w) {kk : KK} {ob : Obj} {es : List (Value × Value)} (hm : ObjAt ρ kk es ob) (h : w'.heap = w.heap.push ob) :
    BW π (updR ρ H.next ⟨w.heap.size, 0, 0, 0⟩) (updO own w.heap.size (.rw H.next)) bx (H.push (.map kk es)) w' where
  hrel := ⟨fun x L h1 => by
      show x < H.next + 1
      by_cases hx : x = H.next
      · omega
      · simp only [updR, if_neg hx] at h1
        have := b.hrel.lt x L h1; omega,
    fun x L cs' esz' rw_ h1 h2 => by
      have hle := le_updR b ⟨w.heap.size, 0, 0, 0⟩
      by_cases hx : x = H.next
      · subst hx
        simp only [Heap.push, if_true] at h1
        cases h1
      · simp only [updR, if_neg hx] at h2
        simp only [Heap.push, if_neg hx] at h1
        obtain ⟨e1, D', T', fz, e2, e3, e4, e5, e6, e7⟩ := b.hrel.cells x L cs' esz' rw_ h1 h2
        have hlt := lt_of_some e2
        refine ⟨e1, D', T', fz, by rw [push_get h hlt]; exact e2, e3, e4, fun i v hi => ?_, fun hr => ?_, fun hr => ?_⟩
        · obtain ⟨g0, v', g1, g2⟩ := e5 i v hi; exact ⟨g0, v', g1, g2.mono hle⟩
        · rw [updO_ne _ _ (by omega)]; exact e6 hr
        · rw [updO_ne _ _ (by omega)]; exact e7 hr,
    fun x L kk' es' h1 h2 => by
      by_cases hx : x = H.next
      · subst hx
        simp only [Heap.push, if_true] at h1
        simp only [updR, if_true] at h2
        cases h1; cases h2
        exact ⟨updO_same _ _ _, ob, push_at h, hm.mono (le_updR b _), fun _ => rfl⟩
      · simp only [updR, if_neg hx] at h2
        simp only [Heap.push, if_neg hx] at h1
        have q := b.hrel.maps x L kk' es' h1 h2
        have hlt := q.lt
        exact q.mono (le_updR b _) (updO_ne _ _ (by omega)) (push_get h hlt)⟩
  len := b.len
  box := fun k cs' hk => by
    obtain ⟨B, D', T', e1, e2, e3, e4⟩ := b.box k cs' hk
    have hB := lt_of_some e3
    exact ⟨B, D', T', e1, by rw [updO_ne _ _ (by omega)]; exact e2, by rw [push_get h hB]; exact e3, e4.mono (le_updR b _)⟩
/-- A map is written. -/
theorem BW.setMap (b : BW π ρ own bx H w) {k : Nat} {kk : KK} {es es' : List (Value × Value)} {L : Loc} {ob : Obj} (hb : H.blk k = some (.map kk es)) (hL : ρ k = some L) (hm : ObjAt ρ kk es' ob)
    (h1 : w'.heap[L.B]? = some ob) (h2 : ∀ x, x ≠ L.B → w'.heap[x]? = w.heap[x]?) : BW π ρ own bx (H.put k (.map kk es')) w' := by
  have hown := (b.hrel.maps k L kk es hb hL).1
  refine ⟨⟨b.hrel.lt, fun x L' cs' esz' rw_ g1 g2 => ?_, fun x L' kk' es'' g1 g2 => ?_⟩, b.len, fun j cs' hj => ?_⟩
  · have hx : x ≠ k := fun e => by
      subst e
      simp only [Heap.put, if_true] at g1
      rw [if_pos (H.lt _ _ hb)] at g1
      cases g1
    simp only [Heap.put, if_neg hx] at g1
    obtain ⟨e1, D', T', fz, e2, e3, e4, e5, e6, e7⟩ := b.hrel.cells x L' cs' esz' rw_ g1 g2
    have hne : L'.B ≠ L.B := fun e => by
      cases rw_ with
      | true => have := (e6 rfl).2; rw [e, hown] at this; cases this; exact hx rfl
      | false => have := e7 rfl; rw [e, hown] at this; cases this
    exact ⟨e1, D', T', fz, by rw [h2 _ hne]; exact e2, e3, e4, e5, e6, e7⟩
  · by_cases hx : x = k
    · subst hx
      have : L' = L := by rw [hL] at g2; exact (Option.some.inj g2).symm
      subst this
      simp only [Heap.put, if_true] at g1
      rw [if_pos (H.lt _ _ hb)] at g1
      cases g1
      exact ⟨hown, ob, h1, hm, (b.hrel.maps x L' kk es hb g2).2.choose_spec.2.2⟩
    · simp only [Heap.put, if_neg hx] at g1
      have q := b.hrel.maps x L' kk' es'' g1 g2
      have hne : L'.B ≠ L.B := fun e => by have := q.1; rw [e, hown] at this; cases this; exact hx rfl
      exact q.mono (Rho.le_refl _) rfl (h2 _ hne)
  · obtain ⟨B', D', T', e1, e2, e3, e4⟩ := b.box j cs' hj
    have hne : B' ≠ L.B := fun e => by rw [e, hown] at e2; cases e2
    exact ⟨B', D', T', e1, e2, by rw [h2 _ hne]; exact e3, e4⟩

theorem BW.kill (b : BW π ρ own bx H w) (k : Nat) : BW π ρ own bx (H.kill k) w where
  hrel := ⟨b.hrel.lt, fun x L cs esz rw_ h1 h2 => by
    have : H.blk x = some (.cells cs esz rw_) := by
      simp only [Heap.kill] at h1
      split at h1
      · cases h1
      · exact h1
    exact b.hrel.cells x L cs esz rw_ this h2, fun x L kk es h1 h2 => b.hrel.maps x L kk es (by
    simp only [Heap.kill] at h1
    split at h1
    · cases h1
    · exact h1) h2⟩
  len := b.len
  box := b.box

/-- A store into a box. -/
theorem BW.setBox (b : BW π ρ own bx H w) {k B : Nat} {cs : List Value} {D : Array Value} {T : TypeId} (hk : k < bx.length) (hB : π[k]? = some B) (ho : own B = .priv k) (hc : VRels ρ cs D.toList)
    (h1 : w'.heap[B]? = some (.cells D T (0, 0))) (h2 : ∀ x, x ≠ B → w'.heap[x]? = w.heap[x]?) : BW π ρ own (bx.set k cs) H w' where
  hrel := ⟨b.hrel.lt, fun x L cs' esz rw_ g1 g2 => by
    obtain ⟨e1, D', T', fz, e2, e3, e4, e5, e6, e7⟩ := b.hrel.cells x L cs' esz rw_ g1 g2
    have hne : L.B ≠ B := fun e => by
      cases rw_ with
      | true => have := (e6 rfl).2; rw [e, ho] at this; cases this
      | false => have := e7 rfl; rw [e, ho] at this; cases this
    exact ⟨e1, D', T', fz, by rw [h2 _ hne]; exact e2, e3, e4, e5, e6, e7⟩, fun x L kk es g1 g2 => by
    have q := b.hrel.maps x L kk es g1 g2
    have hne : L.B ≠ B := fun e => by have := q.1; rw [e, ho] at this; cases this
    exact q.mono (Rho.le_refl _) rfl (h2 _ hne)⟩
  len := by simp [b.len]
  box := fun j cs' hj => by
    by_cases hjk : j = k
    · subst hjk
      rw [List.getElem?_set_self hk] at hj
      cases hj
      exact ⟨B, D, T, hB, ho, h1, hc⟩
    · rw [List.getElem?_set_ne (by omega)] at hj
      obtain ⟨B', D', T', e1, e2, e3, e4⟩ := b.box j cs' hj
      have hne : B' ≠ B := fun e => by rw [e, ho] at e2; cases e2; exact hjk rfl
      exact ⟨B', D', T', e1, e2, by rw [h2 _ hne]; exact e3, e4⟩

/-- A store into a block of the heap. -/
theorem BW.stor (b : BW π ρ own bx H w) {k o : Nat} {l l' cs : List Value} {esz : Nat} {L : Loc} {D : Array Value} {T : TypeId} (hb : H.blk k = some (.cells cs esz true)) (hL : ρ k = some L) (hle : o + l.length ≤ cs.length)
    (hl : VRels ρ l l') (hf : ∀ v ∈ l, flatV v = true) (h0 : w.heap[L.B]? = some (.cells D T (0, 0))) (h1 : w'.heap[L.B]? = some (.cells (overL D.toList (L.o + o) l').toArray T (0, 0))) (h2 : ∀ x, x ≠ L.B → w'.heap[x]? = w.heap[x]?) :
    BW π ρ own bx (H.stor k o l) w' := by
  have hst : H.stor k o l = H.put k (.cells (overL cs o l) esz true) := Heap.stor_put hb o l
  obtain ⟨f1, Dk, Tk, fzk, f2, f3, f4, f5, f6, f7⟩ := b.hrel.cells k L cs esz true hb hL
  have f3 := f3 rfl
  have hDk : Dk = D := by rw [h0] at f2; cases f2; rfl
  subst hDk
  have hown := (f6 rfl).2
  have hlen : l.length = l'.length := hl.length
  rw [hst]
  refine ⟨⟨b.hrel.lt, fun x L' cs' esz' rw_ g1 g2 => ?_, fun x L' kk es g1 g2 => ?_⟩, b.len, fun j cs' hj => ?_⟩
  rotate_left
  · have hx : x ≠ k := fun e => by
      subst e
      simp only [Heap.put, if_true] at g1
      rw [if_pos (H.lt _ _ hb)] at g1
      cases g1
    simp only [Heap.put, if_neg hx] at g1
    have q := b.hrel.maps x L' kk es g1 g2
    have hne : L'.B ≠ L.B := fun e => by have := q.1; rw [e, hown] at this; cases this; exact hx rfl
    exact q.mono (Rho.le_refl _) rfl (h2 _ hne)
  rotate_right
  · by_cases hx : x = k
    · subst hx
      have : L' = L := by rw [hL] at g2; exact (Option.some.inj g2).symm
      subst this
      simp only [Heap.put, if_true] at g1
      rw [if_pos (H.lt _ _ hb)] at g1
      cases g1
      have hsz : (overL Dk.toList (L'.o + o) l').length = Dk.size := by
        unfold overL; simp; omega
      refine ⟨f1, _, T, (0, 0), h1, fun _ => by rw [List.size_toArray, hsz, f3], by rw [List.size_toArray, hsz]; unfold overL; simp; omega, fun i v hi => ?_, fun _ => ⟨rfl, hown⟩, fun hr => by cases hr⟩
      unfold overL at hi ⊢
      by_cases hi1 : i < o
      · rw [List.append_assoc, List.getElem?_append_left (by simp; omega), List.getElem?_take, if_pos hi1] at hi
        obtain ⟨g0, v', g1, g2⟩ := f5 i v hi
        refine ⟨g0, v', ?_, g2⟩
        rw [List.getElem?_toArray, List.append_assoc, List.getElem?_append_left (by simp; omega), List.getElem?_take, if_pos (by omega)]
        simpa using g1
      · by_cases hi2 : i < o + l.length
        · rw [List.append_assoc, List.getElem?_append_right (by simp; omega), List.getElem?_append_left (by simp; omega)] at hi
          have hmin : min o cs.length = o := by omega
          simp only [List.length_take, hmin] at hi
          obtain ⟨v', g1, g2⟩ := hl.get _ v hi
          refine ⟨hf v (List.mem_of_getElem? hi), v', ?_, g2⟩
          rw [List.getElem?_toArray, List.append_assoc, List.getElem?_append_right (by simp; omega), List.getElem?_append_left (by simp; omega)]
          have hmin2 : min (L'.o + o) Dk.toList.length = L'.o + o := by simp; omega
          simp only [List.length_take, hmin2]
          rw [← g1]; congr 1; omega
        · rw [List.getElem?_append_right (by simp; omega)] at hi
          have hmin : min o cs.length = o := by omega
          simp only [List.length_append, List.length_take, hmin, List.getElem?_drop] at hi
          have hii : o + l.length + (i - (o + l.length)) = i := by omega
          rw [hii] at hi
          obtain ⟨g0, v', g1, g2⟩ := f5 i v hi
          refine ⟨g0, v', ?_, g2⟩
          rw [List.getElem?_toArray, List.getElem?_append_right (by simp; omega)]
          have hmin2 : min (L'.o + o) Dk.toList.length = L'.o + o := by simp; omega
          simp only [List.length_append, List.length_take, hmin2, List.getElem?_drop]
          rw [← hlen, show L'.o + o + l.length + (L'.o + i - (L'.o + o + l.length)) = L'.o + i by omega]
          simpa using g1
    · simp only [Heap.put, if_neg hx] at g1
      obtain ⟨e1, D', T', fz, e2, e3, e4, e5, e6, e7⟩ := b.hrel.cells x L' cs' esz' rw_ g1 g2
      have hne : L'.B ≠ L.B := fun e => by
        cases rw_ with
        | true => have := (e6 rfl).2; rw [e, hown] at this; cases this; exact hx rfl
        | false => have := e7 rfl; rw [e, hown] at this; cases this
      exact ⟨e1, D', T', fz, by rw [h2 _ hne]; exact e2, e3, e4, e5, e6, e7⟩
  · obtain ⟨B', D', T', e1, e2, e3, e4⟩ := b.box j cs' hj
    have hne : B' ≠ L.B := fun e => by rw [e, hown] at e2; cases e2
    exact ⟨B', D', T', e1, e2, by rw [h2 _ hne]; exact e3, e4⟩

/-- An append in place: the old block is given up, the new one lies where it lay. -/
theorem BW.grown (b : BW π ρ own bx H w) {k : Nat} {cs news : List Value} {esz off n : Nat} {L : Loc} {D D' : Array Value} {T : TypeId} {l0 : List Value} (hb : H.blk k = some (.cells l0 esz true)) (hL : ρ k = some L)
    (h0 : w.heap[L.B]? = some (.cells D T (0, 0))) (hsz : D'.size = D.size) (hfit : off + (cs ++ news).length ≤ D.size)
    (hc : ∀ i v, (cs ++ news)[i]? = some v → flatV v = true ∧ ∃ v', D'[off + i]? = some v' ∧ VRel ρ v v')
    (h1 : w'.heap[L.B]? = some (.cells D' T (0, 0))) (h2 : ∀ x, x ≠ L.B → w'.heap[x]? = w.heap[x]?) :
    BW π (updR ρ H.next ⟨L.B, off, L.n, esz⟩) (updO own L.B (.rw H.next)) bx ((H.kill k).push (.cells (cs ++ news) esz true)) w' := by
  obtain ⟨f1, Dk, Tk, fzk, f2, f3, f4, f5, f6, f7⟩ := b.hrel.cells k L l0 esz true hb hL
  have f3 := f3 rfl
  have hDk : Dk = D := by rw [h0] at f2; cases f2; rfl
  subst hDk
  have hown := (f6 rfl).2
  have hle := le_updR b ⟨L.B, off, L.n, esz⟩
  have hkn : k < H.next := H.lt _ _ hb
  refine ⟨⟨fun x L' h1 => ?_, fun x L' cs' esz' rw_ g1 g2 => ?_, fun x L' kk es g1 g2 => ?_⟩, b.len, fun j cs' hj => ?_⟩
  rotate_left
  rotate_left
  · have g1' : (if x = H.next then some (Blk.cells (cs ++ news) esz true) else (if x = k then Option.none else H.blk x)) = some (Blk.map kk es) := g1
    by_cases hx : x = H.next
    · rw [if_pos hx] at g1'; cases g1'
    · rw [if_neg hx] at g1'
      simp only [updR, if_neg hx] at g2
      split at g1'
      · cases g1'
      · rename_i hxk
        have q := b.hrel.maps x L' kk es g1' g2
        have hne : L'.B ≠ L.B := fun e => by have := q.1; rw [e, hown] at this; cases this; exact hxk rfl
        exact q.mono hle (updO_ne _ _ hne) (h2 _ hne)
  rotate_right
  rotate_right
  · show x < H.next + 1
    by_cases hx : x = H.next
    · omega
    · simp only [updR, if_neg hx] at h1
      have := b.hrel.lt x L' h1; omega
  · have hnx : (H.kill k).next = H.next := rfl
    by_cases hx : x = H.next
    · subst hx
      simp only [updR, if_true] at g2
      have g1' : (if H.next = H.next then some (Blk.cells (cs ++ news) esz true) else (if H.next = k then Option.none else H.blk H.next)) = some (Blk.cells cs' esz' rw_) := g1
      rw [if_pos rfl] at g1'
      cases g1'; cases g2
      exact ⟨rfl, D', T, (0, 0), h1, fun _ => by rw [hsz]; exact f3, by simp only; omega, fun i v hi => by
        obtain ⟨g0, v', g1, g2⟩ := hc i v hi; exact ⟨g0, v', g1, g2.mono hle⟩, fun _ => ⟨rfl, updO_same _ _ _⟩, fun hr => by cases hr⟩
    · simp only [updR, if_neg hx] at g2
      have g1' : (if x = H.next then some (Blk.cells (cs ++ news) esz true) else (if x = k then Option.none else H.blk x)) = some (Blk.cells cs' esz' rw_) := g1
      rw [if_neg hx] at g1'
      clear g1
      have g1 := g1'
      clear g1'
      split at g1
      · cases g1
      · rename_i hxk
        obtain ⟨e1, D'', T', fz, e2, e3, e4, e5, e6, e7⟩ := b.hrel.cells x L' cs' esz' rw_ g1 g2
        have hne : L'.B ≠ L.B := fun e => by
          cases rw_ with
          | true => have := (e6 rfl).2; rw [e, hown] at this; cases this; exact hxk rfl
          | false => have := e7 rfl; rw [e, hown] at this; cases this
        refine ⟨e1, D'', T', fz, by rw [h2 _ hne]; exact e2, e3, e4, fun i v hi => ?_, fun hr => ?_, fun hr => ?_⟩
        · obtain ⟨g0, v', g1, g2⟩ := e5 i v hi; exact ⟨g0, v', g1, g2.mono hle⟩
        · rw [updO_ne _ _ hne]; exact e6 hr
        · rw [updO_ne _ _ hne]; exact e7 hr
  · obtain ⟨B', D'', T', e1, e2, e3, e4⟩ := b.box j cs' hj
    have hne : B' ≠ L.B := fun e => by rw [e, hown] at e2; cases e2
    exact ⟨B', D'', T', e1, by rw [updO_ne _ _ hne]; exact e2, by rw [h2 _ hne]; exact e3, e4.mono hle⟩

/-! What is kept. -/
variable {ρ0 : Rho} {own0 : Nat → Owner} {w0 : World}
theorem Guar.of_heap (g : Guar ρ0 own0 w0 ρ own w) (h : Same w w') : Guar ρ0 own0 w0 ρ own w' :=
  ⟨g.le, g.ext.trans h.ext, by rw [h.heap]; exact g.size, fun B hB hn => by rw [h.heap]; exact g.keep B hB hn⟩
theorem Guar.push (g : Guar ρ0 own0 w0 ρ own w) {ρ' : Rho} (hle : Rho.le ρ ρ') {o : Obj} (ow : Owner) (h : w'.heap = w.heap.push o) (hx : Ext3 w w') : Guar ρ0 own0 w0 ρ' (updO own w.heap.size ow) w' :=
  ⟨Rho.le_trans g.le hle, g.ext.trans hx, by rw [h]; have := g.size; simp; omega, fun B hB hn => by
    have hlt : B < w.heap.size := Nat.lt_of_lt_of_le hB g.size
    rw [push_get h hlt, updO_ne _ _ (by omega)]; exact g.keep B hB hn⟩
theorem Guar.set (g : Guar ρ0 own0 w0 ρ own w) (hn0 : NoPriv own0) {ρ' : Rho} {own' : Nat → Owner} (hle : Rho.le ρ ρ') {B0 : Nat} (ho : (∃ b, own B0 = .rw b) ∨ ∃ k, own B0 = .priv k) (hs : w'.heap.size = w.heap.size) (hx : Ext3 w w')
    (h2 : ∀ x, x ≠ B0 → w'.heap[x]? = w.heap[x]?) (h3 : ∀ x, x ≠ B0 → own' x = own x) : Guar ρ0 own0 w0 ρ' own' w' :=
  ⟨Rho.le_trans g.le hle, g.ext.trans hx, by rw [hs]; exact g.size, fun B hB hn => by
    have hne : B ≠ B0 := fun e => by
      subst e
      have := (g.keep B hB hn).2
      rcases ho with ⟨b, ho⟩ | ⟨k, ho⟩
      · rw [ho] at this; exact hn b this.symm
      · rw [ho] at this; exact hn0 B k this.symm
    rw [h2 B hne, h3 B hne]; exact g.keep B hB hn⟩
end
end Go.Am

set_option linter.unusedVariables false
namespace Go.Am

section
variable {P : Program} {T : Tab} {C : CTab} {ρ ρ0 : Rho} {own own0 : Nat → Owner} {H : Heap} {w w0 : World} {π : List Nat} {bx : List (List Value)} {N : Nat} {a : Act}

def VoRel (π : List Nat) (ρ : Rho) : Option Value → Value → Prop
  | some v, v' => TRel π ρ v v'
  | none, v' => v' = undef
/-- What follows an operation holds of every state that it may leave. -/
def EffK (π : List Nat) (ρ ρ0 : Rho) (own0 : Nat → Owner) (w0 : World) (K : Option Value → List (List Value) → Heap → Prop) (R : Value → World → Prop) : Prop :=
  ∀ vo bx' H' π' ρ' own' v' w', K vo bx' H' → VoRel π' ρ' vo v' → BW π' ρ' own' bx' H' w' → Rho.le ρ ρ' → (∃ t, π' = π ++ t) → Guar ρ0 own0 w0 ρ' own' w' → R v' w'

theorem flat_of_rel {v v' : Value} (h : VRel ρ v v') (f : flatV v = true) : v'.oneCell' = true := by
  cases h <;> first | rfl | simp [flatV] at f
theorem allFlat_mem : ∀ {l : List Value}, allFlat l = true → ∀ v ∈ l, flatV v = true
  | v :: r, h, x, hx => by
    simp only [allFlat] at h
    split at h
    · rename_i hv
      cases hx with
      | head => exact hv
      | tail _ hx => exact allFlat_mem h x hx
    · cases h
theorem allOK_flat : ∀ {l : List Value}, allOK l = true → ∀ v ∈ l, flatV v = true
  | v :: r, h, x, hx => by
    simp only [allOK, Bool.and_eq_true] at h
    cases hx with
    | head =>
      have := h.1
      unfold constOK at this
      split at this <;> first | rfl | cases this
    | tail _ hx => exact allOK_flat h.2 x hx
theorem repL_flat {z : List Value} (h : ∀ v ∈ z, flatV v = true) : ∀ n, ∀ v ∈ repL n z, flatV v = true
  | 0, v, hv => by simp [repL] at hv
  | n + 1, v, hv => by
    simp only [repL, List.mem_append] at hv
    rcases hv with hv | hv
    · exact h v hv
    · exact repL_flat h n v hv
theorem rel_oneCell {l l' : List Value} (h : VRels ρ l l') (f : ∀ v ∈ l, flatV v = true) : ∀ v ∈ l', v.oneCell' = true := by
  intro v' hv'
  obtain ⟨i, hi⟩ := List.getElem?_of_mem hv'
  have hlt : i < l.length := by
    have := (List.getElem?_eq_some_iff.1 hi).1
    rw [h.length]; exact this
  obtain ⟨v'', g1, g2⟩ := h.get i l[i] (List.getElem?_eq_getElem hlt)
  rw [hi] at g1; cases g1
  exact flat_of_rel g2 (f _ (List.getElem_mem hlt))

theorem run_newRow (t : TypeId) (cells : Array Value) : (newRow t cells).run P w = .ok ⟨w.heap.size, 0, none⟩ { w with heap := w.heap.push (.cells cells t) } := by
  simp [newRow]

theorem alloc_sound (hT : TOK P T) (B : BW π ρ own bx H w) (g : Guar ρ0 own0 w0 ρ own w) {t : TypeId} {i : TI} (hi : T t = some i) {K : Option Value → List (List Value) → Heap → Prop} {R : Value → World → Prop} (hK : EffK π ρ ρ0 own0 w0 K R)
    (h : K (some (.pointer (some ⟨lenN bx, 0, some 0⟩))) (snocL bx i.zero) H ∨ K (some (.pointer (some ⟨H.next, 0, none⟩))) bx (H.push (.cells i.zero i.size true))) :
    ∃ v' w', (Instr.alloc t true (.tuple #[])).run P w = .ok v' w' ∧ R v' w' := by
  have ht := hT _ _ hi
  obtain ⟨z, z1, z2⟩ := ht.zero w
  refine ⟨.pointer (some ⟨w.heap.size, 0, none⟩), { w with heap := w.heap.push (.cells z.cells t) }, by simp [Instr.alloc, z1, newVar, run_newRow], ?_⟩
  have hz : VRels ρ i.zero z.cells.toList := by rw [z2]; exact VRels.const ht.ok
  rcases h with h | h
  · rw [lenN_eq, snocL_eq] at h
    refine hK _ _ _ _ _ _ _ _ h (.priv ?_) (B.pushBox hz rfl) (Rho.le_refl _) ⟨_, rfl⟩ (g.push (Rho.le_refl _) _ rfl rfl)
    rw [← B.len]; simp
  · have hl : i.zero.length = z.cells.size := by rw [← z2]; simp
    refine hK _ _ _ _ _ _ _ _ h (.pub ?_) (B.pushHeap (D := z.cells) (esz := i.size) (T := t) ?_ (Nat.le_of_eq hl) (allOK_flat ht.ok) rfl) (le_updR B _) ⟨[], by simp⟩ (g.push (le_updR B _) _ rfl rfl)
    · have hp : updR ρ H.next ⟨w.heap.size, 0, z.cells.size, i.size⟩ H.next = some ⟨w.heap.size, 0, z.cells.size, i.size⟩ := by simp [updR]
      exact .ptr hp
    · rw [List.take_of_length_le (by simp [hl])]; exact hz

theorem box_sound (hT : TOK P T) (B : BW π ρ own bx H w) (g : Guar ρ0 own0 w0 ρ own w) {t : TypeId} {i : TI} (hi : T t = some i) {v v' : Value} (hv : VRel ρ v v') (hf : allFlat (cellsV v) = true) {K : Option Value → List (List Value) → Heap → Prop} {R : Value → World → Prop} (hK : EffK π ρ ρ0 own0 w0 K R)
    (h : K (some (.pointer (some ⟨lenN bx, 0, some 0⟩))) (snocL bx (cellsV v)) H ∨ K (some (.pointer (some ⟨H.next, 0, none⟩))) bx (H.push (.cells (cellsV v) i.size true))) :
    ∃ u' w', (Instr.box t v').run P w = .ok u' w' ∧ R u' w' := by
  refine ⟨.pointer (some ⟨w.heap.size, 0, none⟩), { w with heap := w.heap.push (.cells v'.cells t) }, by simp [Instr.box, newVar, run_newRow], ?_⟩
  have hz : VRels ρ (cellsV v) v'.cells.toList := hv.cells
  rcases h with h | h
  · rw [lenN_eq, snocL_eq] at h
    refine hK _ _ _ _ _ _ _ _ h (.priv ?_) (B.pushBox hz rfl) (Rho.le_refl _) ⟨_, rfl⟩ (g.push (Rho.le_refl _) _ rfl rfl)
    rw [← B.len]; simp
  · have hl : (cellsV v).length = v'.cells.size := by rw [hz.length]; simp
    refine hK _ _ _ _ _ _ _ _ h (.pub ?_) (B.pushHeap (D := v'.cells) (esz := i.size) (T := t) ?_ (Nat.le_of_eq hl) (allFlat_mem hf) rfl) (le_updR B _) ⟨[], by simp⟩ (g.push (le_updR B _) _ rfl rfl)
    · have hp : updR ρ H.next ⟨w.heap.size, 0, v'.cells.size, i.size⟩ H.next = some ⟨w.heap.size, 0, v'.cells.size, i.size⟩ := by simp [updR]
      exact .ptr hp
    · rw [List.take_of_length_le (by simp [hl])]; exact hz

theorem storeVar_run {t : TypeId} {i : TI} (ht : Row P t i) {v' : Value} (hs : v'.cells.size = i.size) {b o : Nat} {D : Array Value} {Te : TypeId} (hg : w.heap[b]? = some (.cells D Te (0, 0))) (hle : o + i.size ≤ D.size) (h1 : ∀ v ∈ v'.cells.toList, v.oneCell' = true) :
    (Instr.storeAt t (.pointer (some ⟨b, o, none⟩)) v').run P w = .ok () (w.setRow b (overL D.toList o v'.cells.toList).toArray) := by
  have hst := run_storeCells_at P b o Te v'.cells.toList 0 D w hg (by simp; omega) h1
  simp only [Instr.storeAt, Instr.sureAddr, pure_bind, storeVar, Sem.run_bind, ht.sizeOf, Result.andThen_ok]
  rw [if_neg (by simp [hs])]
  rw [show (storeCells ⟨b, o, none⟩ v'.cells.toList).run P w = _ from hst]
  simp [overL]

theorem store_sound (hT : TOK P T) (hn0 : NoPriv own0) (B : BW π ρ own bx H w) (g : Guar ρ0 own0 w0 ρ own w) {t : TypeId} {i : TI} (hi : T t = some i) {k o : Nat} {sp : Option Nat} {p' v v' : Value} (hp : TRel π ρ (.pointer (some ⟨k, o, sp⟩)) p') (hv : VRel ρ v v')
    (hl : lenB i.size (cellsV v) = true) (hf : allFlat (cellsV v) = true) {K : Option Value → List (List Value) → Heap → Prop} {R : Value → World → Prop} (hK : EffK π ρ ρ0 own0 w0 K R)
    (h : (∃ q cs cs', sp = some q ∧ nth bx k = some cs ∧ updL cs o (cellsV v) = some cs' ∧ K none (setN bx k cs') H) ∨ (sp = none ∧ H.stOK k o i.size ∧ K none bx (H.stor k o (cellsV v)))) :
    ∃ w', (Instr.storeAt t p' v').run P w = .ok () w' ∧ R undef w' := by
  have ht := hT _ _ hi
  have hc := hv.cells
  have hs : v'.cells.size = i.size := by
    have := hc.length
    rw [lenB_eq _ _ hl] at this
    simpa using this.symm
  have h1 := rel_oneCell hc (allFlat_mem hf)
  cases hp with
  | @priv k o Bk hk =>
    rcases h with ⟨q, cs, cs', _, hcs, hu, h⟩ | ⟨h, _⟩
    · rw [nth_eq] at hcs
      · skip
        rw [setN_eq] at h
        obtain ⟨B', D, Te, e1, e2, e3, e4⟩ := B.box k cs hcs
        have : B' = Bk := by rw [hk] at e1; exact (Option.some.inj e1).symm
        subst this
        obtain ⟨u1, u2⟩ := updL_eq _ _ _ _ hu
        have hlen : cs.length = D.size := by rw [e4.length]; simp
        have hle : o + i.size ≤ D.size := by rw [lenB_eq _ _ hl] at u2; omega
        have hkl : k < bx.length := (List.getElem?_eq_some_iff.1 hcs).1
        refine ⟨_, storeVar_run ht hs e3 hle h1, ?_⟩
        refine hK _ _ _ _ _ _ _ _ h rfl (B.setBox (B := B') (D := (overL D.toList o v'.cells.toList).toArray) (T := Te) hkl hk e2 ?_ (setRow_heap w B' D _ Te _ e3) (fun x hx => setRow_other w B' x _ hx)) (Rho.le_refl _) ⟨[], by simp⟩ ?_
        · rw [u1]; simpa using e4.over hc o
        · exact g.set hn0 (Rho.le_refl _) (.inr ⟨k, e2⟩) (setRow_size w B' _) rfl (fun x hx => setRow_other w B' x _ hx) (fun _ _ => rfl)
    · cases h
  | pub hp => cases hp with
    | @ptr b off L hL =>
      rcases h with ⟨q, cs, cs', h, _⟩ | ⟨_, ⟨cs, esz, hb, hle⟩, h⟩
      · cases h
      obtain ⟨f1, D, Te, fz, f2, f3, f4, f5, f6, f7⟩ := B.hrel.cells k L cs esz true hb hL
      have f3 := f3 rfl
      obtain ⟨rfl, hown⟩ := f6 rfl
      have hlen : (cellsV v).length = i.size := lenB_eq _ _ hl
      refine ⟨_, storeVar_run ht hs f2 (by omega) h1, ?_⟩
      refine hK _ _ _ _ _ _ _ _ h rfl (B.stor (D := D) (T := Te) hb hL (by omega) hc (allFlat_mem hf) f2 (setRow_heap w L.B D _ Te _ f2) (fun x hx => setRow_other w L.B x _ hx)) (Rho.le_refl _) ⟨[], by simp⟩ ?_
      exact g.set hn0 (Rho.le_refl _) (.inl ⟨k, hown⟩) (setRow_size w L.B _) rfl (fun x hx => setRow_other w L.B x _ hx) (fun _ _ => rfl)

theorem newSlice (B : BW π ρ own bx H w) (g : Guar ρ0 own0 w0 ρ own w) {e : TypeId} {cs : List Value} {D : Array Value} {n c esz : Nat} (hc : VRels ρ cs (D.toList.take cs.length)) (hl : cs.length ≤ D.size) (hf : ∀ v ∈ cs, flatV v = true) (hn : n ≤ c) (hcD : c * esz ≤ D.size) {w' : World} (hw' : w'.heap = w.heap.push (.cells D e (0, 0))) (hx' : Ext3 w w')
    {K : Option Value → List (List Value) → Heap → Prop} {R : Value → World → Prop} (hK : EffK π ρ ρ0 own0 w0 K R) (h : K (some (.slice (some ⟨H.next, 0, none⟩) n n)) bx (H.push (.cells cs esz true))) :
    R (.slice (some ⟨w.heap.size, 0, none⟩) n c) w' := by
  refine hK _ _ _ _ _ _ _ _ h (.pub ?_) (B.pushHeap (D := D) (esz := esz) (T := e) hc hl hf hw') (le_updR B _) ⟨[], by simp⟩ (g.push (le_updR B _) _ hw' hx')
  have hp : updR ρ H.next ⟨w.heap.size, 0, D.size, esz⟩ H.next = some ⟨w.heap.size, 0, D.size, esz⟩ := by simp [updR]
  exact .slice hp (.inr rfl) hn (by simp; exact hcD)

theorem buildSlice_sound (hT : TOK P T) (B : BW π ρ own bx H w) (g : Guar ρ0 own0 w0 ρ own w) {t e : TypeId} {i : TI} {z : List Value} {sz by_ n : Nat} {ag : Bool} (ht : Row P t ⟨sz, by_, ag, .slice e, z⟩) (he : T e = some i) {η : Operand → Option Value} {ev : Operand → Value} (parts : Array (Nat × Operand))
    (hη : ∀ x ∈ parts, ∀ v, η x.2 = some v → TRel π ρ v (ev x.2)) (h24 : n * i.size ≤ 16777216) (h0 : 0 < i.size) {cs : List Value} (hcs : fillA (fun k => some (k * i.size, i.size)) η parts.toList (repL n i.zero) = some cs) (hf : allFlat cs = true)
    {K : Option Value → List (List Value) → Heap → Prop} {R : Value → World → Prop} (hK : EffK π ρ ρ0 own0 w0 K R) (h : K (some (.slice (some ⟨H.next, 0, none⟩) n n)) bx (H.push (.cells cs i.size true))) :
    ∃ v' w', (Instr.buildSlice t n (parts.map fun (k, x) => (k, ev x))).run P w = .ok v' w' ∧ R v' w' := by
  obtain ⟨d, h1, _, rfl⟩ := ht.und
  have hi := hT _ _ he
  obtain ⟨z', z1, z2⟩ := hi.zero w
  have hzl : z'.cells.size = i.size := by rw [← hi.len, ← z2]; simp
  have hbase : ((Array.range (n * i.size)).map ((if n * i.size = 0 then #[] else z'.cells)[· % (if n * i.size = 0 then (#[] : Array Value) else z'.cells).size]!)).toList = repL n i.zero := by
    by_cases hn : n * i.size = 0
    · have : n = 0 := by rcases Nat.mul_eq_zero.1 hn with h | h <;> omega
      subst this
      simp [repL]
    · rw [if_neg hn, ← hzl, repL_array _ _ (by omega), z2]
  have hz : VRels ρ (repL n i.zero) ((Array.range (n * i.size)).map ((if n * i.size = 0 then #[] else z'.cells)[· % (if n * i.size = 0 then (#[] : Array Value) else z'.cells).size]!)).toList := by
    rw [hbase]; exact (VRels.const hi.ok).rep n
  obtain ⟨m', hm', hr⟩ := fill_sound parts.toList _ cs _ (fun x hx => hη x (by simpa using hx)) hcs hz
  have hlenm : m'.size = n * i.size := by
    have hu : ∀ (ps : List (Nat × Value)) (c m : Array Value), Instr.fill (fun k => some (k * i.size, i.size)) c ps = some m → m.size = c.size := by
      intro ps
      induction ps with
      | nil => intro c m h; simp only [Instr.fill] at h; cases h; rfl
      | cons p r ih =>
        intro c m h
        obtain ⟨k, v⟩ := p
        simp only [Instr.fill] at h
        split at h
        · cases h
        · have := ih _ _ h
          rw [this]
          have hfold : ∀ (l : List (Value × Nat)) (c : Array Value), (l.foldl (fun cs (x : Value × Nat) => cs.setIfInBounds (k * i.size + x.2) x.1) c).size = c.size := by
            intro l
            induction l with
            | nil => intro c; rfl
            | cons x r ih => intro c; simp only [List.foldl_cons]; rw [ih]; simp
          rw [← Array.foldl_toList]
          exact hfold _ c
    rw [hu _ _ _ hm']; simp
  refine ⟨.slice (some ⟨w.heap.size, 0, none⟩) n n, { w with heap := w.heap.push (.cells m' e) }, ?_, ?_⟩
  · simp only [Instr.buildSlice, Sem.run_bind, run_underlying' h1, Result.andThen_ok, hi.sizeOf]
    have h24' : ¬ (n * i.size > 2 ^ 24) := by omega
    by_cases hn0 : n * i.size = 0
    · simp only [if_pos hn0] at hm'
      simp only [if_neg h24', if_pos hn0, pure_bind, Sem.run_bind, Sem.run_pure, Result.andThen_ok]
      rw [Array.toList_map, show (parts.toList.map fun (x : Nat × Operand) => match x with | (k, x) => (k, ev x)) = (parts.toList.map fun x => (x.1, ev x.2)) from rfl, hm']
      simp [run_newRow]
    simp only [if_neg hn0] at hm'
    simp only [if_neg h24', if_neg hn0, pure_bind, Sem.run_bind, Sem.run_pure, Result.andThen_ok, z1]
    rw [Array.toList_map, show (parts.toList.map fun (x : Nat × Operand) => match x with | (k, x) => (k, ev x)) = (parts.toList.map fun x => (x.1, ev x.2)) from rfl, hm']
    simp [run_newRow]
  · have hl : cs.length = m'.size := by rw [hr.length]; simp
    exact newSlice B g (by rw [List.take_of_length_le (by simp [hl])]; exact hr) (Nat.le_of_eq hl) (allFlat_mem hf) (Nat.le_refl _) (Nat.le_of_eq hlenm.symm) (by exact rfl) (by exact rfl) hK h

theorem makeSlice_sound (hT : TOK P T) (B : BW π ρ own bx H w) (g : Guar ρ0 own0 w0 ρ own w) {t e : TypeId} {i : TI} {z : List Value} {sz by_ : Nat} {ag : Bool} (ht : Row P t ⟨sz, by_, ag, .slice e, z⟩) (he : T e = some i) (h0 : 0 < i.size) {k k' : IntKind} {n m : Int}
    (hn : 0 ≤ n ∧ n ≤ m ∧ m ≤ 9223372036854775807 ∧ m * i.bytes ≤ 140737488355328) {K : Option Value → List (List Value) → Heap → Prop} {R : Value → World → Prop} (hK : EffK π ρ ρ0 own0 w0 K R)
    (h : K (some (.slice (some ⟨H.next, 0, none⟩) n.toNat n.toNat)) bx (H.push (.cells (repL n.toNat i.zero) i.size true))) :
    ∃ v' w', (Instr.makeSlice t (.int k n) (.int k' m)).run P w = .ok v' w' ∧ R v' w' := by
  obtain ⟨d, h1, _, rfl⟩ := ht.und
  have hi := hT _ _ he
  obtain ⟨z', z1, z2⟩ := hi.zero w
  have hzl : z'.cells.size = i.size := by rw [← hi.len, ← z2]; simp
  obtain ⟨ti, t1, t2, t3⟩ := hi.bytes w
  have wr : ∀ x : Int, 0 ≤ x → x ≤ 9223372036854775807 → IntKind.i64.wrap x = x := fun x a b => by
    simp only [IntKind.wrap, IntKind.signed, IntKind.bits]
    first
    | (simp; omega)
    | skip
  have wn := wr n hn.1 (by omega)
  have wm := wr m (by omega) hn.2.2.1
  have hbase : ((Array.range (m.toNat * i.size)).map ((if m.toNat * i.size = 0 then #[] else z'.cells)[· % (if m.toNat * i.size = 0 then (#[] : Array Value) else z'.cells).size]!)).toList = repL m.toNat i.zero := by
    by_cases hq : m.toNat * i.size = 0
    · have : m.toNat = 0 := by rcases Nat.mul_eq_zero.1 hq with h | h <;> omega
      rw [this]; simp [repL]
    · rw [if_neg hq, ← hzl, repL_array _ _ (by omega), z2]
  refine ⟨.slice (some ⟨w.heap.size, 0, none⟩) n.toNat m.toNat, { w with heap := w.heap.push (.cells ((Array.range (m.toNat * i.size)).map ((if m.toNat * i.size = 0 then #[] else z'.cells)[· % (if m.toNat * i.size = 0 then (#[] : Array Value) else z'.cells).size]!)) e) }, ?_, ?_⟩
  · have c1 : ¬ (m < 0) := by omega
    have c2 : ¬ ((i.bytes : Int) * m > 2 ^ 48) := by rw [Int.mul_comm]; omega
    have c3 : ¬ (n < 0) := by omega
    have c4 : ¬ (n > m) := by omega
    simp only [Instr.makeSlice, Sem.run_bind, run_underlying' h1, Result.andThen_ok, asInt, asIntOf, pure_bind, Sem.run_pure, t1, t2, wn, wm, c1, c2, c3, c4, decide_false, Bool.or_self, Bool.false_eq_true, if_false, or_self, false_or,
      run_askRoom, hi.sizeOf]
    by_cases hq : m.toNat * i.size = 0
    · simp only [if_pos hq, Sem.run_bind, run_newRow, Result.andThen_ok, Sem.run_pure]
    · simp only [if_neg hq, Sem.run_bind, z1, run_newRow, Result.andThen_ok, Sem.run_pure]
  · have hlen : (repL m.toNat i.zero).length = m.toNat * i.size := by rw [repL_len, hi.len]
    have hsz : ((Array.range (m.toNat * i.size)).map ((if m.toNat * i.size = 0 then #[] else z'.cells)[· % (if m.toNat * i.size = 0 then (#[] : Array Value) else z'.cells).size]!)).size = m.toNat * i.size := by simp
    have hnm : n.toNat ≤ m.toNat := by omega
    have hle2 : n.toNat * i.size ≤ m.toNat * i.size := Nat.mul_le_mul_right _ hnm
    refine newSlice B g (D := (Array.range (m.toNat * i.size)).map ((if m.toNat * i.size = 0 then #[] else z'.cells)[· % (if m.toNat * i.size = 0 then (#[] : Array Value) else z'.cells).size]!)) ?_ (by rw [hsz, repL_len, hi.len]; exact hle2) (repL_flat (allOK_flat hi.ok) _) hnm (by rw [hsz]; exact Nat.le_refl _) (by exact rfl) (by exact rfl) hK h
    rw [hbase]
    have htake : (repL m.toNat i.zero).take (repL n.toNat i.zero).length = repL n.toNat i.zero := by
      rw [repL_len]
      obtain ⟨d, hd⟩ := Nat.exists_eq_add_of_le hnm
      rw [hd]
      have : ∀ (x y : Nat), (repL (x + y) i.zero).take (x * i.zero.length) = repL x i.zero := by
        intro x
        induction x with
        | zero => intro y; simp [repL]
        | succ x ih =>
          intro y
          rw [show x + 1 + y = (x + y) + 1 by omega]
          simp only [repL, Nat.add_mul, Nat.one_mul]
          rw [List.take_append, List.take_of_length_le (by omega), show x * i.zero.length + i.zero.length - i.zero.length = x * i.zero.length by omega, ih]
      exact this _ _
    rw [htake]
    exact (VRels.const hi.ok).rep _

/-- The same, by the owner's three kinds. -/
def appF' (T : Tab) (H : Heap) (bx : List (List Value)) (η : Operand → Option Value) (t u : TypeId) (s x : Operand) (K : Option Value → List (List Value) → Heap → Prop) : Prop :=
  match T t, Nat.beq t u, η s, η x with
  | some ⟨_, _, _, .slice e, _⟩, true, some (.slice a n _), some (.slice a2 m _) => (match T e with
    | some i => (match Nat.blt 0 i.size with
      | true => (match m with
        | 0 => K (some (.slice a n n)) bx H
        | m' + 1 => (match a2 with
          | some ⟨b2, o2, none⟩ => ∃ news, H.run? b2 o2 ((m' + 1) * i.size) = some news ∧ (n + (m' + 1)) * i.bytes ≤ 140737488355328 ∧ n + (m' + 1) ≤ 9223372036854775807 ∧ (match a with
            | some ⟨b, o, none⟩ => ∃ cs, H.own? b o n i.size cs ∧ K (some (.slice (some ⟨H.next, 0, none⟩) (n + (m' + 1)) (n + (m' + 1)))) bx ((H.kill b).push (.cells (cs ++ news) i.size true))
            | none => K (some (.slice (some ⟨H.next, 0, none⟩) (n + (m' + 1)) (n + (m' + 1)))) bx (H.push (.cells news i.size true))
            | _ => False)
          | _ => False))
      | false => False)
    | none => False)
  | _, _, _, _ => False
theorem appF_old {T : Tab} {H : Heap} {bx : List (List Value)} {η : Operand → Option Value} {t u : TypeId} {s x : Operand} {K : Option Value → List (List Value) → Heap → Prop} (h : appF T H bx η t u s x K) : appF' T H bx η t u s x K := by
  unfold appF at h
  unfold appF'
  generalize T t = tt at *
  generalize Nat.beq t u = bb at *
  generalize η s = es at *
  generalize η x = ex at *
  split at h
  · rename_i e _ a n _ a2 m _
    dsimp only
    generalize T e = te at *
    cases te with
    | none => exact h
    | some i =>
      dsimp only at h ⊢
      generalize Nat.blt 0 i.size = q at *
      cases q with
      | false => exact h
      | true =>
        dsimp only at h ⊢
        cases m with
        | zero => exact h
        | succ m' =>
          dsimp only at h ⊢
          split at h
          · obtain ⟨news, h1, h2, h3, cs, h4, h5⟩ := h
            refine ⟨news, h1, h2, h3, ?_⟩
            cases a with
            | none => cases h4; exact h5
            | some q => obtain ⟨qb, qo, qs⟩ := q; cases qs with
              | none => exact ⟨cs, h4, h5⟩
              | some _ => exact h4.elim
          · exact h.elim
  · exact h.elim

theorem appF_sound (hT : TOK P T) (hn0 : NoPriv own0) (B : BW π ρ own bx H w) (g : Guar ρ0 own0 w0 ρ own w) {η : Operand → Option Value} {t u ty : TypeId} {s x : Operand} {s' x' : Value} (hs : ∀ v, η s = some v → TRel π ρ v s') (hx : ∀ v, η x = some v → TRel π ρ v x')
    {K : Option Value → List (List Value) → Heap → Prop} {R : Value → World → Prop} (hK : EffK π ρ ρ0 own0 w0 K R) (h0 : appF T H bx η t u s x K) :
    ∃ v' w', (Builtin.append_ #[t, u] ty #[s', x']).run P w = .ok v' w' ∧ R v' w' := by
  have h := appF_old h0
  clear h0
  unfold appF' at h
  split at h
  · rename_i e zz an n ac a2 m a2c hTt hTu hs0 hx0
    split at h
    · rename_i i hTe
      split at h
      · rename_i hpos
        have hpos : 0 < i.size := Nat.blt_eq ▸ hpos
        have htu : t = u := Nat.eq_of_beq_eq_true hTu
        subst htu
        obtain ⟨d, h1, _, rfl⟩ := (hT _ _ hTt).und
        have hi := hT _ _ hTe
        obtain ⟨ti, z, i1, i2, i3, i4, i5⟩ := hi.info
        have hs1 := hs _ hs0
        have hx1 := hx _ hx0
        have hsz : (Go.sizeOf e).run P w = .ok i.size w := hi.sizeOf w
        cases hs1 with
        | pub hs1 => cases hx1 with
          | pub hx1 =>
            split at h
            · -- nothing is appended
              have hxl : ∃ b c, x' = .slice b 0 c := by cases hx1 <;> exact ⟨_, _, rfl⟩
              obtain ⟨xb, xc, rfl⟩ := hxl
              have hsl : ∃ b c, s' = .slice b n c ∧ n ≤ c ∧ VRel ρ (.slice an n n) (.slice b n c) := by
                cases hs1 with
                | nilSlice => exact ⟨_, _, rfl, Nat.le_refl _, .nilSlice⟩
                | slice a1 a2 a3 a4 => exact ⟨_, _, rfl, a3, .slice a1 a2 a3 a4⟩
              obtain ⟨sb, sc, rfl, hle, hrel⟩ := hsl
              refine ⟨.slice sb n sc, w, ?_, hK _ _ _ _ _ _ _ _ h (.pub hrel) B (Rho.le_refl _) ⟨[], by simp⟩ g⟩
              have hzs : ∀ w, ((match some (t : TypeId) with
                  | some xType => do pure ((← underlying xType) matches .int _)
                  | none => pure false : Sem Bool)).run P w = .ok false w := fun w => by simp [run_underlying' h1]
              simp only [Builtin.append_, List.getElem?_toArray, List.getElem?_cons_zero, List.getElem?_cons_succ, Sem.run_bind, run_underlying' h1, Result.andThen_ok, hsz, Sem.run_pure]
              simp only [Bool.false_eq_true, if_false, Builtin.lenOf, Sem.run_pure, Result.andThen_ok, Nat.add_zero, if_pos hle, Bool.not_false, if_true, Sem.run_bind]
              cases xb with
              | none =>
                rw [run_firstCells_none]
                cases sb <;> simp [storeCells]
              | some xa =>
                rw [run_firstCells_some w i.size 0 xa 0 xc [] (by simp) (by simp)]
                cases sb <;> simp [storeCells]
            · rename_i m'
              split at h
              · rename_i b2 o2
                obtain ⟨news, hnews, hbytes, h63, h⟩ := h
                cases hx1 with
                | @slice _ _ _ off2 cap2 L2 hL2 k1 k2 k3 =>
                  have ho2 : off2 = L2.o + o2 := by rcases k1 with k1 | k1 <;> omega
                  obtain ⟨news', n1, n2, n3⟩ := B.hrel.run hnews hL2
                  have nfl : ∀ v ∈ news, flatV v = true := fun v hv => by
                    obtain ⟨j, hj⟩ := List.getElem?_of_mem hv
                    unfold Heap.run? at hnews
                    split at hnews
                    · rename_i csx eszx rwx hbx
                      split at hnews
                      · cases hnews
                        obtain ⟨_, _, _, _, _, _, _, f5, _⟩ := B.hrel.cells b2 L2 csx eszx rwx hbx hL2
                        rw [List.getElem?_take] at hj
                        split at hj
                        · rw [List.getElem?_drop] at hj; exact (f5 _ _ hj).1
                        · cases hj
                      · cases hnews
                    · cases hnews
                  have n3' : ∀ j v, news'[j]? = some v → w.cell? ((⟨L2.B, off2, none⟩ : Addr).add j) = some v := fun j v hj => by rw [add_mk, ho2]; exact n3 j v hj
                  have nlen : news.length = (m' + 1) * i.size := by rw [n2.length, n1]
                  have nlen' : news'.length = (m' + 1) * ti.size := by rw [n1, i2]
                  split at h
                  · -- onto a slice that is not nil
                    rename_i b o
                    obtain ⟨cs, ⟨l0, hb, hfit, hcs⟩, h⟩ := h
                    cases hs1 with
                    | @slice _ _ _ off cap L hL q1 q2 q3 =>
                      obtain ⟨f1, D, Te, fz, f2, f3, f4, f5, f6, f7⟩ := B.hrel.cells b L l0 i.size true hb hL
                      have f3 := f3 rfl
                      obtain ⟨rfl, hown⟩ := f6 rfl
                      have cslen : cs.length = n * i.size := by rw [hcs]; simp; omega
                      by_cases hroom : n + (m' + 1) ≤ cap
                      · -- in place
                        have hoff : off = L.o + o := by rcases q1 with q1 | q1 <;> omega
                        have hmul : (n + (m' + 1)) * i.size ≤ cap * i.size := Nat.mul_le_mul_right _ hroom
                        rw [Nat.add_mul] at hmul
                        have hDn : off + n * i.size + (m' + 1) * i.size ≤ D.size := by rw [f3]; rw [f1] at q3; omega
                        have hst := run_storeCells_at P L.B (off + n * i.size) Te news' 0 D w f2 (by rw [n1]; omega) (rel_oneCell n2 nfl)
                        refine ⟨.slice (some ⟨L.B, off, none⟩) (n + (m' + 1)) cap, w.setRow L.B (overL D.toList (off + n * i.size) news').toArray, ?_, ?_⟩
                        · have hf := run_firstCells_some (P := P) w ti.size (m' + 1) ⟨L2.B, off2, none⟩ (m' + 1) cap2 news' nlen' n3'
                          rw [i2] at hf
                          simp only [Builtin.append_, List.getElem?_toArray, List.getElem?_cons_zero, List.getElem?_cons_succ, Sem.run_bind, run_underlying' h1, Result.andThen_ok, hsz, Sem.run_pure]
                          simp only [Bool.false_eq_true, if_false, Builtin.lenOf, Sem.run_pure, Result.andThen_ok, if_pos hroom, Bool.not_false, if_true, Sem.run_bind, hf, add_mk]
                          rw [show (storeCells ⟨L.B, off + n * i.size, none⟩ news').run P w = _ from hst]
                          simp [overL]
                        · have hl' : (overL D.toList (off + n * i.size) news').length = D.size := by unfold overL; simp; omega
                          have hcells : ∀ j v, (cs ++ news)[j]? = some v → flatV v = true ∧ ∃ v', ((overL D.toList (off + n * i.size) news').toArray)[off + j]? = some v' ∧ VRel ρ v v' := fun j v hj => by
                            rw [List.getElem?_toArray]
                            unfold overL
                            by_cases hj1 : j < n * i.size
                            · rw [List.getElem?_append_left (by rw [cslen]; exact hj1), hcs, List.getElem?_take, if_pos hj1, List.getElem?_drop] at hj
                              obtain ⟨g0, v', g1, g2⟩ := f5 _ _ hj
                              refine ⟨g0, v', ?_, g2⟩
                              rw [List.append_assoc, List.getElem?_append_left (by simp; omega), List.getElem?_take, if_pos (by omega), hoff, Nat.add_assoc]
                              simpa using g1
                            · rw [List.getElem?_append_right (by rw [cslen]; omega), cslen] at hj
                              obtain ⟨v', g1, g2⟩ := n2.get _ v hj
                              refine ⟨nfl v (List.mem_of_getElem? hj), v', ?_, g2⟩
                              have hlt : j - n * i.size < news'.length := (List.getElem?_eq_some_iff.1 g1).1
                              have hmin : min (off + n * i.size) D.toList.length = off + n * i.size := by simp; omega
                              rw [List.append_assoc, List.getElem?_append_right (by simp; omega), List.getElem?_append_left (by simp only [List.length_take, hmin]; omega)]
                              simp only [List.length_take, hmin]
                              rw [← g1]; congr 1; omega
                          refine hK _ _ _ _ _ _ _ _ h (.pub ?_) (B.grown (off := off) (n := n) (D := D) (D' := (overL D.toList (off + n * i.size) news').toArray) (T := Te) hb hL f2 (by simp [hl']) ?_ hcells (setRow_heap w L.B D _ Te _ f2) (fun y hy => setRow_other w L.B y _ hy)) (le_updR B _) ⟨[], by simp⟩ ?_
                          · have hp : updR ρ H.next ⟨L.B, off, L.n, i.size⟩ H.next = some ⟨L.B, off, L.n, i.size⟩ := by simp [updR]
                            exact VRel.slice (L := ⟨L.B, off, L.n, i.size⟩) hp (.inr rfl) hroom (by rw [f1] at q3; exact q3)
                          · rw [List.length_append, cslen, nlen]; omega
                          · exact g.set hn0 (le_updR B _) (.inl ⟨b, hown⟩) (setRow_size w L.B _) rfl (fun y hy => setRow_other w L.B y _ hy) (fun y hy => updO_ne _ _ hy)
                      · -- a new array
                        have hcs' : ∃ olds, olds.length = n * ti.size ∧ VRels ρ cs olds ∧ ∀ j v, olds[j]? = some v → w.cell? ((⟨L.B, off, none⟩ : Addr).add j) = some v := by
                          by_cases hn : n = 0
                          · subst hn
                            exact ⟨[], by simp, by rw [hcs]; simp; exact .nil, fun j v hj => by simp at hj⟩
                          · have hoff : off = L.o + o := by rcases q1 with q1 | q1 <;> omega
                            have hr : H.run? b o (n * i.size) = some cs := by unfold Heap.run?; rw [hb]; simp only [if_pos hfit, hcs]
                            obtain ⟨olds, o1, o2', o3⟩ := B.hrel.run hr hL
                            exact ⟨olds, by rw [o1, i2], o2', fun j v hj => by rw [add_mk, hoff]; exact o3 j v hj⟩
                        obtain ⟨olds, o1, o2', o3⟩ := hcs'
                        have hgr := run_append_grow w t ty e ti z h1 i1 i4 ⟨L.B, off, none⟩ n cap olds o1 o3 ⟨L2.B, off2, none⟩ (m' + 1) cap2 news' nlen' n3' (by omega) (by omega) (growslice_fits (by omega) (by rw [i3]; exact hbytes))
                        refine ⟨_, _, hgr, ?_⟩
                        have hall : VRels ρ (cs ++ news) (olds ++ news') := o2'.append n2
                        have hcap : n + (m' + 1) ≤ grownCap w (n + (m' + 1)) cap e := by unfold grownCap Question.cut; exact Nat.le_add_right _ _
                        have hzc : z.cells.size = i.size := by rw [← hi.len, ← i5]; simp
                        refine newSlice (B.kill b) g (D := olds.toArray ++ news'.toArray ++ Builtin.zeroCells z.cells (grownCap w (n + (m' + 1)) cap e - (n + (m' + 1)))) (e := e) ?_ ?_ ?_ hcap ?_ (by exact rfl) (by exact rfl) hK h
                        · simp only [Array.toList_append]
                          rw [List.take_append_of_le_length (by rw [hall.length]; simp), hall.length, List.take_of_length_le (Nat.le_refl _)]
                          exact hall
                        · rw [hall.length]; simp
                        · intro v hv
                          rcases List.mem_append.1 hv with hv | hv
                          · rw [hcs] at hv
                            obtain ⟨j, hj⟩ := List.getElem?_of_mem hv
                            rw [List.getElem?_take] at hj
                            split at hj
                            · rw [List.getElem?_drop] at hj; exact (f5 _ _ hj).1
                            · cases hj
                          · exact nfl v hv
                        · simp only [Array.size_append, List.size_toArray, o1, nlen', i2, Builtin.zeroCells, Array.size_map, Array.size_range, hzc]
                          rw [← Nat.add_mul, ← Nat.add_mul]
                          exact Nat.mul_le_mul_right _ (by omega)
                  · -- onto nil
                    cases hs1 with
                    | @nilSlice sa =>
                      rw [Nat.zero_add] at hbytes
                      have hgr : (Builtin.append_ #[t, t] ty #[.slice sa 0 0, .slice (some ⟨L2.B, off2, none⟩) (m' + 1) cap2]).run P w = .ok (.slice (some ⟨w.heap.size, 0, none⟩) (m' + 1) (grownCap w (m' + 1) 0 e)) (w.drew.alloc (.cells (news'.toArray ++ Builtin.zeroCells z.cells (grownCap w (m' + 1) 0 e - (m' + 1))) e)) := by
                        cases sa with
                        | none => exact run_append_nil w t ty e ti z h1 i1 i4 ⟨L2.B, off2, none⟩ (m' + 1) cap2 news' nlen' n3' (by omega) (by omega) (by rw [i3]; omega)
                        | some ad =>
                          have := run_append_grow w t ty e ti z h1 i1 i4 ad 0 0 [] (by simp) (fun j v hj => by simp at hj) ⟨L2.B, off2, none⟩ (m' + 1) cap2 news' nlen' n3' (by omega) (by omega) (growslice_fits (by omega) (by rw [i3, Nat.zero_add]; omega))
                          simpa using this
                      refine ⟨_, _, hgr, ?_⟩
                      have hcap : m' + 1 ≤ grownCap w (m' + 1) 0 e := by unfold grownCap Question.cut; exact Nat.le_add_right _ _
                      have hzc : z.cells.size = i.size := by rw [← hi.len, ← i5]; simp
                      rw [Nat.zero_add] at h
                      refine newSlice B g (D := news'.toArray ++ Builtin.zeroCells z.cells (grownCap w (m' + 1) 0 e - (m' + 1))) (e := e) ?_ ?_ nfl hcap ?_ (by exact rfl) (by exact rfl) hK h
                      · simp only [Array.toList_append]
                        rw [List.take_append_of_le_length (by rw [n2.length]; simp), n2.length, List.take_of_length_le (Nat.le_refl _)]
                        exact n2
                      · rw [n2.length]; simp
                      · simp only [Array.size_append, List.size_toArray, nlen', i2, Builtin.zeroCells, Array.size_map, Array.size_range, hzc]
                        rw [← Nat.add_mul]
                        exact Nat.mul_le_mul_right _ (by omega)
                  · exact h.elim
              · exact h.elim
      · exact h.elim
    · exact h.elim
  · exact h.elim

theorem run_flat (hr : HRel ρ own H w) {b o n : Nat} {l : List Value} {L : Loc} (hL : ρ b = some L) (h : H.run? b o n = some l) : ∀ v ∈ l, flatV v = true := fun v hv => by
  obtain ⟨j, hj⟩ := List.getElem?_of_mem hv
  unfold Heap.run? at h
  split at h
  · rename_i csx eszx rwx hbx
    split at h
    · cases h
      obtain ⟨_, _, _, _, _, _, _, f5, _⟩ := hr.cells b L csx eszx rwx hbx hL
      rw [List.getElem?_take] at hj
      split at hj
      · rw [List.getElem?_drop] at hj; exact (f5 _ _ hj).1
      · cases hj
    · cases h
  · cases h

theorem copyF_sound (hT : TOK P T) (hn0 : NoPriv own0) (B : BW π ρ own bx H w) (g : Guar ρ0 own0 w0 ρ own w) {η : Operand → Option Value} {t u ty : TypeId} {d x : Operand} {d' x' : Value} (hd : ∀ v, η d = some v → TRel π ρ v d') (hx : ∀ v, η x = some v → TRel π ρ v x')
    {K : Option Value → List (List Value) → Heap → Prop} {R : Value → World → Prop} (hK : EffK π ρ ρ0 own0 w0 K R) (h : copyF T H bx η t u d x K) :
    ∃ v' w', (Builtin.copy_ #[t, u] ty #[d', x']).run P w = .ok v' w' ∧ R v' w' := by
  unfold copyF at h
  split at h
  · rename_i b o n c1 b2 o2 m c2 hTt hTu hd0 hx0
    split at h
    · rename_i i hTe
      obtain ⟨news, hnews, ⟨cs, esz, hb, hfit⟩, h⟩ := h
      obtain ⟨dd, h1, _, rfl⟩ := (hT _ _ hTt).und
      have hi := hT _ _ hTe
      have hd1 := hd _ hd0
      have hx1 := hx _ hx0
      cases hd1 with
      | pub hd1 => cases hx1 with
        | pub hx1 => cases hd1 with
          | @slice _ _ _ off cap L hL q1 q2 q3 => cases hx1 with
            | @slice _ _ _ off2 cap2 L2 hL2 k1 k2 k3 =>
              obtain ⟨news', n1, n2, n3⟩ := B.hrel.run hnews hL2
              have nfl := run_flat B.hrel hL2 hnews
              obtain ⟨f1, D, Te, fz, f2, f3, f4, f5, f6, f7⟩ := B.hrel.cells b L cs esz true hb hL
              have f3 := f3 rfl
              obtain ⟨rfl, hown⟩ := f6 rfl
              have nlen : news.length = Nat.min m n * i.size := by rw [n2.length, n1]
              by_cases h0 : Nat.min m n = 0
              · have hnil : news = [] := by rw [h0] at nlen; simpa using nlen
                have hw : H.stor b o news = H.put b (.cells cs esz true) := by
                  simp only [Heap.stor_put hb, hnil, overL]
                  simp
                refine ⟨.int .i64 (Nat.min m n : Nat), w, ?_, hK _ _ _ π _ _ _ _ h (.pub (.int _ _)) ?_ (Rho.le_refl _) ⟨[], by simp⟩ g⟩
                · simp only [Builtin.copy_, List.getElem?_toArray, List.getElem?_cons_zero, List.getElem?_cons_succ, Sem.run_bind, run_underlying' h1, Result.andThen_ok, Builtin.lenOf, Sem.run_pure, hi.sizeOf, h0]
                  rw [run_firstCells_some w i.size 0 ⟨L2.B, off2, none⟩ m cap2 [] (by simp) (by simp)]
                  simp [storeCells]
                  rfl
                · rw [hw]
                  refine ⟨⟨B.hrel.lt, fun y L' cs' esz' rw_ g1 g2 => B.hrel.cells y L' cs' esz' rw_ ?_ g2, fun y L' kk es g1 g2 => B.hrel.maps y L' kk es ?_ g2⟩, B.len, B.box⟩
                  · simp only [Heap.put] at g1
                    split at g1
                    · rename_i hy
                      subst hy
                      rw [if_pos (H.lt _ _ hb)] at g1
                      rw [hb]; exact g1
                    · exact g1
                  · simp only [Heap.put] at g1
                    split at g1
                    · rename_i hy
                      subst hy
                      rw [if_pos (H.lt _ _ hb)] at g1
                      rw [hb]; exact g1
                    · exact g1
              · have hmn : Nat.min m n ≤ m := Nat.min_le_left _ _
                have hmn2 : Nat.min m n ≤ n := Nat.min_le_right _ _
                have ho2 : off2 = L2.o + o2 := by rcases k1 with k1 | k1 <;> omega
                have ho : off = L.o + o := by rcases q1 with q1 | q1 <;> omega
                have n3' : ∀ j v, news'[j]? = some v → w.cell? ((⟨L2.B, off2, none⟩ : Addr).add j) = some v := fun j v hj => by rw [add_mk, ho2]; exact n3 j v hj
                have hst := run_storeCells_at P L.B off Te news' 0 D w f2 (by rw [n1, f3]; omega) (rel_oneCell n2 nfl)
                have hf := run_firstCells_some (P := P) w i.size (Nat.min m n) ⟨L2.B, off2, none⟩ m cap2 news' n1 n3'
                refine ⟨.int .i64 (Nat.min m n : Nat), w.setRow L.B (overL D.toList (L.o + o) news').toArray, ?_, ?_⟩
                · simp only [Builtin.copy_, List.getElem?_toArray, List.getElem?_cons_zero, List.getElem?_cons_succ, Sem.run_bind, run_underlying' h1, Result.andThen_ok, Builtin.lenOf, Sem.run_pure, hi.sizeOf, hf]
                  rw [show (storeCells ⟨L.B, off, none⟩ news').run P w = _ from hst]
                  simp [overL, goInt, ho]
                · refine hK _ _ _ _ _ _ _ _ h (.pub (.int _ _)) (B.stor (D := D) (T := Te) hb hL (by rw [nlen]; exact hfit) n2 nfl f2 (setRow_heap w L.B D _ Te _ f2) (fun y hy => setRow_other w L.B y _ hy)) (Rho.le_refl _) ⟨[], by simp⟩ ?_
                  exact g.set hn0 (Rho.le_refl _) (.inl ⟨b, hown⟩) (setRow_size w L.B _) rfl (fun y hy => setRow_other w L.B y _ hy) (fun _ _ => rfl)
    · exact h.elim
  · exact h.elim

theorem makeMap_sound (hT : TOK P T) (B : BW π ρ own bx H w) (g : Guar ρ0 own0 w0 ρ own w) {t : TypeId} {kk : KK} {z : Value} {sz by_ : Nat} {ag : Bool} {zz : List Value} (hi : T t = some ⟨sz, by_, ag, .map kk z, zz⟩) {K : Option Value → List (List Value) → Heap → Prop} {R : Value → World → Prop} (hK : EffK π ρ ρ0 own0 w0 K R)
    (h : K (some (.map (some H.next))) bx (H.push (.map kk []))) : ∃ v' w', (Instr.makeMap t none).run P w = .ok v' w' ∧ R v' w' := by
  refine ⟨.map (some w.heap.size), { w with heap := w.heap.push (.map #[] 0) }, ?_, ?_⟩
  · simp [Instr.makeMap, newObj, Sem.run]
  · refine hK _ _ _ _ _ _ _ _ h (.pub (.map (L := ⟨w.heap.size, 0, 0, 0⟩) (by simp [updR]))) (B.pushMap (kk := kk) (ob := .map #[] 0) (es := []) trivial rfl) (le_updR B _) ⟨[], by simp⟩ (g.push (le_updR B _) _ rfl rfl)
theorem mapUpdate_sound (hT : TOK P T) (hn0 : NoPriv own0) (B : BW π ρ own bx H w) (g : Guar ρ0 own0 w0 ρ own w) {t : TypeId} {kk : KK} {z : Value} {sz by_ : Nat} {ag : Bool} {zz : List Value} (hi : T t = some ⟨sz, by_, ag, .map kk z, zz⟩)
    {b : Nat} {m' kv k' v v' : Value} (hm : TRel π ρ (.map (some b)) m') (hk : TRel π ρ kv k') (hv : VRel ρ v v') (hf : fitK kk kv = true) {es : List (Value × Value)} (hb : H.blk b = some (.map kk es))
    {K : Option Value → List (List Value) → Heap → Prop} {R : Value → World → Prop} (hK : EffK π ρ ρ0 own0 w0 K R) (h : K none bx (H.put b (.map kk (mset es kv v)))) : ∃ w', (Instr.mapUpdate t m' k' v').run P w = .ok () w' ∧ R (.tuple #[]) w' := by
  obtain ⟨d, h1, _, hz, kt, e, ti, rfl, hKk, h2, h3⟩ := (hT _ _ hi).und
  obtain rfl := fitK_same hf hk
  cases hm with
  | pub hm => cases hm with
    | @map _ L hL =>
      have hki : kk ≠ .iter := fun e => by rw [e] at hf; simp [fitK] at hf
      obtain ⟨hown, C, ck, h4, h5⟩ := (B.hrel.maps b L kk es hb hL).map hki
      have hfind := findKey_run hKk hf w C.toList h5.fits
      have hchk := hKk.chk false k' w hf
      have hlt : L.B < w.heap.size := lt_of_some h4
      have set1 : ∀ o : Obj, (w.heap.setIfInBounds L.B o)[L.B]? = some o := fun o => by simp [Array.getElem?_setIfInBounds, hlt]
      have set2 : ∀ (o : Obj) x, x ≠ L.B → (w.heap.setIfInBounds L.B o)[x]? = w.heap[x]? := fun o x hx => by rw [Array.getElem?_setIfInBounds_ne (Ne.symm hx)]
      have done : ∀ (C' : Array MapEntry) (ck' : Nat), MRel ρ kk (mset es k' v) C'.toList → R (.tuple #[]) { w with heap := w.heap.setIfInBounds L.B (.map C' ck') } := fun C' ck' hm => by
        refine hK _ _ _ _ _ _ _ _ h rfl (B.setMap (ob := .map C' ck') hb hL hm (set1 _) (fun x hx => set2 _ x hx)) (Rho.le_refl _) ⟨[], by simp⟩ ?_
        exact g.set hn0 (Rho.le_refl _) (.inl ⟨b, hown⟩) (by simp) rfl (fun x hx => set2 _ x hx) (fun _ _ => rfl)
      rcases h5.find hf 0 with ⟨a, _, c⟩ | ⟨j, u, u', en, a, _, _, d1, d2, d3, c⟩
      · rw [a] at hfind
        refine ⟨{ w with heap := w.heap.setIfInBounds L.B (.map (C.push ⟨k', v', ck⟩) (ck + 1)) }, ?_, done _ _ (by rw [Array.toList_push]; exact c _ _ _ hv)⟩
        simp only [Instr.mapUpdate, Sem.run_bind, run_underlying' h1, Result.andThen_ok, MapKept.run_getObj_map h4, hchk, hfind, MapKept.run_setObj_map _ h4]
      · rw [a] at hfind
        simp only [Nat.zero_add] at hfind
        have hje : C[j]? = some en := by simpa using d1
        refine ⟨{ w with heap := w.heap.setIfInBounds L.B (.map (C.modify j fun e => { e with key := k', val := v' }) ck) }, ?_, done _ _ (by rw [Array.toList_modify]; exact c _ _ hv)⟩
        simp only [Instr.mapUpdate, Sem.run_bind, run_underlying' h1, Result.andThen_ok, MapKept.run_getObj_map h4, hchk, hfind, hje, Option.map_some, Option.getD_some, same_key hf d3 d2, MapKept.run_setObj_map _ h4]
/-- A new iterator over a string. -/
theorem range_sound (hT : TOK P T) (B : BW π ρ own bx H w) (g : Guar ρ0 own0 w0 ρ own w) {t : TypeId} {sz by_ : Nat} {ag : Bool} {zz : List Value} (hi : T t = some ⟨sz, by_, ag, .string, zz⟩) {s : ByteArray} {x' : Value} (hx : TRel π ρ (.string s) x') {K : Option Value → List (List Value) → Heap → Prop} {R : Value → World → Prop} (hK : EffK π ρ ρ0 own0 w0 K R)
    (h : K (some (.pointer (some ⟨H.next, 0, none⟩))) bx (H.push (.map .iter [(.string s, .int .i64 ((0 : Nat) : Int))]))) : ∃ v' w', (Instr.range t x').run P w = .ok v' w' ∧ R v' w' := by
  obtain ⟨d, h1, _, rfl⟩ := (hT _ _ hi).und
  cases hx with
  | pub hx =>
    cases hx
    refine ⟨.pointer (some ⟨w.heap.size, 0, none⟩), { w with heap := w.heap.push (.stringIter s 0) }, ?_, ?_⟩
    · simp only [Instr.range, Sem.run_bind, run_underlying' h1, Result.andThen_ok, Sem.run_pure]
      simp [newObj, Sem.run]
    · refine hK _ _ _ _ _ _ _ _ h (.pub (.ptr (L := ⟨w.heap.size, 0, 0, 0⟩) (by simp [updR]))) (B.pushMap (kk := .iter) (ob := .stringIter s 0) (es := [(.string s, .int .i64 ((0 : Nat) : Int))]) ⟨rfl, rfl⟩ rfl) (le_updR B _) ⟨[], by simp⟩ (g.push (le_updR B _) _ rfl rfl)
/-- A string's next. -/
theorem next_sound (hn0 : NoPriv own0) (B : BW π ρ own bx H w) (g : Guar ρ0 own0 w0 ρ own w) {ty : TypeId} {b p : Nat} {s : ByteArray} {x' : Value} (hx : TRel π ρ (.pointer (some ⟨b, 0, none⟩)) x') (hb : H.blk b = some (.map .iter [(.string s, .int .i64 (p : Int))])) {K : Option Value → List (List Value) → Heap → Prop} {R : Value → World → Prop} (hK : EffK π ρ ρ0 own0 w0 K R)
    (h1 : p < s.size → K (some (.tuple #[.bool true, .int .i64 (p : Int), .int .i32 ((Utf8.decode s p).1 : Int)])) bx (H.put b (.map .iter [(.string s, .int .i64 ((p + (Utf8.decode s p).2 : Nat) : Int))])))
    (h2 : ¬ p < s.size → K (some (.tuple #[.bool false])) bx H) : ∃ v' w', (Instr.next x' true ty).run P w = .ok v' w' ∧ R v' w' := by
  cases hx with
  | pub hx => cases hx with
    | @ptr _ _ L hL =>
      have hM := B.hrel.maps b L .iter _ hb hL
      obtain ⟨hown, h4, h0⟩ := hM.iter
      have hlt := hM.lt
      by_cases hp : p < s.size
      · refine ⟨.tuple #[.bool true, .int .i64 (p : Int), .int .i32 ((Utf8.decode s p).1 : Int)], { w with heap := w.heap.setIfInBounds L.B (.stringIter s (p + (Utf8.decode s p).2)) }, ?_, ?_⟩
        · have e0 : L.o + 0 = 0 := by omega
          simp only [Instr.next, e0, Sem.run_bind, show (getObj L.B).run P w = .ok (.stringIter s p) w from (by simp [getObj, Sem.run, h4]), Result.andThen_ok, if_pos hp]
          simp [Sem.run_bind, setObj, Sem.run, h4, goInt]
        · have set1 : (w.heap.setIfInBounds L.B (.stringIter s (p + (Utf8.decode s p).2)))[L.B]? = some (.stringIter s (p + (Utf8.decode s p).2)) := by simp [Array.getElem?_setIfInBounds, hlt]
          have set2 : ∀ x, x ≠ L.B → (w.heap.setIfInBounds L.B (.stringIter s (p + (Utf8.decode s p).2)))[x]? = w.heap[x]? := fun x hx => by rw [Array.getElem?_setIfInBounds_ne (Ne.symm hx)]
          refine hK _ _ _ _ _ _ _ _ (h1 hp) (.pub (.tuple (.cons (.bool _) (.cons (.int _ _) (.cons (.int _ _) .nil))))) (B.setMap (ob := .stringIter s (p + (Utf8.decode s p).2)) hb hL ⟨rfl, rfl⟩ set1 (fun x hx => set2 x hx)) (Rho.le_refl _) ⟨[], by simp⟩ ?_
          exact g.set hn0 (Rho.le_refl _) (.inl ⟨b, hown⟩) (by simp) rfl (fun x hx => set2 x hx) (fun _ _ => rfl)
      · refine ⟨.tuple #[.bool false], w, ?_, ?_⟩
        · have e0 : L.o + 0 = 0 := by omega
          simp only [Instr.next, e0, Sem.run_bind, show (getObj L.B).run P w = .ok (.stringIter s p) w from (by simp [getObj, Sem.run, h4]), Result.andThen_ok, if_neg hp]
          rfl
        · exact hK _ _ _ _ _ _ _ _ (h2 hp) (.pub (.tuple (.cons (.bool _) .nil))) B (Rho.le_refl _) ⟨[], by simp⟩ g
theorem bytesWorld_heap (w : World) (e : TypeId) (s : ByteArray) : (Go.Lib.bytesWorld w e s).heap = w.heap.push (.cells (Go.Lib.bytesCells w e s) e ((Go.Lib.bytesCells w e s).size, (Go.Lib.bytesCells w e s).size + 1)) := by
  apply Array.ext_getElem?
  intro j
  by_cases h1 : j < w.heap.size
  · rw [Go.Lib.bytesWorld_at_old w e s j h1, Array.getElem?_push, if_neg (by omega)]
  · by_cases h2 : j = w.heap.size
    · subst h2; rw [Go.Lib.bytesWorld_at_new, Array.getElem?_push, if_pos rfl]
    · rw [Array.getElem?_eq_none (by rw [Go.Lib.bytesWorld_size]; omega), Array.getElem?_eq_none (by rw [Array.size_push]; omega)]
theorem vrels_bytes (ρ : Rho) : ∀ l : List UInt8, VRels ρ (l.map fun b => Value.int .u8 (b.toNat : Int)) (l.map fun b => Value.int .u8 (b.toNat : Int))
  | [] => .nil
  | _ :: l => .cons (.int _ _) (vrels_bytes ρ l)
theorem strBytes_sound (hT : TOK P T) (hC : COK P C) (B : BW π ρ own bx H w) (g : Guar ρ0 own0 w0 ρ own w) {s d e : TypeId} {sz by_ : Nat} {ag : Bool} {zz : List Value} (hs : T s = some ⟨sz, by_, ag, .string, zz⟩) {sz2 by2 : Nat} {ag2 : Bool} {zz2 : List Value} (hd : T d = some ⟨sz2, by2, ag2, .slice e, zz2⟩) (he : C e = .int .u8)
    {z : ByteArray} {x' : Value} (hx : TRel π ρ (.string z) x') {K : Option Value → List (List Value) → Heap → Prop} {R : Value → World → Prop} (hK : EffK π ρ ρ0 own0 w0 K R)
    (h : K (some (.slice (some ⟨H.next, 0, none⟩) z.size z.size)) bx (H.push (.cells (z.data.toList.map fun b => Value.int .u8 (b.toNat : Int)) 1 false))) : ∃ v' w', (convert s d x').run P w = .ok v' w' ∧ R v' w' := by
  obtain ⟨ds, h1, _, rfl⟩ := (hT _ _ hs).und
  obtain ⟨dd, h2, _, rfl⟩ := (hT _ _ hd).und
  have h3 := (hC e).1 _ he
  cases hx with
  | pub hx =>
    cases hx
    refine ⟨_, _, Go.Lib.run_convert_string_bytes w s d e z h1 h2 h3, ?_⟩
    have hcap : z.size ≤ grownCap w z.size 0 e := by unfold grownCap Question.cut; exact Nat.le_add_right _ _
    have hsz : (Go.Lib.bytesCells w e z).size = grownCap w z.size 0 e := by
      simp only [Go.Lib.bytesCells, Array.size_append, Array.size_map, Array.size_replicate]
      have : z.data.size = z.size := rfl
      omega
    have hlen : (z.data.toList.map fun b => Value.int .u8 (b.toNat : Int)).length = z.size := by simp
    refine hK _ _ _ _ _ _ _ _ h (.pub ?_) (B.pushHeapG (D := Go.Lib.bytesCells w e z) (esz := 1) (T := e) (r := false) (ow := .ro) (fun h => by cases h) (fun _ => rfl) ?_ ?_ ?_ (bytesWorld_heap w e z)) (le_updR B _) ⟨[], by simp⟩ (g.push (le_updR B _) _ (bytesWorld_heap w e z) rfl)
    · have hp : updR ρ H.next ⟨w.heap.size, 0, (Go.Lib.bytesCells w e z).size, 1⟩ H.next = some ⟨w.heap.size, 0, (Go.Lib.bytesCells w e z).size, 1⟩ := by simp [updR]
      exact .slice hp (.inr rfl) hcap (by simp; omega)
    · rw [hlen]
      have : (Go.Lib.bytesCells w e z).toList.take z.size = z.data.toList.map fun b => Value.int .u8 (b.toNat : Int) := by
        simp only [Go.Lib.bytesCells, Array.toList_append, Array.toList_map]
        rw [List.take_append_of_le_length (by rw [hlen]; exact Nat.le_refl _), List.take_of_length_le (by rw [hlen]; exact Nat.le_refl _)]
      rw [this]
      exact vrels_bytes ρ _
    · rw [hlen, hsz]; exact hcap
    · intro v hv
      obtain ⟨b, _, rfl⟩ := List.mem_map.1 hv
      rfl
/-- An operation that makes or writes memory. -/
theorem effF_sound {pv : Nat → Bool} (hT : TOK P T) (hC : COK P C) (hn0 : NoPriv own0) (B : BW π ρ own bx H w) (g : Guar ρ0 own0 w0 ρ own w) {η : Operand → Option Value} {o : Oper} (hη : ∀ x ∈ o.op.operands, ∀ v, η x = some v → TRel π ρ v (a.eval x))
    {K : Option Value → List (List Value) → Heap → Prop} {Qp : Value → Prop} {K' : Act → World → Prop} {Q' : Exit → Act → World → Prop} (hK : EffK π ρ ρ0 own0 w0 K (fun v' w' => K' (a.put o.dst v') w'))
    (hp : ∀ v v', Qp v → VRel ρ v v' → Q' (.panic [⟨v', false, false⟩]) a w) (h : effF T C pv H bx η o.dst o.op K Qp) : o.wp P a w K' Q' := by
  obtain ⟨dst, op, ty, pos, after, guard⟩ := o
  have val : ∀ (s : Sem Value), (∃ v' w', s.run P w = .ok v' w' ∧ K' (a.put dst v') w') → (⟨dst, op, ty, pos, after, guard⟩ : Oper).upon P a K' Q' ((do pure (Next.value (← s)) : Sem Next).run P w) := fun s ⟨v', w', e1, e2⟩ => by
    simp only [Sem.run_bind, e1, Result.andThen_ok, Sem.run_pure, Oper.upon]; exact e2
  have lq : ∀ x, x ∈ op.operands → ∀ v, η x = some v → TRel π ρ v (a.eval x) := hη
  unfold Oper.wp
  cases op <;> simp only [effF] at h <;> (try exact h.elim)
  case alloc t =>
    split at h
    · rename_i i d hTt
      exact val _ (alloc_sound hT B g hTt hK (by split at h; exact .inl h; exact .inr h))
    · exact h.elim
  case box t x =>
    split at h
    · rename_i i d v hTt hx
      split at h
      · rename_i hpub hf
        exact val _ (box_sound hT B g hTt (isPub_rel (lq x (by simp [Op.operands]) _ hx) hpub) hf hK (by split at h; exact .inl h; exact .inr h))
      · exact h.elim
    · exact h.elim
  case store t p x =>
    split at h
    · rename_i i k o' sp v hTt hp' hx
      split at h
      · rename_i hpub hl hf
        obtain ⟨w', e1, e2⟩ := store_sound hT hn0 B g hTt (lq p (by simp [Op.operands]) _ hp') (isPub_rel (lq x (by simp [Op.operands]) _ hx) hpub) hl hf hK (by
          split at h
          · split at h
            · rename_i cs hcs
              split at h
              · rename_i cs' hu
                exact .inl ⟨_, cs, cs', rfl, hcs, hu, h⟩
              · exact h.elim
            · exact h.elim
          · exact .inr ⟨rfl, h⟩)
        simp only [execOp, Sem.run_bind, e1, Result.andThen_ok, Sem.run_pure, Oper.upon]
        exact e2
      · exact h.elim
    · exact h.elim
  case buildSlice t n parts =>
    split at h
    · rename_i hTt
      split at h
      · rename_i i hTe
        split at h
        · rename_i cs h24 h0 hcs
          split at h
          · rename_i hf
            exact val _ (buildSlice_sound hT B g (hT _ _ hTt) hTe parts (fun x hx => lq x.2 (by simp only [Op.operands, List.mem_toArray, List.mem_map]; exact ⟨x, by simpa using hx, rfl⟩)) (Nat.ble_eq ▸ h24) (Nat.blt_eq ▸ h0) hcs hf hK h)
          · exact h.elim
        · exact h.elim
      · exact h.elim
    · exact h.elim
  case binOp op t x y u =>
    split at h
    · rename_i hn hTt hx
      obtain ⟨d, g1, _, g3⟩ := (hT _ _ hTt).und
      subst g3
      have hy : a.eval y = .slice none 0 0 := by
        unfold isNilS at hn
        split at hn
        · rfl
        · cases hn
      have hx' := lq x (by simp [Op.operands]) _ hx
      have hsl : ∃ q, a.eval x = .slice q 0 0 := by
        generalize a.eval x = z at hx'
        cases hx' with
        | pub hx' => cases hx'; exact ⟨_, rfl⟩
      obtain ⟨q, hq⟩ := hsl
      have hrun : ∀ r : Bool, K (some (.bool r)) bx H → K' (a.put dst (.bool r)) w := fun r k => hK _ _ _ π ρ own _ w k (.pub (.bool r)) B (Rho.le_refl _) ⟨[], by simp⟩ g
      have hall : ∀ r : Bool, K' (a.put dst (.bool r)) w := by
        have h' : K (some (.bool true)) bx H ∧ K (some (.bool false)) bx H := by
          split at h
          · exact h
          · exact h
          · exact h.elim
        intro r
        cases r
        · exact hrun _ h'.2
        · exact hrun _ h'.1
      split at h
      · refine val _ ⟨.bool q.isNone, w, ?_, hall _⟩
        show (binRun .eql t x y (a.eval x) (a.eval y)).run P w = _
        rw [hq, hy, binRun_plain _ t x y _ _ (by simp) (by simp)]
        simp only [binOp, Sem.run_bind, equal_nil g1, Result.andThen_ok, Sem.run_pure]
      · refine val _ ⟨.bool !q.isNone, w, ?_, hall _⟩
        show (binRun .neq t x y (a.eval x) (a.eval y)).run P w = _
        rw [hq, hy, binRun_plain _ t x y _ _ (by simp) (by simp)]
        simp only [binOp, Sem.run_bind, equal_nil g1, Result.andThen_ok, Sem.run_pure]
      · exact h.elim
    · exact h.elim
  case makeMap t r =>
    cases r with
    | some x => exact h.elim
    | none =>
      simp only at h
      split at h
      · rename_i hTt
        exact val _ (makeMap_sound hT B g hTt hK h)
      · exact h.elim
  case mapUpdate t m k x =>
    split at h
    · rename_i kk z zz b kv v hTt hm hkv hx
      split at h
      · rename_i hpub hf
        obtain ⟨es, hb, h⟩ := h
        obtain ⟨w', e1, e2⟩ := mapUpdate_sound hT hn0 B g hTt (lq m (by simp [Op.operands]) _ hm) (lq k (by simp [Op.operands]) _ hkv) (isPub_rel (lq x (by simp [Op.operands]) _ hx) hpub) hf hb hK h
        simp only [execOp, Sem.run_bind, e1, Result.andThen_ok, Sem.run_pure, Oper.upon]
        exact e2
      · exact h.elim
    · exact h.elim
  case insert t m k x =>
    split at h
    · rename_i kk z zz b kv v hTt hm hkv hx
      split at h
      · rename_i hpub hf
        obtain ⟨es, hb, h⟩ := h
        obtain ⟨w', e1, e2⟩ := mapUpdate_sound hT hn0 B g hTt (lq m (by simp [Op.operands]) _ hm) (lq k (by simp [Op.operands]) _ hkv) (isPub_rel (lq x (by simp [Op.operands]) _ hx) hpub) hf hb hK h
        simp only [execOp, Sem.run_bind, e1, Result.andThen_ok, Sem.run_pure, Oper.upon]
        exact e2
      · exact h.elim
    · exact h.elim
  case makeSlice t l c =>
    split at h
    · rename_i hTt hl hc
      split at h
      · rename_i i hTe
        split at h
        · rename_i h0
          obtain ⟨hn, h⟩ := h
          have hl' := lq l (by simp [Op.operands]) _ hl
          have hc' := lq c (by simp [Op.operands]) _ hc
          refine val _ ?_
          generalize a.eval l = yl at hl'
          generalize a.eval c = yc at hc'
          cases hl' with
          | pub hl' => cases hl'; cases hc' with
            | pub hc' => cases hc'; exact makeSlice_sound hT B g (hT _ _ hTt) hTe (Nat.blt_eq ▸ h0) hn hK h
        · exact h.elim
      · exact h.elim
    · exact h.elim
  case call c =>
    obtain ⟨callee, as_, ts⟩ := c
    split at h
    · rename_i b hb
      simp only at hb
      subst hb
      split at h
      · rename_i s x t u ha ht
        have ha' : as_ = #[s, x] := Array.ext' ha
        have ht' : ts = #[t, u] := Array.ext' ht
        subst ha'; subst ht'
        obtain ⟨v', w', e1, e2⟩ := appF_sound (P := P) (ty := ty) hT hn0 B g (s' := a.eval s) (x' := a.eval x) (fun v hv => lq s (by simp [Op.operands, Call.operands]) v hv) (fun v hv => lq x (by simp [Op.operands, Call.operands]) v hv) hK h
        simp only [execOp, resolve, List.map_toArray, List.map_cons, List.map_nil, pure_bind, invoke, builtin, Sem.run_bind, e1, Result.andThen_ok, Sem.run_pure, Oper.upon]
        exact e2
      · rename_i d x t u ha ht
        have ha' : as_ = #[d, x] := Array.ext' ha
        have ht' : ts = #[t, u] := Array.ext' ht
        subst ha'; subst ht'
        obtain ⟨v', w', e1, e2⟩ := copyF_sound (P := P) (ty := ty) hT hn0 B g (d' := a.eval d) (x' := a.eval x) (fun v hv => lq d (by simp [Op.operands, Call.operands]) v hv) (fun v hv => lq x (by simp [Op.operands, Call.operands]) v hv) hK h
        simp only [execOp, resolve, List.map_toArray, List.map_cons, List.map_nil, pure_bind, invoke, builtin, Sem.run_bind, e1, Result.andThen_ok, Sem.run_pure, Oper.upon]
        exact e2
      · exact h.elim
    · exact h.elim
  case convert s d x =>
    split at h
    · rename_i e zz z hs hd hx
      split at h
      · rename_i he
        exact val _ (strBytes_sound hT hC B g hs hd he (lq x (by simp [Op.operands]) _ hx) hK h)
      · exact h.elim
    · exact h.elim
  case range t x =>
    split at h
    · rename_i s hTt hx
      exact val _ (range_sound hT B g hTt (lq x (by simp [Op.operands]) _ hx) hK h)
    · exact h.elim
  case next x str =>
    cases str with
    | false => exact h.elim
    | true =>
      simp only at h
      split at h
      · rename_i b hx
        obtain ⟨s, p, hb, h1, h2⟩ := h
        exact val _ (next_sound hn0 B g (lq x (by simp [Op.operands]) _ hx) hb hK h1 h2)
      · exact h.elim
  case panic x =>
    split at h
    · rename_i t u hx
      have hx' := lq x (by simp [Op.operands]) _ hx
      generalize hy : a.eval x = y at hx'
      cases hx' with
      | pub hx' =>
        cases hx' with
        | iface _ hu =>
          simp only [execOp, hy, Instr.panic, Sem.run_bind, run_goPanic, Result.andThen_halt, Oper.upon]
          exact hp _ _ h (.iface t hu)
    · exact h.elim
end
end Go.Am
