/- The abstract machine: the keys of maps. Conditions: the program's own types are what 'keyB' looks at. -/
import Derived.Test.YtajcbdamgaofcaaDoorAmWp
set_option linter.unusedVariables false
set_option linter.unusedSimpArgs false
namespace Go.Am

/-- What must hold of a map's key type. -/
structure KeyOK (P : Program) (kt : TypeId) (kk : KK) : Prop where
  chk : ∀ e v w, fitK kk v = true → (Instr.checkKey e 10000 kt v).run P w = .ok () w
  eq : ∀ u v w, fitK kk u = true → fitK kk v = true → (Op.equal kt u v).run P w = .ok (kEq u v) w
  now : ∃ d, P.underlying kt = some d ∧ ∀ u v, fitK kk u = true → fitK kk v = true → Instr.sameNow d u v = none ∨ Instr.sameNow d u v = some (kEq u v)

def basicB (P : Program) (t : TypeId) (b : KB) : Bool :=
  match P.underlying t, b with
  | some (.int k), .int k' => decide (k = k')
  | some .string, .str => true
  | _, _ => false
def fldsB (P : Program) : Nat → List Field → List KB → Bool
  | _, [], [] => true
  | i, f :: fs, b :: bs => basicB P f.type b && decide (f.offset = i) && (f.name != "_") && fldsB P (i + 1) fs bs
  | _, _, _ => false
def keyB (P : Program) (kt : TypeId) (kk : KK) : Bool :=
  match kk with
  | .one b => basicB P kt b
  | .rcd bs => (match P.underlying kt with
    | some (.struct fs) => fldsB P 0 fs.toList bs && !P.stoodInHeld kt
    | _ => false)
  | .iter => false

section
variable {P : Program}
theorem run_und {t : TypeId} {d : TypeDesc} (h : P.underlying t = some d) (w : World) : (underlying t).run P w = .ok d w := by
  simp [underlying, h]
theorem basicB_spec {t : TypeId} {b : KB} (h : basicB P t b = true) : (∃ k, b = .int k ∧ P.underlying t = some (.int k)) ∨ (b = .str ∧ P.underlying t = some .string) := by
  unfold basicB at h
  split at h
  · rename_i k k' h1; simp at h; subst h; exact .inl ⟨_, rfl, h1⟩
  · rename_i h1; exact .inr ⟨rfl, h1⟩
  · cases h
theorem fitB_spec {b : KB} {v : Value} (h : fitB b v = true) : (∃ k n, b = .int k ∧ v = .int k n) ∨ (∃ s, b = .str ∧ v = .string s) := by
  unfold fitB at h
  split at h
  · simp at h; subst h; exact .inl ⟨_, _, rfl, rfl⟩
  · exact .inr ⟨_, rfl, rfl⟩
  · cases h
theorem basic_eq {t : TypeId} {b : KB} (h : basicB P t b = true) {u v : Value} (hu : fitB b u = true) (hv : fitB b v = true) (d : Nat) (w : World) : (Op.equalIn (d + 1) t u v).run P w = .ok (kEq1 u v) w := by
  rw [Op.equalIn]
  rcases basicB_spec h with ⟨k, rfl, h1⟩ | ⟨rfl, h1⟩
  · rcases fitB_spec hu with ⟨_, n, e, rfl⟩ | ⟨_, e, _⟩ <;> cases e
    rcases fitB_spec hv with ⟨_, m, e, rfl⟩ | ⟨_, e, _⟩ <;> cases e
    simp only [Sem.run_bind, run_und h1, Result.andThen_ok, if_true, Sem.run_pure, kEq1]
  · rcases fitB_spec hu with ⟨_, _, e, _⟩ | ⟨s, e, rfl⟩ <;> cases e
    rcases fitB_spec hv with ⟨_, _, e, _⟩ | ⟨s', e, rfl⟩ <;> cases e
    simp only [Sem.run_bind, run_und h1, Result.andThen_ok, Sem.run_pure, kEq1]
theorem basic_chk {t : TypeId} {b : KB} (h : basicB P t b = true) {v : Value} (hv : fitB b v = true) (e : Bool) (d : Nat) (w : World) : (Instr.checkKey e (d + 1) t v).run P w = .ok () w := by
  rw [Instr.checkKey]
  rcases basicB_spec h with ⟨k, rfl, h1⟩ | ⟨rfl, h1⟩
  · rcases fitB_spec hv with ⟨_, m, e, rfl⟩ | ⟨_, e, _⟩ <;> cases e
    simp only [Sem.run_bind, run_und h1, Result.andThen_ok, Sem.run_pure]
  · rcases fitB_spec hv with ⟨_, _, e, _⟩ | ⟨s', e, rfl⟩ <;> cases e
    simp only [Sem.run_bind, run_und h1, Result.andThen_ok, Sem.run_pure]
theorem basic_part {t : TypeId} {b : KB} (h : basicB P t b = true) {cs : Array Value} {i : Nat} {v : Value} (hv : cs[i]? = some v) (w : World) : (part t cs i).run P w = .ok v w := by
  have : (isAgg t).run P w = .ok false w := by
    rcases basicB_spec h with ⟨k, _, h1⟩ | ⟨_, h1⟩ <;> simp only [isAgg, Sem.run_bind, run_und h1, Result.andThen_ok] <;> rfl
  simp only [part, Sem.run_bind, this, Result.andThen_ok, hv]
  rfl
theorem fitL_get : ∀ {bs : List KB} {vs : List Value}, fitL bs vs = true → bs.length = vs.length
  | [], [], _ => rfl
  | [], _ :: _, h => by simp [fitL] at h
  | _ :: _, [], h => by simp [fitL] at h
  | b :: bs, v :: vs, h => by
    unfold fitL at h
    split at h
    · simp [fitL_get h]
    · cases h
theorem fitL_cons {b : KB} {bs : List KB} {vs : List Value} (h : fitL (b :: bs) vs = true) : ∃ v r, vs = v :: r ∧ fitB b v = true ∧ fitL bs r = true := by
  cases vs with
  | nil => simp [fitL] at h
  | cons v r =>
    unfold fitL at h
    split at h
    · rename_i h1; exact ⟨v, r, rfl, h1, h⟩
    · cases h
theorem flds_chk (e : Bool) (d : Nat) (w : World) : ∀ (fs : List Field) (bs : List KB) (i : Nat) (cs : Array Value), fldsB P i fs bs = true → fitL bs (cs.toList.drop i) = true →
    Sem.run P (forIn fs PUnit.unit fun f _ =>
      if f.name ≠ "_" then do
        let x ← part f.type cs f.offset
        Instr.checkKey e (d + 1) f.type x
        pure (ForInStep.yield PUnit.unit)
      else pure (ForInStep.yield PUnit.unit)) w = .ok PUnit.unit w
  | [], [], i, cs, _, _ => by simp
  | [], _ :: _, _, _, h, _ => by simp [fldsB] at h
  | _ :: _, [], _, _, h, _ => by simp [fldsB] at h
  | f :: fs, b :: bs, i, cs, h, hf => by
    simp only [fldsB, Bool.and_eq_true, decide_eq_true_eq, bne_iff_ne, ne_eq] at h
    obtain ⟨⟨⟨h1, h2⟩, h3⟩, h4⟩ := h
    obtain ⟨v, r, hd, hv, hr⟩ := fitL_cons hf
    have hget : cs[i]? = some v := by
      have : (cs.toList.drop i)[0]? = some v := by rw [hd]; rfl
      rw [List.getElem?_drop] at this
      simpa using this
    have hr' : cs.toList.drop (i + 1) = r := by
      have := congrArg List.tail hd
      simpa [List.tail_drop] using this
    have IH := flds_chk e d w fs bs (i + 1) cs h4 (by rw [hr']; exact hr)
    subst h2
    simp only [List.forIn_cons, Sem.run_bind, h3, ne_eq, not_false_eq_true, if_true, Result.andThen_ok, basic_part h1 hget, basic_chk h1 hv, Sem.run_pure]
    exact IH
def eqStep (d : Nat) (cs cs' : Array Value) (f : Field) : Sem (ForInStep (Option Bool × Unit)) :=
  if f.name ≠ "_" then do
    let x ← part f.type cs f.offset
    let y ← part f.type cs' f.offset
    let z ← Op.equalIn (d + 1) f.type x y
    if (!z) = true then pure (ForInStep.done (some false, ())) else pure (ForInStep.yield (none, ()))
  else pure (ForInStep.yield (none, ()))
theorem flds_eq (d : Nat) (w : World) : ∀ (fs : List Field) (bs : List KB) (i : Nat) (cs cs' : Array Value), fldsB P i fs bs = true → fitL bs (cs.toList.drop i) = true → fitL bs (cs'.toList.drop i) = true →
    Sem.run P (forIn fs ((none, ()) : Option Bool × Unit) fun f _ => eqStep d cs cs' f) w = .ok ((if kEqL (cs.toList.drop i) (cs'.toList.drop i) = true then none else some false), ()) w
  | [], [], i, cs, cs', _, h1, h2 => by
    have e1 := List.eq_nil_of_length_eq_zero (fitL_get h1).symm
    have e2 := List.eq_nil_of_length_eq_zero (fitL_get h2).symm
    rw [e1, e2]
    simp [kEqL]
  | [], _ :: _, _, _, _, h, _, _ => by simp [fldsB] at h
  | _ :: _, [], _, _, _, h, _, _ => by simp [fldsB] at h
  | f :: fs, b :: bs, i, cs, cs', h, hf, hf' => by
    simp only [fldsB, Bool.and_eq_true, decide_eq_true_eq, bne_iff_ne, ne_eq] at h
    obtain ⟨⟨⟨h1, h2⟩, h3⟩, h4⟩ := h
    have get : ∀ {cs : Array Value} {v : Value} {r : List Value}, cs.toList.drop i = v :: r → cs[i]? = some v ∧ cs.toList.drop (i + 1) = r := fun {cs v r} hd => by
      have q : (cs.toList.drop i)[0]? = some v := by rw [hd]; rfl
      rw [List.getElem?_drop] at q
      have q2 := congrArg List.tail hd
      exact ⟨by simpa using q, by simpa [List.tail_drop] using q2⟩
    obtain ⟨v, r, hd, hv, hr⟩ := fitL_cons hf
    obtain ⟨v', r', hd', hv', hr'⟩ := fitL_cons hf'
    obtain ⟨g1, g2⟩ := get hd
    obtain ⟨g1', g2'⟩ := get hd'
    have IH := flds_eq d w fs bs (i + 1) cs cs' h4 (by rw [g2]; exact hr) (by rw [g2']; exact hr')
    subst h2
    rw [hd, hd']
    rw [g2, g2'] at IH
    simp only [List.forIn_cons, eqStep, Sem.run_bind, h3, ne_eq, not_false_eq_true, if_true, Result.andThen_ok, basic_part h1 g1, basic_part h1 g1', basic_eq h1 hv hv', Sem.run_pure]
    cases hq : kEq1 v v' with
    | true =>
      simp only [kEqL, hq, Bool.not_true, Bool.false_eq_true, if_false, Sem.run_pure, Result.andThen_ok]
      exact IH
    | false => simp [kEqL, hq]
theorem keyB_chk {kt : TypeId} {fs : Array Field} {bs : List KB} (h1 : P.underlying kt = some (.struct fs)) (h : fldsB P 0 fs.toList bs = true) {cs : Array Value} (hf : fitL bs cs.toList = true) (e : Bool) (w : World) : (Instr.checkKey e (9999 + 1) kt (.agg cs)).run P w = .ok () w := by
  rw [Instr.checkKey]
  simp only [Sem.run_bind, run_und h1, Result.andThen_ok]
  rw [← Array.forIn_toList, flds_chk e 9998 w fs.toList bs 0 cs h (by simpa using hf)]
  simp
theorem keyB_eq {kt : TypeId} {fs : Array Field} {bs : List KB} (h1 : P.underlying kt = some (.struct fs)) (h : fldsB P 0 fs.toList bs = true) (hs : P.stoodInHeld kt = false) {cs cs' : Array Value} (hf : fitL bs cs.toList = true) (hf' : fitL bs cs'.toList = true) (w : World) : (Op.equalIn (9999 + 1) kt (.agg cs) (.agg cs')).run P w = .ok (kEqL cs.toList cs'.toList) w := by
  rw [Op.equalIn]
  simp only [Sem.run_bind, run_und h1, Result.andThen_ok, run_program, hs, Bool.false_eq_true, if_false]
  rw [← Array.forIn_toList]
  have q := flds_eq 9998 w fs.toList bs 0 cs cs' h (by simpa using hf) (by simpa using hf')
  simp only [List.drop_zero] at q
  unfold eqStep at q
  rw [q]
  simp only [Result.andThen_ok]
  cases kEqL cs.toList cs'.toList <;> simp
theorem keyB_ok {kt : TypeId} {kk : KK} (h : keyB P kt kk = true) : KeyOK P kt kk := by
  unfold keyB at h
  split at h
  · rename_i b
    refine ⟨fun e v w hv => basic_chk h hv e 9999 w, fun u v w hu hv => ?_, ?_⟩
    · have hk : kEq u v = kEq1 u v := by
        rcases fitB_spec hu with ⟨k, n, _, rfl⟩ | ⟨s, _, rfl⟩ <;> rfl
      rw [hk]
      exact basic_eq h hu hv 9999 w
    · rcases basicB_spec h with ⟨k, rfl, h1⟩ | ⟨rfl, h1⟩
      · refine ⟨_, h1, fun u v hu hv => .inr ?_⟩
        rcases fitB_spec hu with ⟨_, n, e, rfl⟩ | ⟨_, e, _⟩ <;> cases e
        rcases fitB_spec hv with ⟨_, m, e, rfl⟩ | ⟨_, e, _⟩ <;> cases e
        simp [Instr.sameNow, kEq, kEq1]
      · refine ⟨_, h1, fun u v hu hv => .inr ?_⟩
        rcases fitB_spec hu with ⟨_, _, e, _⟩ | ⟨s, e, rfl⟩ <;> cases e
        rcases fitB_spec hv with ⟨_, _, e, _⟩ | ⟨s', e, rfl⟩ <;> cases e
        simp [Instr.sameNow, kEq, kEq1]
  · rename_i bs
    split at h
    · rename_i fs h1
      simp only [Bool.and_eq_true, Bool.not_eq_true'] at h
      obtain ⟨h2, h3⟩ := h
      have shape : ∀ {v : Value}, fitK (.rcd bs) v = true → ∃ cs, v = .agg cs ∧ fitL bs cs.toList = true := fun {v} hv => by
        cases v <;> simp only [fitK, Bool.false_eq_true] at hv
        exact ⟨_, rfl, hv⟩
      refine ⟨fun e v w hv => ?_, fun u v w hu hv => ?_, _, h1, fun u v hu hv => .inl rfl⟩
      · obtain ⟨cs, rfl, hf⟩ := shape hv
        exact keyB_chk h1 h2 hf e w
      · obtain ⟨cs, rfl, hf⟩ := shape hu
        obtain ⟨cs', rfl, hf'⟩ := shape hv
        exact keyB_eq h1 h2 h3 hf hf' w
    · cases h
  · cases h
theorem bytes_eq {a b : ByteArray} (h : (a == b) = true) : a = b := by
  obtain ⟨a⟩ := a; obtain ⟨b⟩ := b
  have : (a == b) = true := h
  simpa using this
theorem bytes_refl (a : ByteArray) : (a == a) = true := by
  obtain ⟨a⟩ := a
  show (a == a) = true
  simp
theorem same_basic {b : KB} {u v : Value} (hu : fitB b u = true) (hv : fitB b v = true) (h : kEq1 u v = true) (n : Nat) : Instr.sameBits n v u = true := by
  rcases fitB_spec hu with ⟨k, a, rfl, rfl⟩ | ⟨s, rfl, rfl⟩
  · rcases fitB_spec hv with ⟨_, m, e, rfl⟩ | ⟨_, e, _⟩ <;> cases e
    simp only [kEq1, beq_iff_eq] at h
    subst h
    cases n <;> simp [Instr.sameBits]
  · rcases fitB_spec hv with ⟨_, _, e, _⟩ | ⟨s', e, rfl⟩ <;> cases e
    obtain rfl := bytes_eq (show (s == s') = true from h)
    have := bytes_refl s
    cases n <;> exact this
theorem same_list (n : Nat) : ∀ {bs : List KB} {us vs : List Value}, fitL bs us = true → fitL bs vs = true → kEqL us vs = true → vs.length = us.length ∧ ((vs.zip us).all fun x => Instr.sameBits n x.1 x.2) = true
  | [], us, vs, h1, h2, _ => by
    have e1 := List.eq_nil_of_length_eq_zero (fitL_get h1).symm
    have e2 := List.eq_nil_of_length_eq_zero (fitL_get h2).symm
    subst e1; subst e2; simp
  | b :: bs, us, vs, h1, h2, h => by
    obtain ⟨u, r, rfl, k1, k2⟩ := fitL_cons h1
    obtain ⟨v, s, rfl, k3, k4⟩ := fitL_cons h2
    unfold kEqL at h
    split at h
    · rename_i hq
      obtain ⟨i1, i2⟩ := same_list n k2 k4 h
      exact ⟨by simp [i1], by simp only [List.zip_cons_cons, List.all_cons, Bool.and_eq_true]; exact ⟨same_basic k1 k3 hq n, i2⟩⟩
    · cases h
theorem same_key {kk : KK} {u v : Value} (hu : fitK kk u = true) (hv : fitK kk v = true) (h : kEq u v = true) (w : World) : (Instr.keyThatStays v u).run P w = .ok u w := by
  have : Instr.sameBits 10000 v u = true := by
    cases kk with
    | one b =>
      have hu : fitB b u = true := hu
      have hv : fitB b v = true := hv
      refine same_basic hu hv ?_ _
      rcases fitB_spec hu with ⟨k, n, _, rfl⟩ | ⟨s, _, rfl⟩ <;> exact h
    | rcd bs =>
      cases u <;> simp only [fitK, Bool.false_eq_true] at hu
      cases v <;> simp only [fitK, Bool.false_eq_true] at hv
      rename_i a c
      obtain ⟨i1, i2⟩ := same_list 9999 hu hv h
      show (c.size == a.size && (c.toList.zip a.toList).all fun (x, y) => Instr.sameBits 9999 x y) = true
      rw [Bool.and_eq_true]
      exact ⟨by simpa using i1, i2⟩
    | iter => simp [fitK] at hu
  simp [Instr.keyThatStays, this]
def findAt (k : Value) : List MapEntry → Nat → Option (Nat × Value)
  | [], _ => none
  | e :: es, i => (match kEq k e.key with | true => some (i, e.val) | false => findAt k es (i + 1))
theorem findAsking_run {kt : TypeId} {kk : KK} (hk : KeyOK P kt kk) {k : Value} (hf : fitK kk k = true) (w : World) : ∀ (l : List MapEntry) (i : Nat), (∀ e ∈ l, fitK kk e.key = true) → (Instr.findAsking kt k l i).run P w = .ok (findAt k l i) w
  | [], i, _ => by simp [Instr.findAsking, findAt]
  | e :: l, i, h => by
    have IH := findAsking_run hk hf w l (i + 1) (fun x hx => h x (by simp [hx]))
    simp only [Instr.findAsking, Sem.run_bind, hk.eq k e.key w hf (h e (by simp)), Result.andThen_ok, findAt]
    cases kEq k e.key with
    | true => simp
    | false => simpa using IH
theorem findNow_run {d : TypeDesc} {kk : KK} (hd : ∀ u v, fitK kk u = true → fitK kk v = true → Instr.sameNow d u v = none ∨ Instr.sameNow d u v = some (kEq u v)) {k : Value} (hf : fitK kk k = true) : ∀ (l : List MapEntry) (i : Nat), (∀ e ∈ l, fitK kk e.key = true) → Instr.findNow d k l i = none ∨ Instr.findNow d k l i = some (findAt k l i)
  | [], i, _ => .inr rfl
  | e :: l, i, h => by
    have IH := findNow_run hd hf l (i + 1) (fun x hx => h x (by simp [hx]))
    unfold Instr.findNow findAt
    rcases hd k e.key hf (h e (by simp)) with q | q
    · rw [q]; exact .inl rfl
    · rw [q]
      cases kEq k e.key with
      | true => exact .inr rfl
      | false => exact IH
theorem findKey_run {kt : TypeId} {kk : KK} (hk : KeyOK P kt kk) {k : Value} (hf : fitK kk k = true) (w : World) (l : List MapEntry) (h : ∀ e ∈ l, fitK kk e.key = true) : (Instr.findKey kt k l).run P w = .ok (findAt k l 0) w := by
  obtain ⟨d, h1, h2⟩ := hk.now
  simp only [Instr.findKey, Sem.run_bind, run_und h1, Result.andThen_ok]
  rcases findNow_run h2 hf l 0 h with q | q
  · rw [q]; exact findAsking_run hk hf w l 0 h
  · rw [q]; simp
theorem MRel.fits {ρ : Rho} {kk : KK} : ∀ {es : List (Value × Value)} {l : List MapEntry}, MRel ρ kk es l → ∀ e ∈ l, fitK kk e.key = true
  | [], [], _ => fun e h => by cases h
  | (_, _) :: _, x :: _, h => fun e he => by
    rcases List.mem_cons.1 he with rfl | he
    · rw [h.1]; exact h.2.1
    · exact MRel.fits h.2.2.2 e he
  | [], _ :: _, h => h.elim
  | _ :: _, [], h => h.elim
/-- What is found, and what is put in its place. -/
theorem MRel.find {ρ : Rho} {kk : KK} {k : Value} (hf : fitK kk k = true) : ∀ {es : List (Value × Value)} {l : List MapEntry} (i : Nat), MRel ρ kk es l →
    (findAt k l i = none ∧ mget es k = none ∧ ∀ u u' b, VRel ρ u u' → MRel ρ kk (mset es k u) (l ++ [⟨k, u', b⟩])) ∨
    (∃ j v v' e, findAt k l i = some (i + j, v') ∧ mget es k = some v ∧ VRel ρ v v' ∧ l[j]? = some e ∧ kEq k e.key = true ∧ fitK kk e.key = true ∧ ∀ u u', VRel ρ u u' → MRel ρ kk (mset es k u) (l.modify j fun e => { e with key := k, val := u' }))
  | [], [], i, _ => .inl ⟨rfl, rfl, fun u u' b h => ⟨rfl, hf, h, trivial⟩⟩
  | (x, v) :: es, e :: l, i, h => by
    obtain ⟨h1, h2, h3, h4⟩ := h
    unfold findAt mget mset
    rw [h1]
    cases hq : kEq k x with
    | true => exact .inr ⟨0, v, e.val, e, rfl, rfl, h3, rfl, by rw [h1]; exact hq, by rw [h1]; exact h2, fun u u' hu => ⟨rfl, hf, hu, h4⟩⟩
    | false =>
      rcases MRel.find hf (i + 1) h4 with ⟨a, b, c⟩ | ⟨j, v2, v2', e2, a, b, c, d, f, g, hh⟩
      · exact .inl ⟨a, b, fun u u' b hu => ⟨h1, h2, h3, c u u' b hu⟩⟩
      · exact .inr ⟨j + 1, v2, v2', e2, by simp only; rw [a]; congr 2; omega, b, c, by simpa using d, f, g, fun u u' hu => by
          have := hh u u' hu
          simpa [MRel, List.modify] using ⟨h1, h2, h3, this⟩⟩
  | [], _ :: _, _, h => h.elim
  | _ :: _, [], _, h => h.elim
end
end Go.Am
