/- The abstract machine: literals, and the theorem that collects the operations that leave the heap alone. Conditions: the tables say what the program's own types are (TOK, COK). -/
import Derived.Test.YtajcbdamgaofcaaDoorAmOps2
import Derived.Laws.BytesString
set_option linter.unusedVariables false
set_option linter.unusedSimpArgs false
namespace Go.Am
open FlCore

theorem updL_nil : ∀ (cs : List Value) (o : Nat) (m : List Value), updL cs o [] = some m → m = cs
  | cs, 0, m, h => by cases cs <;> (simp only [updL] at h; cases h; rfl)
  | [], n + 1, m, h => by simp [updL] at h
  | c :: cs, n + 1, m, h => by
    simp only [updL] at h
    split at h
    · rename_i l hl; cases h; rw [updL_nil cs n l hl]
    · cases h
theorem updL_cons : ∀ (cs : List Value) (o : Nat) (c : Value) (l m : List Value), updL cs o (c :: l) = some m → o < cs.length ∧ updL (cs.set o c) (o + 1) l = some m
  | [], 0, c, l, m, h => by simp [updL] at h
  | [], n + 1, c, l, m, h => by simp [updL] at h
  | x :: cs, 0, c, l, m, h => by
    simp only [updL] at h
    refine ⟨by simp, ?_⟩
    show updL (c :: cs) 1 l = some m
    simp only [updL]; exact h
  | x :: cs, n + 1, c, l, m, h => by
    simp only [updL] at h
    split at h
    · rename_i m' hm
      obtain ⟨h1, h2⟩ := updL_cons cs n c l m' hm
      cases h
      refine ⟨by simp; omega, ?_⟩
      show updL (x :: cs.set n c) (n + 1 + 1) l = some (x :: m')
      simp only [updL, h2]
    · cases h
theorem updL_fold (off : Nat) : ∀ (l : List Value) (k : Nat) (cs : Array Value) (m : List Value), updL cs.toList (off + k) l = some m →
    ((l.zipIdx k).foldl (fun cs x => cs.setIfInBounds (off + x.2) x.1) cs).toList = m
  | [], k, cs, m, h => by simp; exact (updL_nil _ _ _ h).symm
  | c :: l, k, cs, m, h => by
    obtain ⟨h1, h2⟩ := updL_cons _ _ _ _ _ h
    simp only [List.zipIdx_cons, List.foldl_cons]
    refine updL_fold off l (k + 1) _ m ?_
    rw [Array.toList_setIfInBounds]
    exact h2
theorem updL_rel {ρ : Rho} {cs cs' l l' m : List Value} {o : Nat} (h : updL cs o l = some m) (hc : VRels ρ cs cs') (hl : VRels ρ l l') : ∃ m', updL cs' o l' = some m' ∧ VRels ρ m m' := by
  have key : ∀ (cs' : List Value) (o : Nat) (l' : List Value), o + l'.length ≤ cs'.length → ∃ m', updL cs' o l' = some m' := by
    intro cs'
    induction cs' with
    | nil => intro o l' hle; cases o with
      | zero => cases l' with
        | nil => exact ⟨[], rfl⟩
        | cons => simp at hle
      | succ => simp at hle
    | cons x r ih => intro o l' hle; cases o with
      | zero => cases l' with
        | nil => exact ⟨_, rfl⟩
        | cons v vs =>
          obtain ⟨m', hm⟩ := ih 0 vs (by simp at hle ⊢; omega)
          exact ⟨v :: m', by simp only [updL, hm]⟩
      | succ n =>
        obtain ⟨m', hm⟩ := ih n l' (by simp at hle ⊢; omega)
        exact ⟨x :: m', by simp only [updL, hm]⟩
  obtain ⟨h1, h2⟩ := updL_eq _ _ _ _ h
  obtain ⟨m', hm⟩ := key cs' o l' (by rw [← hl.length, ← hc.length]; exact h2)
  obtain ⟨h3, _⟩ := updL_eq _ _ _ _ hm
  exact ⟨m', hm, by rw [h1, h3]; exact hc.over hl o⟩

theorem fill_sound {π : List Nat} {ρ : Rho} {place : Nat → Option (Nat × Nat)} {η : Operand → Option Value} {e : Operand → Value} : ∀ (parts : List (Nat × Operand)) (cs m : List Value) (cs' : Array Value),
    (∀ x ∈ parts, ∀ v, η x.2 = some v → TRel π ρ v (e x.2)) → fillA place η parts cs = some m → VRels ρ cs cs'.toList →
    ∃ m', Instr.fill place cs' (parts.map fun x => (x.1, e x.2)) = some m' ∧ VRels ρ m m'.toList
  | [], cs, m, cs', _, h, hc => by simp only [fillA] at h; cases h; exact ⟨cs', rfl, hc⟩
  | (i, x) :: r, cs, m, cs', hη, h, hc => by
    simp only [fillA] at h
    split at h
    · rename_i off n v hp hv
      split at h
      · rename_i hpub hlen
        split at h
        · rename_i c1 hu
          have hv' := (isPub_rel (hη (i, x) (by simp) v hv) hpub).cells
          have hlen' : (e x).cells.size = n := by
            have := hv'.length
            rw [lenB_eq _ _ hlen] at this
            simpa using this.symm
          obtain ⟨m1, hm1, hr1⟩ := updL_rel hu hc hv'
          have hle : off + (e x).cells.size ≤ cs'.size := by
            have := (updL_eq _ _ _ _ hm1).2
            simpa using this
          obtain ⟨m', hm', hr'⟩ := fill_sound r c1 m ⟨m1⟩ (fun y hy => hη y (by simp [hy])) h (by simpa using hr1)
          refine ⟨m', ?_, hr'⟩
          simp only [List.map_cons, Instr.fill, hp]
          have h0 : ¬ ((e x).cells.size ≠ n ∨ off + (e x).cells.size > cs'.size) := by omega
          have hc0 : ((e x).cells.size ≠ n || off + (e x).cells.size > cs'.size : Bool) = false := by
            simp [hlen']; rw [hlen'] at hle; omega
          rw [hc0]
          simp only [Bool.false_eq_true, if_false]
          rw [← Array.foldl_toList, Array.toList_zipIdx]
          have hf := updL_fold off (e x).cells.toList 0 cs' m1 (by simpa using hm1)
          rw [show ((e x).cells.toList.zipIdx).foldl (fun cs (x : Value × Nat) => match x with | (c, j) => cs.setIfInBounds (off + j) c) cs' = (⟨m1⟩ : Array Value) from Array.ext' hf]
          exact hm'
        · cases h
      · cases h
    · cases h

theorem repL_len (z : List Value) : ∀ n, (repL n z).length = n * z.length
  | 0 => by simp [repL]
  | n + 1 => by simp [repL, repL_len z n, Nat.add_mul]; omega
theorem repL_get (z : List Value) (hz : 0 < z.length) : ∀ (n i : Nat), i < n * z.length → (repL n z)[i]? = z[i % z.length]?
  | 0, i, h => by simp at h
  | n + 1, i, h => by
    simp only [repL]
    by_cases hi : i < z.length
    · rw [List.getElem?_append_left hi, Nat.mod_eq_of_lt hi]
    · rw [List.getElem?_append_right (by omega), repL_get z hz n (i - z.length) (by rw [Nat.add_mul] at h; omega)]
      congr 1
      exact (Nat.mod_eq_sub_mod (by omega)).symm
theorem repL_array (z : Array Value) (n : Nat) (hz : 0 < z.size) : ((Array.range (n * z.size)).map (z[· % z.size]!)).toList = repL n z.toList := by
  apply List.ext_getElem?
  intro i
  by_cases hi : i < n * z.size
  · rw [repL_get z.toList (by simpa using hz) n i (by simpa using hi)]
    have hm : i % z.size < z.size := Nat.mod_lt _ hz
    simp [hi, hm]
  · rw [List.getElem?_eq_none (by simp; omega), List.getElem?_eq_none (by rw [repL_len]; simp; omega)]
theorem VRels.rep {ρ : Rho} {z : List Value} (h : VRels ρ z z) : ∀ n, VRels ρ (repL n z) (repL n z)
  | 0 => .nil
  | n + 1 => h.append (h.rep n)

section
variable {P : Program} {T : Tab} {C : CTab} {ρ : Rho} {own : Nat → Owner} {H : Heap} {w : World} {π : List Nat}

theorem build_sound {t : TypeId} {i : TI} (hT : TOK P T) (hi : Row P t i) {η : Operand → Option Value} {e : Operand → Value} (parts : Array (Nat × Operand)) (hη : ∀ x ∈ parts, ∀ v, η x.2 = some v → TRel π ρ v (e x.2)) {cs : List Value}
    (h : (∃ fs, i.kd = .struct fs ∧ fillA (fun k => (nth fs k).map fun f => (f.1, f.2.1)) η parts.toList i.zero = some cs) ∨
      (∃ n el ie, i.kd = .array n el ∧ T el = some ie ∧ fillA (fun k => some (k * ie.size, ie.size)) η parts.toList i.zero = some cs)) :
    Yields P π ρ w (Instr.build t (parts.map fun (k, x) => (k, e x))) (.agg cs.toArray) := by
  obtain ⟨z, z1, z2⟩ := hi.zero (w := w)
  have hz : VRels ρ i.zero z.cells.toList := by rw [z2]; exact VRels.const hi.ok
  have hη' : ∀ x ∈ parts.toList, ∀ v, η x.2 = some v → TRel π ρ v (e x.2) := fun x hx => hη x (by simpa using hx)
  have hm : ∀ place, (Instr.fill place z.cells (parts.map fun (k, x) => (k, e x)).toList) = Instr.fill place z.cells (parts.toList.map fun x => (x.1, e x.2)) := fun place => by
    rw [Array.toList_map]
  rcases h with ⟨fs, hk, h⟩ | ⟨n, el, ie, hk, hel, h⟩
  · obtain ⟨d, h1, _, hd⟩ := hi.und
    rw [hk] at hd
    obtain ⟨fields, rfl, h3, h4⟩ := hd
    have hmap : ∀ w, (fields.mapM fun f => do pure (f.offset, ← Go.sizeOf f.type) : Sem _).run P w = .ok (fields.map fun f => (f.offset, P.cellsOf f.type)) w := by
      intro w
      have hone : ∀ f ∈ fields, ∀ w, (do pure (f.offset, ← Go.sizeOf f.type) : Sem (Nat × Nat)).run P w = .ok (f.offset, P.cellsOf f.type) w := fun f hf w => by
        obtain ⟨ti, hti⟩ := Option.isSome_iff_exists.1 (h4 f hf).1
        simp [Go.sizeOf, run_typeInfo' hti, Program.cellsOf, hti]
      have hl : ∀ (l : List Field), (∀ f ∈ l, f ∈ fields) → ∀ w, (l.mapM fun f => do pure (f.offset, ← Go.sizeOf f.type) : Sem _).run P w = .ok (l.map fun f => (f.offset, P.cellsOf f.type)) w := by
        intro l
        induction l with
        | nil => intro _ w; rfl
        | cons f r ih =>
          intro hf w
          simp only [List.mapM_cons, Sem.run_bind, hone f (hf f (by simp)) w, Result.andThen_ok, ih (fun g hg => hf g (by simp [hg])) w, Sem.run_pure, List.map_cons]
      rw [Array.mapM_eq_mapM_toList]
      simp only [Sem.run_map, hl fields.toList (fun f hf => by simpa using hf) w, Result.andThen_ok]
      congr 1
      apply Array.ext'
      simp
    have hpl : (fun k => (fields.map fun f => (f.offset, P.cellsOf f.type))[k]?) = (fun k => (nth fs k).map fun f => (f.1, f.2.1)) := by
      funext k
      rw [nth_eq, ← h3]
      simp
      cases fields[k]? <;> rfl
    obtain ⟨m', hm', hr⟩ := fill_sound parts.toList i.zero cs z.cells hη' h hz
    refine yields_of (v' := .agg m') ?_ (.pub (.agg (by simpa using hr)))
    simp only [Instr.build, Sem.run_bind, z1, Result.andThen_ok, run_underlying' h1]
    rw [hmap]
    simp only [Result.andThen_ok, hpl, hm, hm']
    rfl
  · obtain ⟨d, h1, _, hd⟩ := hi.und
    rw [hk] at hd
    subst hd
    obtain ⟨m', hm', hr⟩ := fill_sound parts.toList i.zero cs z.cells hη' h hz
    refine yields_of (v' := .agg m') ?_ (.pub (.agg (by simpa using hr)))
    simp only [Instr.build, Sem.run_bind, z1, Result.andThen_ok, run_underlying' h1, (hT _ _ hel).sizeOf, hm, hm']
    rfl

theorem strA_sound {P : Program} {T : Tab} {C : CTab} {ρ : Rho} {own : Nat → Owner} {H : Heap} {w : World} {π : List Nat} (hT : TOK P T) (hC : COK P C) (hr : HRel ρ own H w) {s d : TypeId} {x x' : Value} (hx : TRel π ρ x x') (v : Value)
    (h : strA T C H s d x = .val v ∨ (∃ q, strA T C H s d x = .ask q v ∧ q) ∨ ∃ p, strA T C H s d x = .find p ∧ p v) : Yields P π ρ w (convert s d x') v := by
  unfold strA at h
  split at h
  · rename_i e zz sz2 by2 ag2 zz2 a2 n ac hTs hTd
    obtain ⟨ds, h1, _, rfl⟩ := (hT _ _ hTs).und
    obtain ⟨dd, h2, _, h3⟩ := (hT _ _ hTd).und
    subst h3
    cases hx with
    | pub hx =>
      split at h
      · rename_i hCe
        have he := (hC e).1 _ hCe
        rcases h with h | ⟨q, h, _⟩ | ⟨p, h, _⟩ <;> cases h
        have hxl : ∃ b c, x' = .slice b 0 c := by cases hx <;> exact ⟨_, _, rfl⟩
        obtain ⟨xb, xc, rfl⟩ := hxl
        refine yields_of ?_ (.pub (.string _))
        rw [run_convert_bytes_string w s d e _ 0 xc h1 he h2]
        cases xb with
        | none => simp [Conv.bytesToString]
        | some a => exact run_bytesToString w a 0 xc [] (run_loadCells_list (P := P) w a [] (fun j v hj => by simp at hj))
      · rename_i n' b o hCe
        have he := (hC e).1 _ hCe
        rcases h with h | ⟨q, h, _⟩ | ⟨p, h, hp⟩ <;> cases h
        obtain ⟨ns, hrun, hv⟩ := hp
        subst hv
        cases hx with
        | @slice _ _ _ off2 cap2 L2 hL2 k1 k2 k3 =>
          have ho2 : off2 = L2.o + o := by rcases k1 with k1 | k1 <;> omega
          obtain ⟨news', n1, n2, n3⟩ := hr.run hrun hL2
          have heq : ∀ (l l' : List Value) (m : List Int), l = m.map (Value.int .u8) → VRels ρ l l' → l' = m.map (Value.int .u8) := by
            intro l l' m
            induction m generalizing l l' with
            | nil => intro e q; subst e; cases q; rfl
            | cons z m ih =>
              intro e q
              subst e
              cases q with
              | cons q1 q2 => cases q1; rw [ih _ _ rfl q2]; rfl
          have hnews := heq _ _ ns rfl n2
          subst hnews
          refine yields_of ?_ (.pub (.string _))
          rw [run_convert_bytes_string w s d e _ _ cap2 h1 he h2]
          refine run_bytesToString w _ _ cap2 ns ?_
          have := run_loadCells_list (P := P) w ⟨L2.B, off2, none⟩ (ns.map (Value.int .u8)) (fun j v hj => by rw [add_mk, ho2]; exact n3 j v hj)
          rw [n1] at this
          exact this
      · rcases h with h | ⟨q, h, _⟩ | ⟨p, h, _⟩ <;> cases h
  · rcases h with h | ⟨q, h, _⟩ | ⟨p, h, _⟩ <;> cases h
  · rcases h with h | ⟨q, h, _⟩ | ⟨p, h, _⟩ <;> cases h

theorem nilA_sound {P : Program} {T : Tab} {ρ : Rho} {w : World} {π : List Nat} {a : Act} (hT : TOK P T) {op : BinOp} {t : TypeId} (ox : Operand) {oy : Operand} (hn : isNilS oy = true) {x : Option Value} {x' : Value} (hx : ∀ u, x = some u → TRel π ρ u x') (v : Value) (h : nilA T op t x = .val v) : Yields P π ρ w (binRun op t ox oy x' (a.eval oy)) v := by
  have hy : a.eval oy = .slice none 0 0 := by
    unfold isNilS at hn
    split at hn
    · rfl
    · cases hn
  rw [hy]
  unfold nilA at h
  split at h
  · rename_i hTt
    obtain ⟨d, g1, _, g3⟩ := (hT _ _ hTt).und
    subst g3
    cases h
    cases hx _ rfl with
    | pub hx => cases hx with
      | slice =>
        refine ⟨_, w, by rw [binRun_plain _ t ox oy _ _ (by simp) (by simp)]; simp only [binOp, Sem.run_bind, equal_nil g1, Result.andThen_ok, Sem.run_pure]; rfl, .pub (.bool _), rfl⟩
  · rename_i hTt
    obtain ⟨d, g1, _, g3⟩ := (hT _ _ hTt).und
    subst g3
    cases h
    cases hx _ rfl with
    | pub hx => cases hx with
      | slice =>
        refine ⟨_, w, by rw [binRun_plain _ t ox oy _ _ (by simp) (by simp)]; simp only [binOp, Sem.run_bind, equal_nil g1, Result.andThen_ok, Sem.run_pure]; rfl, .pub (.bool _), rfl⟩
  · cases h
theorem nilI_sound {P : Program} {T : Tab} {ρ : Rho} {w : World} {π : List Nat} {a : Act} (hT : TOK P T) {op : BinOp} {t : TypeId} (ox : Operand) {oy : Operand} (hn : isNilI oy = true) {x : Option Value} {x' : Value} (hx : ∀ u, x = some u → TRel π ρ u x') (v : Value) (h : nilI T op t x = .val v) : Yields P π ρ w (binRun op t ox oy x' (a.eval oy)) v := by
  have hy : oy = .const .nilIface := by
    unfold isNilI at hn
    split at hn
    · rfl
    · cases hn
  subst hy
  have eq1 : ∀ ms, P.underlying t = some (.interface ms) → (Op.equal t .nilIface .nilIface).run P w = .ok true w := fun ms hb => by
    have e : Op.equal t .nilIface .nilIface = Op.equalIn (9999 + 1) t .nilIface .nilIface := rfl
    rw [e, Op.equalIn]
    simp only [Sem.run_bind, run_underlying' hb, Result.andThen_ok, Sem.run_pure]
  have eq2 : ∀ ms tt vv, P.underlying t = some (.interface ms) → (Op.equal t (.iface tt vv) .nilIface).run P w = .ok false w := fun ms tt vv hb => by
    have e : Op.equal t (.iface tt vv) .nilIface = Op.equalIn (9999 + 1) t (.iface tt vv) .nilIface := rfl
    rw [e, Op.equalIn]
    simp only [Sem.run_bind, run_underlying' hb, Result.andThen_ok, Sem.run_pure]
  have gd1 : ∀ op, (eqGuard op t ox (.const .nilIface) .nilIface .nilIface).run P w = .ok () w := fun op => by
    cases op <;> simp [eqGuard]
  unfold nilI at h
  split at h
  · rename_i hTt
    obtain ⟨d, g1, _, ms, rfl⟩ := (hT _ _ hTt).und
    cases h
    cases hx _ rfl with
    | pub hx =>
      cases hx
      refine ⟨_, w, ?_, .pub (.bool _), rfl⟩
      simp only [binRun, Act.eval, Sem.run_bind, gd1, Result.andThen_ok, binOp, eq1 ms g1, Sem.run_pure]
      try rfl
  · rename_i hTt
    obtain ⟨d, g1, _, ms, rfl⟩ := (hT _ _ hTt).und
    cases h
    cases hx _ rfl with
    | pub hx =>
      cases hx
      refine ⟨_, w, ?_, .pub (.bool _), rfl⟩
      simp only [binRun, Act.eval, Sem.run_bind, gd1, Result.andThen_ok, binOp, eq1 ms g1, Sem.run_pure]
      try rfl
  · rename_i hTt
    obtain ⟨d, g1, _, ms, rfl⟩ := (hT _ _ hTt).und
    cases h
    cases hx _ rfl with
    | pub hx =>
      cases hx
      refine ⟨_, w, ?_, .pub (.bool _), rfl⟩
      rw [binRun_plain _ t _ _ _ _ (by simp [Act.eval]) (by simp)]
      simp only [Act.eval, Sem.run_bind, Result.andThen_ok, binOp, eq2 ms _ _ g1, Sem.run_pure]
      try rfl
  · rename_i hTt
    obtain ⟨d, g1, _, ms, rfl⟩ := (hT _ _ hTt).und
    cases h
    cases hx _ rfl with
    | pub hx =>
      cases hx
      refine ⟨_, w, ?_, .pub (.bool _), rfl⟩
      rw [binRun_plain _ t _ _ _ _ (by simp [Act.eval]) (by simp)]
      simp only [Act.eval, Sem.run_bind, Result.andThen_ok, binOp, eq2 ms _ _ g1, Sem.run_pure]
      try rfl
  · cases h
theorem fitB_same {ρ : Rho} {b : KB} {v v' : Value} (h : fitB b v = true) (r : VRel ρ v v') : v' = v := by
  rcases fitB_spec h with ⟨k, n, _, rfl⟩ | ⟨s, _, rfl⟩ <;> cases r <;> rfl
theorem fitL_same {ρ : Rho} : ∀ {bs : List KB} {l l' : List Value}, fitL bs l = true → VRels ρ l l' → l' = l
  | [], [], _, _, .nil => rfl
  | [], _ :: _, _, h, _ => by simp [fitL] at h
  | b :: bs, l, _, h, r => by
    obtain ⟨v, m, rfl, h1, h2⟩ := fitL_cons h
    cases r with
    | cons r1 r2 => rw [fitB_same h1 r1, fitL_same h2 r2]
theorem fitK_same {ρ : Rho} {π : List Nat} {kk : KK} {v v' : Value} (h : fitK kk v = true) (r : TRel π ρ v v') : v' = v := by
  cases r with
  | priv _ => cases kk <;> simp [fitK, fitB] at h
  | pub r => cases kk with
    | one b => exact fitB_same h r
    | rcd bs =>
      cases v <;> simp only [fitK, Bool.false_eq_true] at h
      cases r with
      | agg r => rw [Array.ext' (fitL_same h r)]
    | iter => simp [fitK] at h
theorem lookup_sound {P : Program} {T : Tab} {ρ : Rho} {own : Nat → Owner} {H : Heap} {w : World} {π : List Nat} (hr : HRel ρ own H w) {t : TypeId} {kk : KK} {z : Value} {sz by_ : Nat} {ag : Bool} {zz : List Value} (hT : Row P t ⟨sz, by_, ag, .map kk z, zz⟩) {b : Nat} {m' kv k' : Value} (hm : TRel π ρ (.map (some b)) m') (hk : TRel π ρ kv k') (hf : fitK kk kv = true) (ok : Bool) {es : List (Value × Value)} (hb : H.blk b = some (.map kk es)) :
    Yields P π ρ w (Instr.lookup t m' k' ok) (lookV ok z (mget es kv)) := by
  obtain ⟨d, h1, _, hz, kt, e, ti, rfl, hK, h2, h3⟩ := hT.und
  obtain rfl := fitK_same hf hk
  cases hm with
  | pub hm => cases hm with
    | @map _ L hL =>
      have hki : kk ≠ .iter := fun e => by rw [e] at hf; simp [fitK] at hf
      obtain ⟨_, C, ck, h4, h5⟩ := (hr.maps b L kk es hb hL).map hki
      have hfind := findKey_run hK hf w C.toList h5.fits
      have hzero : (zeroValue e).run P w = .ok z w := by simp [zeroValue, run_typeInfo' h2, h3]
      have hchk := hK.chk C.isEmpty k' w hf
      rcases h5.find hf 0 with ⟨a, b, _⟩ | ⟨j, v, v', en, a, b, c, _⟩
      · rw [a] at hfind
        rw [b]
        cases ok with
        | true =>
          refine yields_of (v' := .tuple #[z, .bool false]) ?_ (.pub (.tuple (.cons (VRel.constV hz) (.cons (.bool _) .nil))))
          simp only [Instr.lookup, Sem.run_bind, run_underlying' h1, Result.andThen_ok, MapKept.run_getObj_map h4, hchk, hfind, hzero, Sem.run_pure]
          rfl
        | false =>
          refine yields_of (v' := z) ?_ (.pub (VRel.constV hz))
          simp only [Instr.lookup, Sem.run_bind, run_underlying' h1, Result.andThen_ok, MapKept.run_getObj_map h4, hchk, hfind, hzero, Sem.run_pure]
          rfl
      · rw [a] at hfind
        rw [b]
        cases ok with
        | true =>
          refine yields_of (v' := .tuple #[v', .bool true]) ?_ (.pub (.tuple (.cons c (.cons (.bool _) .nil))))
          simp only [Instr.lookup, Sem.run_bind, run_underlying' h1, Result.andThen_ok, MapKept.run_getObj_map h4, hchk, hfind, Sem.run_pure]
          rfl
        | false =>
          refine yields_of (v' := v') ?_ (.pub c)
          simp only [Instr.lookup, Sem.run_bind, run_underlying' h1, Result.andThen_ok, MapKept.run_getObj_map h4, hchk, hfind, Sem.run_pure]
          rfl
/-- What an operation that leaves the heap alone comes to. -/
theorem qval_sound {N : Nat} {bx : List (List Value)} {a : Act} {η : Operand → Option Value} {o : Oper} (hT : TOK P T) (hC : COK P C) (B : Base N π ρ own bx H a w)
    (hη : ∀ x ∈ o.op.operands, ∀ v, η x = some v → TRel π ρ v (a.eval x)) :
    (∀ v, (qval T C H bx η o.op = .val v ∨ (∃ q, qval T C H bx η o.op = .ask q v ∧ q) ∨ (∃ p, qval T C H bx η o.op = .find p ∧ p v)) →
      ∃ v' w', (execOp a.eval o).run P w = .ok (.value v') w' ∧ TRel π ρ v v' ∧ Same w w') ∧
    (∀ f args, qval T C H bx η o.op = .call f args → ∃ cargs : List Value, (execOp a.eval o).run P w = (callFunc f cargs.toArray).run P w ∧ VRels ρ args cargs) := by
  obtain ⟨dst, op, ty, pos, after, guard⟩ := o
  have fin : ∀ (s : Sem Value) (v : Value), Yields P π ρ w s v → ∃ v' w', (do pure (Next.value (← s)) : Sem Next).run P w = .ok (.value v') w' ∧ TRel π ρ v v' ∧ Same w w' := fun s v ⟨v', w', h1, h2, h3⟩ =>
    ⟨v', w', by simp only [Sem.run_bind, h1, Result.andThen_ok, Sem.run_pure], h2, h3⟩
  have opt : ∀ (x : Option Value) (v : Value), (Res.opt x = .val v ∨ (∃ q, Res.opt x = .ask q v ∧ q) ∨ (∃ p, Res.opt x = .find p ∧ p v)) → x = some v := fun x v h => by
    cases x with
    | none => rcases h with h | ⟨q, h, _⟩ | ⟨p, h, _⟩ <;> cases h
    | some u => rcases h with h | ⟨q, h, _⟩ | ⟨p, h, _⟩ <;> cases h; rfl
  have optc : ∀ (x : Option Value) f args, Res.opt x ≠ .call f args := fun x f args h => by cases x <;> cases h
  have nov : ∀ {r : Res} {v : Value}, r = .fail ∨ r = .eff → ¬ (r = .val v ∨ (∃ q, r = .ask q v ∧ q) ∨ (∃ p, r = .find p ∧ p v)) := fun {r v} hr h => by
    rcases hr with rfl | rfl <;> rcases h with h | ⟨q, h, _⟩ | ⟨p, h, _⟩ <;> cases h
  have lq : ∀ x, x ∈ op.operands → ∀ v, η x = some v → TRel π ρ v (a.eval x) := hη
  cases op
  case move x =>
    refine ⟨fun v h => ?_, fun f args h => absurd h (optc _ _ _)⟩
    exact ⟨_, w, rfl, lq x (by simp [Op.operands]) v (opt _ _ h), rfl⟩
  case assign x =>
    refine ⟨fun v h => ?_, fun f args h => absurd h (optc _ _ _)⟩
    exact ⟨_, w, rfl, lq x (by simp [Op.operands]) v (opt _ _ h), rfl⟩
  case fieldAddr s x f =>
    simp only [qval]
    refine ⟨fun v h => ?_, fun g args h => ?_⟩
    · split at h
      · rename_i hTs hx
        split at h
        · rename_i hf
          rcases h with h | ⟨q, h, _⟩ | ⟨p, h, _⟩ <;> cases h
          exact fin _ _ (fieldAt_sound (hT _ _ hTs) hf (lq x (by simp [Op.operands]) _ hx))
        · exact absurd h (nov (.inl rfl))
      · exact absurd h (nov (.inl rfl))
    · split at h
      · split at h <;> cases h
      · cases h
  case field s x f =>
    simp only [qval]
    refine ⟨fun v h => ?_, fun g args h => ?_⟩
    · split at h
      · rename_i hTs hx
        split at h
        · rename_i off n ag hf
          split at h
          · rename_i l hl
            obtain ⟨fields, fld, h1, h2, h3, h4, h5, h6⟩ := (hT _ _ hTs).field hf
            have hx' := lq x (by simp [Op.operands]) _ hx
            have hp := opt _ _ h
            generalize hy : a.eval x = y at hx'
            cases hx' with
            | pub hx' => cases hx' with
              | agg hcs =>
                refine fin _ _ ?_
                have := part_sound (P := P) (w := w) (π := π) (fun w => h5 w) (fun w => h6 w) hcs hl hp ?_
                · obtain ⟨v', w', g1, g2, g3⟩ := this
                  refine ⟨v', w', ?_, g2, g3⟩
                  simp only [Instr.field, hy, Sem.run_bind, run_underlying' h1, Result.andThen_ok, h2, asAgg, pure_bind, h3]
                  exact g1
                · cases ag with
                  | true => exact .inl rfl
                  | false =>
                    right
                    simp only [packV] at hp
                    split at hp
                    · obtain ⟨e1, e2⟩ := takeL_eq _ _ _ hl
                      have := congrArg List.length e1
                      simp at this e2
                      omega
                    · cases hp
          · exact absurd h (nov (.inl rfl))
        · exact absurd h (nov (.inl rfl))
      · exact absurd h (nov (.inl rfl))
    · split at h
      · split at h
        · split at h
          · exact absurd h (optc _ _ _)
          · cases h
        · cases h
      · cases h
  case load t x =>
    simp only [qval]
    refine ⟨fun v h => ?_, fun g args h => ?_⟩
    · split at h
      · rename_i i u hTt hx
        have hv : loadA H bx i u = .val v ∨ ∃ p, loadA H bx i u = .find p ∧ p v := by
          rcases h with h | ⟨q, h, hq⟩ | ⟨p, h, hp⟩
          · exact .inl h
          · exfalso
            unfold loadA at h
            split at h
            · split at h
              · split at h
                · rename_i l _; cases hz : packV i.agg l <;> (rw [hz] at h; cases h)
                · cases h
              · cases h
            · split at h <;> cases h
            · cases h
          · exact .inr ⟨p, h, hp⟩
        obtain ⟨v', g1, g2⟩ := loadA_sound B (hT _ _ hTt) (lq x (by simp [Op.operands]) _ hx) v hv
        exact fin _ _ ⟨v', w, g1, g2, rfl⟩
      · exact absurd h (nov (.inl rfl))
    · split at h
      · rename_i i u _ _
        unfold loadA at h
        split at h
        · split at h
          · split at h
            · exact absurd h (optc _ _ _)
            · cases h
          · cases h
        · split at h <;> cases h
        · cases h
      · cases h
  case indexAddr t x i =>
    simp only [qval]
    refine ⟨fun v h => ?_, fun g args h => ?_⟩
    · split at h
      · rename_i hTt hx hi
        split at h
        · rename_i ti hTe
          rcases h with h | ⟨q, h, hq⟩ | ⟨p, h, _⟩ <;> cases h
          refine fin _ _ ?_
          have hi' := lq i (by simp [Op.operands]) _ hi
          generalize hy : a.eval i = y at hi'
          cases hi' with
          | pub hi' =>
            cases hi'
            exact indexAt_sound (hT _ _ hTt) (hT _ _ hTe) hq (lq x (by simp [Op.operands]) _ hx)
        · exact absurd h (nov (.inl rfl))
      · rename_i hTt hx hi
        split at h
        · rename_i ti hTe
          rcases h with h | ⟨q, h, hq⟩ | ⟨p, h, _⟩ <;> cases h
          refine fin _ _ ?_
          have hi' := lq i (by simp [Op.operands]) _ hi
          generalize hy : a.eval i = y at hi'
          cases hi' with
          | pub hi' =>
            cases hi'
            exact indexArr_sound (hT _ _ hTt) (hT _ _ hTe) hq (lq x (by simp [Op.operands]) _ hx)
        · exact absurd h (nov (.inl rfl))
      · rcases h with h | ⟨q, h, hq⟩ | ⟨p, h, _⟩ <;> cases h
        exact hq.elim
      · exact absurd h (nov (.inl rfl))
    · split at h
      · split at h <;> cases h
      · split at h <;> cases h
      · cases h
      · cases h
  case index t x i =>
    simp only [qval]
    refine ⟨fun v h => ?_, fun g args h => ?_⟩
    · split at h
      · rename_i s kk k hx hi
        split at h
        · rename_i hTt
          rcases h with h | ⟨q, h, hq⟩ | ⟨p, h, hp⟩ <;> cases h
          obtain ⟨hk, b, hb, rfl⟩ := hp
          obtain ⟨d, h1, _, rfl⟩ := (hT _ _ hTt).und
          have hx' := lq x (by simp [Op.operands]) _ hx
          have hi' := lq i (by simp [Op.operands]) _ hi
          refine fin _ _ ?_
          show Yields P π ρ w (Instr.index t (a.eval x) (a.eval i)) _
          generalize a.eval x = y at hx'
          generalize a.eval i = z at hi'
          cases hx' with
          | pub hx' => cases hx'; cases hi' with
            | pub hi' =>
              cases hi'
              refine yields_of ?_ (.pub (.int _ _))
              have hb' : s[k.toNat]? = some b := by
                obtain ⟨h0, h1⟩ := Array.getElem?_eq_some_iff.1 hb
                have h0' : k.toNat < s.size := h0
                rw [getElem?_pos s k.toNat h0']
                exact congrArg some h1
              simp only [Instr.index, asIntOf, pure_bind, Sem.run_bind, run_underlying' h1, Result.andThen_ok, if_pos hk, hb']
              rfl
        · exact absurd h (nov (.inl rfl))
      · rename_i cs kk k hx hi
        split at h
        · rename_i m e zz hTt
          split at h
          · rename_i by_ kd zz' hTe
            rcases h with h | ⟨q, h, hq⟩ | ⟨p, h, hp⟩ <;> cases h
            obtain ⟨hk, hk2, hv⟩ := hp
            obtain ⟨d, h1, _, rfl⟩ := (hT _ _ hTt).und
            have hx' := lq x (by simp [Op.operands]) _ hx
            have hi' := lq i (by simp [Op.operands]) _ hi
            refine fin _ _ ?_
            show Yields P π ρ w (Instr.index t (a.eval x) (a.eval i)) _
            generalize a.eval x = y at hx'
            generalize a.eval i = z at hi'
            cases hx' with
            | pub hx' => cases hx' with
              | agg hcs => cases hi' with
                | pub hi' =>
                  cases hi'
                  obtain ⟨v', g1, g2⟩ := hcs.get k.toNat v (by simpa using hv)
                  refine yields_of (v' := v') ?_ (.pub g2)
                  have g1' : (‹Array Value›)[k.toNat]? = some v' := by simpa using g1
                  simp only [Instr.index, asIntOf, pure_bind, Sem.run_bind, run_underlying' h1, Result.andThen_ok, if_pos (And.intro hk hk2), (hT _ _ hTe).sizeOf, part, (hT _ _ hTe).isAgg, Nat.mul_one]
                  simp [g1']
          · exact absurd h (nov (.inl rfl))
        · exact absurd h (nov (.inl rfl))
      · exact absurd h (nov (.inl rfl))
    · split at h
      · split at h <;> cases h
      · split at h
        · split at h <;> cases h
        · cases h
      · cases h
  case nilCheck x =>
    simp only [qval]
    refine ⟨fun v h => ?_, fun g args h => ?_⟩
    · split at h
      · rename_i ad hx
        rcases h with h | ⟨q, h, _⟩ | ⟨p, h, _⟩ <;> cases h
        have hx' := lq x (by simp [Op.operands]) _ hx
        generalize hy : a.eval x = y at hx'
        cases hx' with
        | priv hk => exact ⟨_, w, by simp only [execOp, hy]; rfl, .priv hk, rfl⟩
        | pub hx' => cases hx' with
          | ptr hL => exact ⟨_, w, by simp only [execOp, hy]; rfl, .pub (.ptr hL), rfl⟩
      · exact absurd h (nov (.inl rfl))
    · split at h <;> cases h
  case binOp op t x y t' =>
    simp only [qval]
    cases hnil : isNilS y with
    | true =>
      simp only
      refine ⟨fun v h => ?_, fun g args h => ?_⟩
      · have hv : nilA T op t (η x) = .val v := by
          split at h
          · exact absurd h (nov (.inr rfl))
          · rcases h with h | ⟨q, h, _⟩ | ⟨p, h, _⟩
            · exact h
            · unfold nilA at h; split at h <;> cases h
            · unfold nilA at h; split at h <;> cases h
        exact fin _ _ (nilA_sound (P := P) (w := w) hT x hnil (fun u hu => lq x (by simp [Op.operands]) _ hu) v hv)
      · split at h
        · cases h
        · unfold nilA at h; split at h <;> cases h
    | false =>
    simp only
    cases hni : isNilI y with
    | true =>
      simp only
      refine ⟨fun v h => ?_, fun g args h => ?_⟩
      · have hv : nilI T op t (η x) = .val v := by
          rcases h with h | ⟨q, h, _⟩ | ⟨p, h, _⟩
          · exact h
          · unfold nilI at h; split at h <;> cases h
          · unfold nilI at h; split at h <;> cases h
        exact fin _ _ (nilI_sound (P := P) (w := w) hT x hni (fun u hu => lq x (by simp [Op.operands]) _ hu) v hv)
      · unfold nilI at h; split at h <;> cases h
    | false =>
    simp only
    refine ⟨fun v h => ?_, fun g args h => ?_⟩
    · split at h
      · rename_i u1 u2 hx hy
        exact fin _ _ (binA_sound (P := P) (w := w) hT x y (lq x (by simp [Op.operands]) _ hx) (lq y (by simp [Op.operands]) _ hy) v h)
      · exact absurd h (nov (.inl rfl))
    · split at h
      · rename_i u1 u2 hx hy
        exfalso
        unfold binA at h
        split at h
        · split at h
          · split at h
            · cases h
            · rename_i r hr _; cases op <;> simp [binI] at h
          · cases h
        · cases op <;> simp [binFl] at h
        · cases op <;> simp [binS] at h
        · split at h <;> cases h
        · split at h <;> cases h
        · split at h <;> cases h
        · cases h
      · cases h
  case unOp op t x =>
    simp only [qval]
    refine ⟨fun v h => ?_, fun g args h => ?_⟩
    · split at h
      · rename_i u hx
        have hv : unA op u = .val v := by
          rcases h with h | ⟨q, h, _⟩ | ⟨p, h, _⟩
          · exact h
          · unfold unA at h; split at h <;> cases h
          · unfold unA at h; split at h <;> cases h
        exact fin _ _ (unA_sound (lq x (by simp [Op.operands]) _ hx) v hv)
      · exact absurd h (nov (.inl rfl))
    · split at h
      · unfold unA at h; split at h <;> cases h
      · cases h
  case convert s d x =>
    simp only [qval]
    refine ⟨fun v h => ?_, fun g args h => ?_⟩
    · split at h
      · rename_i u i hx hTs
        have cv : ∀ dst fl, (convA dst fl u = .val v ∨ (∃ q, convA dst fl u = .ask q v ∧ q) ∨ (∃ p, convA dst fl u = .find p ∧ p v)) → convA dst fl u = .val v := fun dst fl h => by
          rcases h with h | ⟨q, h, _⟩ | ⟨p, h, _⟩
          · exact h
          · unfold convA at h; split at h <;> (try split at h) <;> (try split at h) <;> cases h
          · unfold convA at h; split at h <;> (try split at h) <;> (try split at h) <;> cases h
        split at h
        · rename_i k hk
          exact fin _ _ (convA_sound (hT _ _ hTs) (lq x (by simp [Op.operands]) _ hx) v (.inl ⟨k, (hC d).1 k hk, cv _ _ h⟩))
        · rename_i hk
          exact fin _ _ (convA_sound (hT _ _ hTs) (lq x (by simp [Op.operands]) _ hx) v (.inr ⟨(hC d).2 hk, cv _ _ h⟩))
        · exact fin _ _ (strA_sound (w := w) (π := π) hT hC B.hrel (lq x (by simp [Op.operands]) _ hx) v h)
      · exact absurd h (nov (.inl rfl))
    · split at h
      · split at h
        · unfold convA at h; split at h <;> (try split at h) <;> (try split at h) <;> cases h
        · unfold convA at h; split at h <;> (try split at h) <;> (try split at h) <;> cases h
        · unfold strA at h; split at h <;> (try split at h) <;> cases h
      · cases h
  case extract x i =>
    simp only [qval]
    refine ⟨fun v h => ?_, fun g args h => ?_⟩
    · split at h
      · rename_i vs hx
        have hv := opt _ _ h
        rw [nth_eq] at hv
        have hx' := lq x (by simp [Op.operands]) _ hx
        generalize hy : a.eval x = y at hx'
        cases hx' with
        | pub hx' => cases hx' with
          | tuple hcs =>
            obtain ⟨v', g1, g2⟩ := hcs.get i v hv
            refine fin _ _ (yields_of (v' := v') ?_ (.pub g2))
            have g1' : (‹Array Value›)[i]? = some v' := by simpa using g1
            rw [hy]
            simp only [Instr.extract, g1', Sem.run_pure]
      · exact absurd h (nov (.inl rfl))
    · split at h
      · exact absurd h (optc _ _ _)
      · cases h
  case slice t x lo hi mx =>
    cases mx with
    | some m => exact ⟨fun v h => absurd h (nov (.inr rfl)), fun f args h => by cases h⟩
    | none =>
      simp only [qval]
      refine ⟨fun v h => ?_, fun g args h => ?_⟩
      · split at h
        · rename_i u hx
          have hv : ∃ q, sliceA T H t u (lo.map η) (hi.map η) = .ask q v ∧ q := by
            rcases h with h | h | ⟨p, h, _⟩
            · unfold sliceA at h; split at h <;> (try split at h) <;> (try split at h) <;> cases h
            · exact h
            · unfold sliceA at h; split at h <;> (try split at h) <;> (try split at h) <;> cases h
          obtain ⟨q, hv, hq⟩ := hv
          exact fin _ _ (sliceA_sound hT B.hrel (fun y hy => lq y (by simp [Op.operands]; simp at hy; simp [hy])) (fun y hy => lq y (by simp [Op.operands]; simp at hy; simp [hy])) (lq x (by simp [Op.operands]) _ hx) v q hv hq)
        · exact absurd h (nov (.inl rfl))
      · split at h
        · unfold sliceA at h; split at h <;> (try split at h) <;> (try split at h) <;> cases h
        · cases h
  case build t parts =>
    simp only [qval]
    have hp : ∀ x ∈ parts, ∀ v, η x.2 = some v → TRel π ρ v (a.eval x.2) := fun x hx => lq x.2 (by simp only [Op.operands, List.mem_toArray, List.mem_map]; exact ⟨x, by simpa using hx, rfl⟩)
    refine ⟨fun v h => ?_, fun g args h => ?_⟩
    · split at h
      · rename_i hTt
        split at h
        · rename_i cs hcs
          rcases h with h | ⟨q, h, _⟩ | ⟨p, h, _⟩ <;> cases h
          exact fin _ _ (build_sound hT (hT _ _ hTt) parts hp (.inl ⟨_, rfl, hcs⟩))
        · exact absurd h (nov (.inl rfl))
      · rename_i hTt
        split at h
        · rename_i ie hTe
          split at h
          · rename_i cs hcs
            rcases h with h | ⟨q, h, _⟩ | ⟨p, h, _⟩ <;> cases h
            exact fin _ _ (build_sound hT (hT _ _ hTt) parts hp (.inr ⟨_, _, ie, rfl, hTe, hcs⟩))
          · exact absurd h (nov (.inl rfl))
        · exact absurd h (nov (.inl rfl))
      · exact absurd h (nov (.inl rfl))
    · split at h
      · split at h <;> cases h
      · split at h
        · split at h <;> cases h
        · cases h
      · cases h
  case makeInterface t x =>
    simp only [qval]
    refine ⟨fun v h => ?_, fun g args h => ?_⟩
    · split at h
      · rename_i u i hx hTt
        split at h
        · exact absurd h (nov (.inl rfl))
        · rename_i hpub hki
          rcases h with h | ⟨q, h, _⟩ | ⟨p, h, _⟩ <;> cases h
          have hx' := isPub_rel (lq x (by simp [Op.operands]) _ hx) hpub
          obtain ⟨d, h1, _, h2⟩ := (hT _ _ hTt).und
          refine fin _ _ (yields_of ?_ (.pub (.iface t hx')))
          have hn : ∀ ms, d ≠ .interface ms := by
            cases hk : i.kd with
            | scalar => rw [hk] at h2; exact h2
            | iface => exact absurd hk hki
            | func => rw [hk] at h2; obtain ⟨_, _, _, e'⟩ := h2; intro ms e; rw [e] at e'; cases e'
            | bool => rw [hk] at h2; simp only at h2; intro ms e; rw [e] at h2; cases h2
            | string => rw [hk] at h2; simp only at h2; intro ms e; rw [e] at h2; cases h2
            | struct fs => rw [hk] at h2; obtain ⟨_, e', _⟩ := h2; intro ms e; rw [e] at e'; cases e'
            | slice e => rw [hk] at h2; simp only at h2; intro ms e; rw [e] at h2; cases h2
            | array n e => rw [hk] at h2; simp only at h2; intro ms e; rw [e] at h2; cases h2
            | map kk z => rw [hk] at h2; obtain ⟨_, _, _, _, e', _⟩ := h2; intro ms e; rw [e] at e'; cases e'
          simp only [Instr.makeInterface, Sem.run_bind, run_underlying' h1, Result.andThen_ok]
          try (cases d <;> first | rfl | exact absurd rfl (hn _))
        · exact absurd h (nov (.inl rfl))
      · exact absurd h (nov (.inl rfl))
    · split at h
      · split at h <;> cases h
      · cases h
  case lookup t m k ok =>
    simp only [qval]
    refine ⟨fun v h => ?_, fun g args h => ?_⟩
    · split at h
      · rename_i kk z zz b kv hTt hm hkv
        split at h
        · rename_i hf
          rcases h with h | ⟨q, h, hq⟩ | ⟨p, h, hp⟩ <;> cases h
          obtain ⟨es, hb, rfl⟩ := hp
          exact fin _ _ (lookup_sound (T := T) B.hrel (hT _ _ hTt) (lq m (by simp [Op.operands]) _ hm) (lq k (by simp [Op.operands]) _ hkv) hf ok hb)
        · exact absurd h (nov (.inl rfl))
      · exact absurd h (nov (.inl rfl))
    · split at h
      · split at h <;> cases h
      · cases h
  case makeFunc fn first cap =>
    simp only [qval]
    refine ⟨fun v h => ?_, fun g args h => ?_⟩
    · split at h
      · rename_i f vs hf hvs
        rcases h with h | ⟨q, h, _⟩ | ⟨p, h, _⟩ <;> cases h
        have hfirst : first = #[] := Array.ext' hf
        subst hfirst
        have hr := evs_rel _ _ (fun x hx => lq x (by simp [Op.operands] at hx ⊢; exact hx)) hvs
        exact fin _ _ (yields_of (v' := .func (.func f) #[] (cap.map a.eval)) (by simp [Instr.makeFunc]) (.pub (.func f (by simpa using hr))))
      · exact absurd h (nov (.inl rfl))
    · split at h <;> cases h
  case call c =>
    obtain ⟨callee, as_, ts⟩ := c
    simp only [qval, callA]
    cases callee with
    | invoke r m => exact ⟨fun v h => absurd h (nov (.inr rfl)), fun f args h => by cases h⟩
    | builtin b =>
      simp only
      refine ⟨fun v h => ?_, fun g args h => ?_⟩
      · split at h
        · rename_i x t hx ht
          have hx' : as_ = #[x] := Array.ext' hx
          have ht' : ts = #[t] := Array.ext' ht
          subst hx'; subst ht'
          split at h
          · rename_i u hu
            have hv : lenA T t u = .val v := by
              rcases h with h | ⟨q, h, _⟩ | ⟨p, h, _⟩
              · exact h
              · unfold lenA at h; split at h <;> cases h
              · unfold lenA at h; split at h <;> cases h
            obtain ⟨v', w', g1, g2, g3⟩ := lenA_sound (P := P) (w := w) (ty := ty) hT (lq x (by simp [Op.operands, Call.operands]) _ hu) v hv
            refine ⟨v', w', ?_, g2, g3⟩
            simp only [execOp, resolve, List.map_toArray, List.map_cons, List.map_nil, pure_bind, invoke, builtin, Sem.run_bind, g1, Result.andThen_ok, Sem.run_pure]
          · exact absurd h (nov (.inl rfl))
        · rename_i x y hx
          have hx' : as_ = #[x, y] := Array.ext' hx
          subst hx'
          split at h
          · rename_i k n k2 m hn hm
            have hv : (Value.int k (if m > n then m else n)) = v := by
              rcases h with h | ⟨q, h, _⟩ | ⟨p, h, _⟩ <;> cases h
              rfl
            subst hv
            have e1 := lq x (by simp [Op.operands, Call.operands]) _ hn
            have e2 := lq y (by simp [Op.operands, Call.operands]) _ hm
            generalize hx : a.eval x = x' at e1
            generalize hy : a.eval y = y' at e2
            cases e1 with
            | pub e1 => cases e1 with
              | int => cases e2 with
                | pub e2 => cases e2 with
                  | int =>
                    refine ⟨.int k (if m > n then m else n), w, ?_, .pub (.int _ _), rfl⟩
                    simp only [execOp, resolve, List.map_toArray, List.map_cons, List.map_nil, pure_bind, invoke, builtin, hx, hy, Builtin.max_, List.foldlM_cons, List.foldlM_nil, Builtin.max2, Sem.run_bind, Sem.run_pure, Result.andThen_ok]
          · exact absurd h (nov (.inl rfl))
        · exact absurd h (nov (.inr rfl))
      · split at h
        · split at h
          · unfold lenA at h; split at h <;> cases h
          · cases h
        · split at h <;> cases h
        · cases h
    | value gg =>
      simp only
      refine ⟨fun v h => ?_, fun g args h => ?_⟩
      · split at h
        · split at h
          · rcases h with h | ⟨q, h, _⟩ | ⟨p, h, _⟩ <;> cases h
          · exact absurd h (nov (.inl rfl))
        · exact absurd h (nov (.inl rfl))
      · split at h
        · rename_i f fs cap vs hg hvs
          split at h
          · cases h
            have hr := evs_rel _ _ (fun x hx => lq x (by simp [Op.operands, Call.operands] at hx ⊢; exact .inr hx)) hvs
            have hg' := lq gg (by simp [Op.operands, Call.operands]) _ hg
            generalize hy : a.eval gg = y at hg'
            cases hg' with
            | pub hg' => cases hg' with
              | @func _ _ cap' hc =>
                refine ⟨as_.toList.map a.eval ++ cap'.toList, ?_, hr.append hc⟩
                have := callFn_run (P := P) (as_ := as_) (ts := ts) (ty := ty) (e := a.eval) hy w
                simp only [execOp]
                rw [this]
                congr 2
                apply Array.ext'
                simp
          · cases h
        · cases h
  all_goals exact ⟨fun v h => absurd h (nov (by simp [qval])), fun f args h => by simp [qval] at h⟩
end
end Go.Am
