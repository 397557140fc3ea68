/- deadPass: the program's, walked. Conditions: those of each. -/
import Derived.Test.YtlcocgoaphpjkaaPsi
import Derived.Test.YtlcocgoaphpjkaaPsk
set_option linter.unusedVariables false
set_option linter.unusedSimpArgs false
namespace Go.Proofs.Ytlcocgoaphpjkaa
open Go.Am
open FlCore (canon isNan)

theorem operandsOf2_ec (H : Heap) (v : Val) : EC Try.prog 58 [valV v] H fun r H' => r = .ret (.slice (some ⟨H.next, 0, none⟩) (argsL v).length (argsL v).length) ∧ H' = H.push (.cells (flat dInt [v.a, v.b, v.c]) 1 true) := by
  have hr := opnd3 v.op
  refine EC_fn ctx (fun _ => true) Try.func58 rfl rfl rfl ?_
  have hb : Rd dInt (H.push (.cells (flat dInt [v.a, v.b, v.c]) dInt.sz true)) (some ⟨H.next, 0, none⟩) [v.a, v.b, v.c] := Rd.push _ _
  refine ⟨.leaf [([0, 1, 2, 3, 4, 5, 7, 8, 9], some 6), ([10, 11], none)] [7, 8, 9], by kernel_rfl, opnd v.op |> Value.int .i64, fun H' => operands_pc H' _, ⟨by omega, by omega, by omega, hb.ez (by simp)⟩, ?_, rfl⟩
  rw [argsL_len]
  rfl
theorem args_rd (K : Heap) (v : Val) : Rd dInt (K.push (.cells (flat dInt [v.a, v.b, v.c]) 1 true)) (some ⟨K.next, 0, none⟩) (argsL v) := by
  have hr := opnd3 v.op
  have hb : Rd dInt (K.push (.cells (flat dInt [v.a, v.b, v.c]) dInt.sz true)) (some ⟨K.next, 0, none⟩) [v.a, v.b, v.c] := Rd.push _ _
  have hsub := hb.sub (l := 0) (n := (opnd v.op).toNat) (by simp; omega)
  exact hsub
theorem rd_keep {α : Type} {d : Enc α} {K K' : Heap} {b : Nat} {xs : List α} {N : Nat} (h : Rd d K (some ⟨b, 0, none⟩) xs) (hb : But (some ⟨N, 0, none⟩) K K') (hne : b ≠ N) : Rd d K' (some ⟨b, 0, none⟩) xs := ⟨h.sh, fun hx => by
  obtain ⟨b', o', cs, rw_, h1, h2, h3⟩ := h.at_ hx
  cases h1
  exact ⟨b, 0, cs, rw_, rfl, hb.same _ _ (fun o e => by cases e; exact hne rfl) h2, h3⟩⟩
set_option maxHeartbeats 2000000 in
theorem deadPass_ec (H : Heap) (lo hi : Nat) (p q r : Option Addr) (g : Graph) (hv : validB g = true) (og : OwnG H lo hi p q r g) (hlo : lo ≤ hi) (hn : hi ≤ H.next) :
    EC Try.prog 36 [gV p q r g] H (PR H lo hi (deadG g)) := by
  obtain ⟨h1, h2, h3⟩ := valid_lens hv
  have hops := valid_ops hv
  have houts := valid_outs hv
  have hg := og.rd
  refine EC_fn ctx (fun _ => true) Try.func36 rfl rfl rfl ?_
  refine ⟨⟨by omega, by omega, by omega, by dsimp only; omega⟩, ?_⟩
  have hb0 : Buf dBool (H.push (.cells (repL g.vals.length [.bool false]) 1 true)) H.next (some ⟨H.next, 0, none⟩) (setAll (g.outs.take 0) true (List.replicate g.vals.length false)) := by
    refine .blk (Nat.le_refl _) ?_
    rw [push_blk, flat_rep dBool false [.bool false] rfl]; rfl
  have hal : ∀ os, (setAll os true (List.replicate g.vals.length false)).length = g.vals.length := fun os => by rw [setAll_len]; simp
  refine loop_ind ctx (fun _ => true) (fun m E K => ∃ k : Nat, k ≤ g.outs.length ∧ m = g.outs.length - k ∧ E = ⟨[(1, .pointer (some ⟨0, 0, some 0⟩)), (2, .pointer (some ⟨1, 0, some 0⟩)), (3, .slice (some ⟨H.next, 0, none⟩) g.vals.length g.vals.length), (20, sv r g.outs), (21, .int .i64 (g.outs.length : Int)), (22, .int .i64 ((k : Nat) : Int))], [[sv p g.ins, sv q g.vals, sv r g.outs], [.slice none 0 0, .slice none 0 0, .slice none 0 0]]⟩ ∧ Ext H K ∧ Buf dBool K H.next (some ⟨H.next, 0, none⟩) (setAll (g.outs.take k) true (List.replicate g.vals.length false)))
    (E0 := ⟨[(1, .pointer (some ⟨0, 0, some 0⟩)), (2, .pointer (some ⟨1, 0, some 0⟩)), (3, .slice (some ⟨H.next, 0, none⟩) g.vals.length g.vals.length), (20, sv r g.outs), (21, .int .i64 (g.outs.length : Int)), (22, .int .i64 ((0 : Nat) : Int))], [[sv p g.ins, sv q g.vals, sv r g.outs], [.slice none 0 0, .slice none 0 0, .slice none 0 0]]⟩) ⟨0, Nat.zero_le _, rfl, rfl, Ext.push _ _, hb0⟩ (by (refine ⟨?_, ?_⟩ <;> repeat' first | exact trivial | exact congrArg (fun x => some (Value.int .i64 x)) (wrap_nat (by omega)) | exact sv_eq (by simp; done) | exact rfl | refine ⟨?_, ?_⟩ | fail)) ?_
  clear hb0
  rintro m E K ⟨k, hk, rfl, rfl, eK, bN⟩
  refine ⟨fun hlt => ?_, fun hge => ?_⟩
  · have hlt : k < g.outs.length := by simpa using hlt
    obtain ⟨br_, or_, rfl⟩ := rdI_some hg.outs (by omega)
    have hgk := hg.mono eK
    have hin := houts _ (List.getElem_mem hlt)
    have c1 := at_cellI hgk.outs (j := (k : Int)) (by omega) (by omega)
    have hat : atV g.outs (k : Int) = g.outs[k] := by unfold atV; rw [show ((k : Int)).toNat = k from rfl, List.getElem?_eq_getElem hlt]; rfl
    rw [hat] at c1
    have hwk := wrap_nat (k := k) (by omega)
    have hl := hal (g.outs.take k)
    obtain ⟨bN2, hst2, hbut2⟩ := stor_one bN (i := (g.outs[k]).toNat) (off := 0 + (g.outs[k]).toNat * 1) true (by omega) rfl rfl
    refine ⟨⟨by omega, by omega⟩, _, c1, ⟨hin.1, by omega⟩, hst2, ?_⟩
    refine ⟨g.outs.length - (k + 1), ⟨[(1, .pointer (some ⟨0, 0, some 0⟩)), (2, .pointer (some ⟨1, 0, some 0⟩)), (3, .slice (some ⟨H.next, 0, none⟩) g.vals.length g.vals.length), (20, sv (some ⟨br_, or_, none⟩) g.outs), (21, .int .i64 (g.outs.length : Int)), (22, .int .i64 ((k + 1 : Nat) : Int))], [[sv p g.ins, sv q g.vals, sv (some ⟨br_, or_, none⟩) g.outs], [.slice none 0 0, .slice none 0 0, .slice none 0 0]]⟩, by omega, (by (refine ⟨?_, ?_⟩ <;> repeat' first | exact trivial | exact congrArg (fun x => some (Value.int .i64 x)) hwk | exact rfl | refine ⟨?_, ?_⟩ | fail)), k + 1, by omega, rfl, rfl, eK.stor (Nat.le_refl _), ?_⟩
    rw [List.take_succ_eq_append_getElem hlt, setAll_snoc]
    have : (bAt (setAll (g.outs.take k) true (List.replicate g.vals.length false)) (g.outs[k]).toNat || true) = true := by simp
    rw [this]
    exact bN2
  have hk0 : k = g.outs.length := by simp at hge; omega
  subst hk0
  rw [List.take_of_length_le (Nat.le_refl _)] at bN
  have hw0 : IntKind.i64.wrap ((g.vals.length : Int) - 1) = (g.vals.length : Int) - 1 - ((0 : Nat) : Int) := by rw [wrap_i64 (by omega) (by omega)]; omega
  refine loop_ind ctx (fun _ => true) (fun m E K => ∃ d : Nat, d ≤ g.vals.length ∧ m = g.vals.length - d ∧ E = ⟨[(1, .pointer (some ⟨0, 0, some 0⟩)), (2, .pointer (some ⟨1, 0, some 0⟩)), (3, .slice (some ⟨H.next, 0, none⟩) g.vals.length g.vals.length), (6, .int .i64 ((g.vals.length : Int) - 1 - (d : Int)))], [[sv p g.ins, sv q g.vals, sv r g.outs], [.slice none 0 0, .slice none 0 0, .slice none 0 0]]⟩ ∧ Ext H K ∧ Buf dBool K H.next (some ⟨H.next, 0, none⟩) (nI g d))
    (E0 := ⟨[(1, .pointer (some ⟨0, 0, some 0⟩)), (2, .pointer (some ⟨1, 0, some 0⟩)), (3, .slice (some ⟨H.next, 0, none⟩) g.vals.length g.vals.length), (6, .int .i64 ((g.vals.length : Int) - 1 - ((0 : Nat) : Int)))], [[sv p g.ins, sv q g.vals, sv r g.outs], [.slice none 0 0, .slice none 0 0, .slice none 0 0]]⟩) ⟨0, Nat.zero_le _, rfl, rfl, eK, bN⟩ (by (refine ⟨?_, ?_⟩ <;> repeat' first | exact trivial | exact congrArg (fun x => some (Value.int .i64 x)) hw0 | exact rfl | refine ⟨?_, ?_⟩ | fail)) ?_
  clear bN eK hge
  rintro m E K ⟨d, hd, rfl, rfl, eK, bN⟩
  have hgK := hg.mono eK
  have hlen := nI_len g d
  refine ⟨fun hge => ?_, fun hlt => ?_⟩
  · have hd1 : d < g.vals.length := by simp at hge; omega
    obtain ⟨i, hi'⟩ : ∃ i, i = g.vals.length - (d + 1) := ⟨_, rfl⟩
    have hil : i < g.vals.length := by omega
    have hji : ((g.vals.length : Int) - 1 - (d : Int)).toNat = i := by omega
    have hjv : (g.vals.length : Int) - 1 - (d : Int) = (i : Int) := by omega
    have hnI : nI g (d + 1) = setAll (argsL g.vals[i]) (bAt (nI g d) i) (nI g d) := by
      simp only [nI]; rw [← hi', List.getElem?_eq_getElem hil]; rfl
    have hin := hops i _ (List.getElem?_eq_getElem hil)
    have hargs := args_in hin
    have hlw : IntKind.i64.wrap ((g.vals.length : Int) - 1 - (d : Int) - 1) = (g.vals.length : Int) - 1 - ((d + 1 : Nat) : Int) := by rw [wrap_i64 (by omega) (by omega)]; omega
    obtain ⟨bg, og_, rfl⟩ := rdV_some hg.vals (by omega)
    obtain ⟨_, _, _, _, cA⟩ := valF_at hgK.vals (i := (g.vals.length : Int) - 1 - (d : Int)) (by omega) (by omega)
    have hvi : vAtI g.vals ((g.vals.length : Int) - 1 - (d : Int)) = g.vals[i] := by unfold vAtI; rw [hji, List.getElem?_eq_getElem hil]; rfl
    rw [hvi] at cA
    generalize (g.vals.length : Int) - 1 - (d : Int) = j at *
    refine ⟨⟨by omega, by omega⟩, valV g.vals[i], cA, _, operandsOf2_ec K g.vals[i], ?_, fun v K hR => by cases hR.1⟩
    obtain ⟨Ka, rfl⟩ : ∃ Ka, Ka = K := ⟨K, rfl⟩
    rintro _ K1 ⟨hx, rfl⟩
    cases hx
    have hra := args_rd Ka g.vals[i]
    have e1 : Ext Ka (Ka.push (.cells (flat dInt [g.vals[i].a, g.vals[i].b, g.vals[i].c]) 1 true)) := Ext.push _ _
    have hnK : H.next < Ka.next := by cases bN with | blk _ h => exact Ka.lt _ _ h
    refine loop_ind ctx (fun _ => true) (fun m E K => ∃ k : Nat, k ≤ (argsL g.vals[i]).length ∧ m = (argsL g.vals[i]).length - k ∧ E = ⟨[(1, .pointer (some ⟨0, 0, some 0⟩)), (2, .pointer (some ⟨1, 0, some 0⟩)), (3, .slice (some ⟨H.next, 0, none⟩) g.vals.length g.vals.length), (6, .int .i64 j), (43, .slice (some ⟨Ka.next, 0, none⟩) (argsL g.vals[i]).length (argsL g.vals[i]).length), (44, .int .i64 ((argsL g.vals[i]).length : Int)), (45, .int .i64 ((k : Nat) : Int))], [[sv p g.ins, sv (some ⟨bg, og_, none⟩) g.vals, sv r g.outs], [.slice none 0 0, .slice none 0 0, .slice none 0 0]]⟩ ∧ Ext H K ∧ Buf dBool K H.next (some ⟨H.next, 0, none⟩) (setAll ((argsL g.vals[i]).take k) (bAt (nI g d) i) (nI g d)) ∧ Rd dInt K (some ⟨Ka.next, 0, none⟩) (argsL g.vals[i]))
      (E0 := ⟨[(1, .pointer (some ⟨0, 0, some 0⟩)), (2, .pointer (some ⟨1, 0, some 0⟩)), (3, .slice (some ⟨H.next, 0, none⟩) g.vals.length g.vals.length), (6, .int .i64 j), (43, .slice (some ⟨Ka.next, 0, none⟩) (argsL g.vals[i]).length (argsL g.vals[i]).length), (44, .int .i64 ((argsL g.vals[i]).length : Int)), (45, .int .i64 ((0 : Nat) : Int))], [[sv p g.ins, sv (some ⟨bg, og_, none⟩) g.vals, sv r g.outs], [.slice none 0 0, .slice none 0 0, .slice none 0 0]]⟩) ⟨0, Nat.zero_le _, rfl, rfl, eK.trans e1, bN.mono e1, hra⟩ (by (refine ⟨?_, ?_⟩ <;> repeat' first | exact trivial | exact congrArg (fun x => some (Value.int .i64 x)) (wrap_nat (by omega)) | exact sv_eq (by simp; done) | exact rfl | refine ⟨?_, ?_⟩ | fail)) ?_
    clear hra e1
    rintro m E K ⟨k, hk, rfl, rfl, eK, bN, hra⟩
    have hsl : (setAll ((argsL g.vals[i]).take k) (bAt (nI g d) i) (nI g d)).length = g.vals.length := by rw [setAll_len, hlen]
    refine ⟨fun hlt => ?_, fun hge2 => ?_⟩
    · have hlt : k < (argsL g.vals[i]).length := by simpa using hlt
      have ho := hargs _ (List.getElem_mem hlt)
      have c1 := at_cellI hra (j := (k : Int)) (by omega) (by omega)
      have hat : atV (argsL g.vals[i]) (k : Int) = (argsL g.vals[i])[k] := by unfold atV; rw [show ((k : Int)).toNat = k from rfl, List.getElem?_eq_getElem hlt]; rfl
      rw [hat] at c1
      have hsn : setAll ((argsL g.vals[i]).take (k + 1)) (bAt (nI g d) i) (nI g d) = (setAll ((argsL g.vals[i]).take k) (bAt (nI g d) i) (nI g d)).set ((argsL g.vals[i])[k]).toNat (bAt (setAll ((argsL g.vals[i]).take k) (bAt (nI g d) i) (nI g d)) ((argsL g.vals[i])[k]).toNat || bAt (nI g d) i) := by
        rw [List.take_succ_eq_append_getElem hlt, setAll_snoc]
      have hbb : bAt (setAll ((argsL g.vals[i]).take k) (bAt (nI g d) i) (nI g d)) i = bAt (nI g d) i := by
        rw [setAll_at _ i _ _ (fun o ho => by have := hargs o (List.mem_of_mem_take ho); omega)]
        cases bAt (nI g d) i <;> simp
      generalize (argsL g.vals[i])[k] = x at *
      have hco := at_oneI bN.rd (j := x) rfl (bAt_get (show x.toNat < (setAll ((argsL g.vals[i]).take k) (bAt (nI g d) i) (nI g d)).length by omega))
      have hci := at_oneI bN.rd hji (bAt_get (show i < (setAll ((argsL g.vals[i]).take k) (bAt (nI g d) i) (nI g d)).length by omega))
      rw [hbb] at hci
      have hwk := wrap_nat (k := k) (by have := opnd3 g.vals[i].op; have := argsL_len g.vals[i]; omega)
      have hbif : ∀ a b : Bool, (bif a then true else b) = (a || b) := fun a b => by cases a <;> rfl
      obtain ⟨bN2, hst2, hbut2⟩ := stor_one bN (i := x.toNat) (off := 0 + x.toNat * 1) (bif bAt (setAll ((argsL g.vals[i]).take k) (bAt (nI g d) i) (nI g d)) x.toNat then true else bAt (nI g d) i) (by omega) rfl rfl
      refine ⟨⟨by omega, by omega⟩, _, c1, ⟨ho.1, by omega⟩, .bool (bAt (setAll ((argsL g.vals[i]).take k) (bAt (nI g d) i) (nI g d)) x.toNat), hco, fun _ => ⟨by omega, by omega⟩, .bool (bAt (nI g d) i), fun _ => hci, ⟨ho.1, by omega⟩, hst2, ?_⟩
      refine ⟨(argsL g.vals[i]).length - (k + 1), ⟨[(1, .pointer (some ⟨0, 0, some 0⟩)), (2, .pointer (some ⟨1, 0, some 0⟩)), (3, .slice (some ⟨H.next, 0, none⟩) g.vals.length g.vals.length), (6, .int .i64 j), (43, .slice (some ⟨Ka.next, 0, none⟩) (argsL g.vals[i]).length (argsL g.vals[i]).length), (44, .int .i64 ((argsL g.vals[i]).length : Int)), (45, .int .i64 ((k + 1 : Nat) : Int))], [[sv p g.ins, sv (some ⟨bg, og_, none⟩) g.vals, sv r g.outs], [.slice none 0 0, .slice none 0 0, .slice none 0 0]]⟩, by omega, (by (refine ⟨?_, ?_⟩ <;> repeat' first | exact trivial | exact congrArg (fun x => some (Value.int .i64 x)) hwk | exact rfl | refine ⟨?_, ?_⟩ | fail)), k + 1, by omega, rfl, rfl, eK.stor (Nat.le_refl _), by rw [hsn, ← hbif]; exact bN2, rd_keep hra hbut2 (by omega)⟩
    · have hk2 : k = (argsL g.vals[i]).length := by simp at hge2; omega
      subst hk2
      rw [List.take_of_length_le (Nat.le_refl _), ← hnI] at bN
      exact ⟨g.vals.length - (d + 1), ⟨[(1, .pointer (some ⟨0, 0, some 0⟩)), (2, .pointer (some ⟨1, 0, some 0⟩)), (3, .slice (some ⟨H.next, 0, none⟩) g.vals.length g.vals.length), (6, .int .i64 ((g.vals.length : Int) - 1 - ((d + 1 : Nat) : Int)))], [[sv p g.ins, sv (some ⟨bg, og_, none⟩) g.vals, sv r g.outs], [.slice none 0 0, .slice none 0 0, .slice none 0 0]]⟩, by omega, (by (refine ⟨?_, ?_⟩ <;> repeat' first | exact trivial | exact congrArg (fun x => some (Value.int .i64 x)) hlw | exact rfl | refine ⟨?_, ?_⟩ | fail)), d + 1, by omega, rfl, rfl, eK, bN⟩
  · have hd2 : d = g.vals.length := by simp at hlt; omega
    subst hd2
    rw [need_eq hv] at bN
    obtain ⟨Kb, rfl⟩ : ∃ Kb, Kb = K := ⟨K, rfl⟩
    change Buf dBool Kb H.next (some ⟨H.next, 0, none⟩) (needed g) at bN
    have hnl : (needed g).length = g.vals.length := nS_len g g.vals.length
    clear hlen hgK
    have hgK := hg.mono eK
    refine ⟨⟨by omega, by omega, by omega, by dsimp only; omega⟩, ?_⟩
    have bT0 : Buf dInt (Kb.push (.cells (repL g.vals.length [.int .i64 0]) 1 true)) Kb.next (some ⟨Kb.next, 0, none⟩) (dd g 0).1 := by
      refine .blk (Nat.le_refl _) ?_
      rw [push_blk, flat_rep dInt 0 [.int .i64 0] rfl]; rfl
    refine loop_ind ctx (fun _ => true) (fun m E K => ∃ (k : Nat) (qo : Option Addr), k ≤ g.vals.length ∧ m = g.vals.length - k ∧ E = ⟨[(1, .pointer (some ⟨0, 0, some 0⟩)), (2, .pointer (some ⟨1, 0, some 0⟩)), (3, .slice (some ⟨H.next, 0, none⟩) g.vals.length g.vals.length), (9, .slice (some ⟨Kb.next, 0, none⟩) g.vals.length g.vals.length), (10, .pointer (some ⟨2, 0, some 0⟩)), (71, sv q g.vals), (72, .int .i64 (g.vals.length : Int)), (73, .int .i64 ((k : Nat) : Int))], [[sv p g.ins, sv q g.vals, sv r g.outs], [.slice none 0 0, .slice none 0 0, .slice none 0 0], [sv p g.ins, sv qo (dd g (k)).2, .slice none 0 0]]⟩ ∧ Ext Kb K ∧ Kb.next + 1 ≤ K.next ∧ Buf dInt K Kb.next (some ⟨Kb.next, 0, none⟩) (dd g k).1 ∧ Buf dVal K (Kb.next + 1) qo (dd g k).2)
      (E0 := ⟨[(1, .pointer (some ⟨0, 0, some 0⟩)), (2, .pointer (some ⟨1, 0, some 0⟩)), (3, .slice (some ⟨H.next, 0, none⟩) g.vals.length g.vals.length), (9, .slice (some ⟨Kb.next, 0, none⟩) g.vals.length g.vals.length), (10, .pointer (some ⟨2, 0, some 0⟩)), (71, sv q g.vals), (72, .int .i64 (g.vals.length : Int)), (73, .int .i64 ((0 : Nat) : Int))], [[sv p g.ins, sv q g.vals, sv r g.outs], [.slice none 0 0, .slice none 0 0, .slice none 0 0], [sv p g.ins, sv none (dd g (0)).2, .slice none 0 0]]⟩) ⟨0, none, Nat.zero_le _, rfl, rfl, Ext.push _ _, Nat.le_refl _, bT0, .nil⟩ (by (refine ⟨?_, ?_⟩ <;> repeat' first | exact trivial | exact congrArg (fun x => some (Value.int .i64 x)) (wrap_nat (by omega)) | exact sv_eq (by simp; done) | exact rfl | refine ⟨?_, ?_⟩ | fail)) ?_
    clear bT0
    rintro m E K ⟨k, qo, hk, rfl, rfl, e3, n3, bT, bq⟩
    have EK := eK.trans e3
    have bNK := bN.mono e3
    obtain ⟨hd1, hd2⟩ := dd_len g k
    refine ⟨fun hlt => ?_, fun hge => ?_⟩
    · have hlt : k < g.vals.length := by simpa using hlt
      obtain ⟨bg, og_, rfl⟩ := rdV_some hg.vals (by omega)
      have hgk := hg.mono EK
      have hin := hops k _ (List.getElem?_eq_getElem hlt)
      have hcell := at_oneI bNK.rd (j := (k : Int)) rfl (bAt_get (show k < (needed g).length by omega))
      have hva := (valF_at hgk.vals (i := (k : Int)) (by omega) (by omega)).2.2.2.2
      have hvk : vAtI g.vals (k : Int) = g.vals[k] := by unfold vAtI; rw [show ((k : Int)).toNat = k from rfl, List.getElem?_eq_getElem hlt]; rfl
      rw [hvk] at hva
      have hwk := wrap_nat (k := k) (by omega)
      refine ⟨⟨by omega, by omega⟩, valV g.vals[k], hva, ⟨by omega, by omega⟩, .bool (bAt (needed g) k), hcell, fun hy => ?_, fun hn => ?_⟩
      · have hdd : dd g (k + 1) = ((dd g k).1.set k ((dd g k).2.length : Int), (dd g k).2 ++ [withV g.vals[k] ((dd g k).1.set k ((dd g k).2.length : Int))]) := by
          simp only [dd]; rw [if_pos hy, List.getElem?_eq_getElem hlt]; rfl
        obtain ⟨bT4, hst4, hbut4⟩ := stor_one bT (i := k) (off := 0 + (k : Int).toNat * 1) ((dd g k).2.length : Int) (by omega) (by rfl) rfl
        refine ⟨⟨by omega, by omega⟩, hst4, ?_⟩
        have o4 : Out Kb.next (Kb.next + 1) _ _ := hbut4.out fun b o e => by cases e; omega
        have e4 : Ext Kb (K.stor Kb.next (0 + (k : Int).toNat * 1) [.int .i64 ((dd g k).2.length : Int)]) := e3.stor (Nat.le_refl _)
        have n4 : K.next ≤ (K.stor Kb.next (0 + (k : Int).toNat * 1) [.int .i64 ((dd g k).2.length : Int)]).next := o4.next
        have bq4 := bq.out o4 fun b o e => .inr (by have := bq.lt e; omega)
        have hTl : ((dd g k).1.set k ((dd g k).2.length : Int)).length = g.vals.length := by rw [List.length_set, hd1]
        have hec := replaced_ec (K.stor Kb.next (0 + (k : Int).toNat * 1) [.int .i64 ((dd g k).2.length : Int)]) (some ⟨Kb.next, 0, none⟩) ((dd g k).1.set k ((dd g k).2.length : Int)) g.vals[k] bT4.rd (by rw [hTl]; exact hin.mono (by omega))
        rw [show sv (some ⟨Kb.next, 0, none⟩) ((dd g k).1.set k ((dd g k).2.length : Int)) = .slice (some ⟨Kb.next, 0, none⟩) g.vals.length g.vals.length by show Value.slice _ _ _ = _; rw [hTl]] at hec
        refine ⟨.leaf [([0, 1, 2, 3], some 4), ([], some 5), ([], some 6), ([7], some 8), ([], none)] [0, 1], by kernel_rfl, ?_⟩
        refine ⟨_, hec, ?_, fun v K hR => by cases hR.1⟩
        rintro _ K5 ⟨hx, e5⟩
        cases hx
        generalize hw : withV g.vals[k] ((dd g k).1.set k ((dd g k).2.length : Int)) = w at *
        have n5 := e5.next
        have bT5 := bT4.mono e5
        have hb1 := (bq4.mono e5).mono (Ext.push K5 (.cells (flat dVal [w]) 6 true))
        refine ⟨_, run_push _ _ _ _ (Nat.le_refl 6), by dsimp only; omega, by dsimp only; omega, _, hb1.own, ?_⟩
        refine ⟨g.vals.length - (k + 1), ⟨[(1, .pointer (some ⟨0, 0, some 0⟩)), (2, .pointer (some ⟨1, 0, some 0⟩)), (3, .slice (some ⟨H.next, 0, none⟩) g.vals.length g.vals.length), (9, .slice (some ⟨Kb.next, 0, none⟩) g.vals.length g.vals.length), (10, .pointer (some ⟨2, 0, some 0⟩)), (71, sv (some ⟨bg, og_, none⟩) g.vals), (72, .int .i64 (g.vals.length : Int)), (73, .int .i64 ((k + 1 : Nat) : Int))], [[sv p g.ins, sv (some ⟨bg, og_, none⟩) g.vals, sv r g.outs], [.slice none 0 0, .slice none 0 0, .slice none 0 0], [sv p g.ins, sv (some ⟨K5.next + 1, 0, none⟩) (dd g (k + 1)).2, .slice none 0 0]]⟩, by omega, ?_, k + 1, some ⟨K5.next + 1, 0, none⟩, by omega, rfl, rfl, ?_, ?_, ?_, ?_⟩
        · rw [hdd]
          dsimp only
          rw [← sv_appX _ _ ([w] : List Val) rfl]
          exact (by (refine ⟨?_, ?_⟩ <;> repeat' first | exact trivial | exact congrArg (fun x => some (Value.int .i64 x)) hwk | exact rfl | refine ⟨?_, ?_⟩ | fail))
        · exact (hb1.killO ((e4.trans e5).push' _) (Nat.le_succ _)).push' _
        · show Kb.next + 1 ≤ K5.next + 1 + 1; omega
        · rw [hdd]
          exact ((bT5.mono (Ext.push _ _)).killB hb1 fun b f e => by cases e; omega).mono (Ext.push _ _)
        · rw [hdd]
          exact hb1.app rfl (by show Kb.next + 1 ≤ K5.next + 1; omega)
      · have hdd : dd g (k + 1) = dd g k := by
          simp only [dd]; rw [if_neg (by rw [hn]; simp)]
        refine ⟨g.vals.length - (k + 1), ⟨[(1, .pointer (some ⟨0, 0, some 0⟩)), (2, .pointer (some ⟨1, 0, some 0⟩)), (3, .slice (some ⟨H.next, 0, none⟩) g.vals.length g.vals.length), (9, .slice (some ⟨Kb.next, 0, none⟩) g.vals.length g.vals.length), (10, .pointer (some ⟨2, 0, some 0⟩)), (71, sv (some ⟨bg, og_, none⟩) g.vals), (72, .int .i64 (g.vals.length : Int)), (73, .int .i64 ((k + 1 : Nat) : Int))], [[sv p g.ins, sv (some ⟨bg, og_, none⟩) g.vals, sv r g.outs], [.slice none 0 0, .slice none 0 0, .slice none 0 0], [sv p g.ins, sv qo (dd g (k + 1)).2, .slice none 0 0]]⟩, by omega, ?_, k + 1, qo, by omega, rfl, rfl, e3, n3, by rw [hdd]; exact bT, by rw [hdd]; exact bq⟩
        rw [hdd]
        exact (by (refine ⟨?_, ?_⟩ <;> repeat' first | exact trivial | exact congrArg (fun x => some (Value.int .i64 x)) hwk | exact rfl | refine ⟨?_, ?_⟩ | fail))
    · have hk' : k = g.vals.length := by simp at hge; omega
      subst hk'
      obtain ⟨Kc, rfl⟩ : ∃ Kc, Kc = K := ⟨K, rfl⟩
      have hmlen : (g.outs.map (atV (dd g g.vals.length).1)).length = g.outs.length := by simp
      refine loop_ind ctx (fun _ => true) (fun m E K => ∃ (k : Nat) (ro : Option Addr), k ≤ g.outs.length ∧ m = g.outs.length - k ∧ E = ⟨[(1, .pointer (some ⟨0, 0, some 0⟩)), (2, .pointer (some ⟨1, 0, some 0⟩)), (9, .slice (some ⟨Kb.next, 0, none⟩) g.vals.length g.vals.length), (10, .pointer (some ⟨2, 0, some 0⟩)), (98, sv r g.outs), (99, .int .i64 (g.outs.length : Int)), (100, .int .i64 ((k : Nat) : Int))], [[sv p g.ins, sv q g.vals, sv r g.outs], [.slice none 0 0, .slice none 0 0, .slice none 0 0], [sv p g.ins, sv qo (dd g g.vals.length).2, sv ro ((g.outs.map (atV (dd g g.vals.length).1)).take (k))]]⟩ ∧ Ext Kc K ∧ Buf dInt K Kc.next ro ((g.outs.map (atV (dd g g.vals.length).1)).take k))
        (E0 := ⟨[(1, .pointer (some ⟨0, 0, some 0⟩)), (2, .pointer (some ⟨1, 0, some 0⟩)), (9, .slice (some ⟨Kb.next, 0, none⟩) g.vals.length g.vals.length), (10, .pointer (some ⟨2, 0, some 0⟩)), (98, sv r g.outs), (99, .int .i64 (g.outs.length : Int)), (100, .int .i64 ((0 : Nat) : Int))], [[sv p g.ins, sv q g.vals, sv r g.outs], [.slice none 0 0, .slice none 0 0, .slice none 0 0], [sv p g.ins, sv qo (dd g g.vals.length).2, sv none ((g.outs.map (atV (dd g g.vals.length).1)).take (0))]]⟩) ⟨0, none, Nat.zero_le _, rfl, rfl, Ext.refl _, .nil⟩ (by (refine ⟨?_, ?_⟩ <;> repeat' first | exact trivial | exact congrArg (fun x => some (Value.int .i64 x)) (wrap_nat (by omega)) | exact sv_eq (by simp; done) | exact rfl | refine ⟨?_, ?_⟩ | fail)) ?_
      rintro m E K ⟨k, ro, hk, rfl, rfl, e5, br⟩
      have EK := EK.trans e5
      have hgk := hg.mono EK
      refine ⟨fun hlt => ?_, fun hge => ?_⟩
      · have hlt : k < g.outs.length := by simpa using hlt
        obtain ⟨br_, or_, rfl⟩ := rdI_some hg.outs (by omega)
        have hin := houts _ (List.getElem_mem hlt)
        have c1 := at_cellI hgk.outs (j := (k : Int)) (by omega) (by omega)
        have hat : atV g.outs (k : Int) = g.outs[k] := by unfold atV; rw [show ((k : Int)).toNat = k from rfl, List.getElem?_eq_getElem hlt]; rfl
        rw [hat] at c1
        have c2 := at_cellI (bT.mono e5).rd (j := g.outs[k]) hin.1 (by rw [hd1]; exact hin.2)
        have hwk := wrap_nat (k := k) (by omega)
        have htk : (g.outs.map (atV (dd g g.vals.length).1)).take (k + 1) = (g.outs.map (atV (dd g g.vals.length).1)).take k ++ [atV (dd g g.vals.length).1 g.outs[k]] := by
          rw [List.take_succ_eq_append_getElem (by rw [hmlen]; exact hlt), List.getElem_map]
        have htl : ((g.outs.map (atV (dd g g.vals.length).1)).take k).length = k := by rw [List.length_take, hmlen]; omega
        have hb1 := br.mono (Ext.push K (.cells (flat dInt [atV (dd g g.vals.length).1 g.outs[k]]) 1 true))
        refine ⟨⟨by omega, by omega⟩, _, c1, .leaf [([0, 1, 2, 3, 4, 5], some 6), ([], some 7), ([8], some 9), ([], none)] [0, 1], by kernel_rfl, ⟨hin.1, by omega⟩, _, c2, _, run_push _ _ _ _ (Nat.le_refl 1), by dsimp only; omega, by dsimp only; omega, _, hb1.own, ?_⟩
        refine ⟨g.outs.length - (k + 1), ⟨[(1, .pointer (some ⟨0, 0, some 0⟩)), (2, .pointer (some ⟨1, 0, some 0⟩)), (9, .slice (some ⟨Kb.next, 0, none⟩) g.vals.length g.vals.length), (10, .pointer (some ⟨2, 0, some 0⟩)), (98, sv (some ⟨br_, or_, none⟩) g.outs), (99, .int .i64 (g.outs.length : Int)), (100, .int .i64 ((k + 1 : Nat) : Int))], [[sv p g.ins, sv q g.vals, sv (some ⟨br_, or_, none⟩) g.outs], [.slice none 0 0, .slice none 0 0, .slice none 0 0], [sv p g.ins, sv qo (dd g g.vals.length).2, sv (some ⟨K.next + 1, 0, none⟩) ((g.outs.map (atV (dd g g.vals.length).1)).take (k + 1))]]⟩, by omega, ?_, k + 1, some ⟨K.next + 1, 0, none⟩, by omega, rfl, rfl, (hb1.killO (e5.push' _) (Nat.le_refl _)).push' _, ?_⟩
        · rw [htk, ← sv_appX _ _ ([atV (dd g g.vals.length).1 g.outs[k]] : List Int) rfl]
          exact (by (refine ⟨?_, ?_⟩ <;> repeat' first | exact trivial | exact congrArg (fun x => some (Value.int .i64 x)) hwk | exact rfl | refine ⟨?_, ?_⟩ | fail))
        · rw [htk]
          exact hb1.app rfl (by show Kc.next ≤ K.next + 1; have := e5.next; omega)
      · have hk2 : k = g.outs.length := by simp at hge; omega
        subst hk2
        rw [List.take_of_length_le (by rw [hmlen]; exact Nat.le_refl _)] at br ⊢
        have nK := eK.next
        have hpi : ∀ b f, p = some ⟨b, f, none⟩ → b < hi := og.hi_.1
        exact ⟨p, qo, ro, rfl, ownG_of (og.i.mono EK) ((bq.mono e5).wider (by omega)) (br.wider (by omega)) (fun b e => ⟨fun e' => by have := hpi b 0 e; have := bq.lt e'; omega, fun e' => by have := hpi b 0 e; have := br.lt e'; omega⟩) (fun b e e' => by have := bq.lt e; have := br.lt e'; omega), Out.of_ext EK⟩
end Go.Proofs.Ytlcocgoaphpjkaa
