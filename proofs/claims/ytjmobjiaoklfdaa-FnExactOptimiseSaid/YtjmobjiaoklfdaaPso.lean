/- deadPass: the program's, walked. Conditions: those of each. foldPass: the program's, walked. Conditions: those of each. -/
import Derived.Test.YtjmobjiaoklfdaaPsi
import Derived.Test.YtjmobjiaoklfdaaPsk
import Derived.Test.YtjmobjiaoklfdaaPsn
set_option linter.unusedVariables false
set_option linter.unusedSimpArgs false
namespace Go.Proofs.Ytjmobjiaoklfdaa
open Go.Am
open FlCore (canon isNan)

theorem operandsOf2_ec (H : Heap) (v : Val) : EC Try.prog 64 [valV v] H fun r H' => r = .ret (.slice (some ⟨H.next, 0, none⟩) (argsL v).length (argsL v).length) ∧ H' = H.push (.cells (flat dInt [v.a, v.b, v.c]) 1 true) := by
  have hr := opnd3 v.op
  refine EC_fn ctx (fun _ => true) Try.func64 rfl rfl rfl ?_
  have hb : Rd dInt (H.push (.cells (flat dInt [v.a, v.b, v.c]) dInt.sz true)) (some ⟨H.next, 0, none⟩) [v.a, v.b, v.c] := Rd.push _ _
  refine ⟨.leaf [([0, 1, 2, 3, 4, 5, 7, 8, 9], some 6), ([10, 11], none)] [7, 8, 9], by kernel_rfl, opnd v.op |> Value.int .i64, fun H' => operands_pc H' _, ⟨by omega, by omega, by omega, hb.ez (by simp)⟩, ?_, rfl⟩
  rw [argsL_len]
  rfl
theorem args_rd (K : Heap) (v : Val) : Rd dInt (K.push (.cells (flat dInt [v.a, v.b, v.c]) 1 true)) (some ⟨K.next, 0, none⟩) (argsL v) := by
  have hr := opnd3 v.op
  have hb : Rd dInt (K.push (.cells (flat dInt [v.a, v.b, v.c]) dInt.sz true)) (some ⟨K.next, 0, none⟩) [v.a, v.b, v.c] := Rd.push _ _
  have hsub := hb.sub (l := 0) (n := (opnd v.op).toNat) (by simp; omega)
  exact hsub
theorem rd_keep {α : Type} {d : Enc α} {K K' : Heap} {b : Nat} {xs : List α} {N : Nat} (h : Rd d K (some ⟨b, 0, none⟩) xs) (hb : But (some ⟨N, 0, none⟩) K K') (hne : b ≠ N) : Rd d K' (some ⟨b, 0, none⟩) xs := ⟨h.sh, fun hx => by
  obtain ⟨b', o', cs, rw_, h1, h2, h3⟩ := h.at_ hx
  cases h1
  exact ⟨b, 0, cs, rw_, rfl, hb.same _ _ (fun o e => by cases e; exact hne rfl) h2, h3⟩⟩
set_option maxHeartbeats 2000000 in
theorem deadPass_ec (H : Heap) (lo hi : Nat) (p q r : Option Addr) (g : Graph) (hv : validB g = true) (og : OwnG H lo hi p q r g) (hlo : lo ≤ hi) (hn : hi ≤ H.next) :
    EC Try.prog 51 [gV p q r g] H (PR H lo hi (deadG g)) := by
  obtain ⟨h1, h2, h3⟩ := valid_lens hv
  have hops := valid_ops hv
  have houts := valid_outs hv
  have hg := og.rd
  refine EC_fn ctx (fun _ => true) Try.func51 rfl rfl rfl ?_
  refine ⟨⟨by omega, by omega, by omega, by dsimp only; omega⟩, ?_⟩
  have hb0 : Buf dBool (H.push (.cells (repL g.vals.length [.bool false]) 1 true)) H.next (some ⟨H.next, 0, none⟩) (setAll (g.outs.take 0) true (List.replicate g.vals.length false)) := by
    refine .blk (Nat.le_refl _) ?_
    rw [push_blk, flat_rep dBool false [.bool false] rfl]; rfl
  have hal : ∀ os, (setAll os true (List.replicate g.vals.length false)).length = g.vals.length := fun os => by rw [setAll_len]; simp
  refine loop_ind ctx (fun _ => true) (fun m E K => ∃ k : Nat, k ≤ g.outs.length ∧ m = g.outs.length - k ∧ E = ⟨[(1, .pointer (some ⟨0, 0, some 0⟩)), (2, .pointer (some ⟨1, 0, some 0⟩)), (3, .slice (some ⟨H.next, 0, none⟩) g.vals.length g.vals.length), (20, sv r g.outs), (21, .int .i64 (g.outs.length : Int)), (22, .int .i64 ((k : Nat) : Int))], [[sv p g.ins, sv q g.vals, sv r g.outs], [.slice none 0 0, .slice none 0 0, .slice none 0 0]]⟩ ∧ Ext H K ∧ Buf dBool K H.next (some ⟨H.next, 0, none⟩) (setAll (g.outs.take k) true (List.replicate g.vals.length false)))
    (E0 := ⟨[(1, .pointer (some ⟨0, 0, some 0⟩)), (2, .pointer (some ⟨1, 0, some 0⟩)), (3, .slice (some ⟨H.next, 0, none⟩) g.vals.length g.vals.length), (20, sv r g.outs), (21, .int .i64 (g.outs.length : Int)), (22, .int .i64 ((0 : Nat) : Int))], [[sv p g.ins, sv q g.vals, sv r g.outs], [.slice none 0 0, .slice none 0 0, .slice none 0 0]]⟩) ⟨0, Nat.zero_le _, rfl, rfl, Ext.push _ _, hb0⟩ (by (refine ⟨?_, ?_⟩ <;> repeat' first | exact trivial | exact congrArg (fun x => some (Value.int .i64 x)) (wrap_nat (by omega)) | exact sv_eq (by simp; done) | exact rfl | refine ⟨?_, ?_⟩ | fail)) ?_
  clear hb0
  rintro m E K ⟨k, hk, rfl, rfl, eK, bN⟩
  refine ⟨fun hlt => ?_, fun hge => ?_⟩
  · have hlt : k < g.outs.length := by simpa using hlt
    obtain ⟨br_, or_, rfl⟩ := rdI_some hg.outs (by omega)
    have hgk := hg.mono eK
    have hin := houts _ (List.getElem_mem hlt)
    have c1 := at_cellI hgk.outs (j := (k : Int)) (by omega) (by omega)
    have hat : atV g.outs (k : Int) = g.outs[k] := by unfold atV; rw [show ((k : Int)).toNat = k from rfl, List.getElem?_eq_getElem hlt]; rfl
    rw [hat] at c1
    have hwk := wrap_nat (k := k) (by omega)
    have hl := hal (g.outs.take k)
    obtain ⟨bN2, hst2, hbut2⟩ := stor_one bN (i := (g.outs[k]).toNat) (off := 0 + (g.outs[k]).toNat * 1) true (by omega) rfl rfl
    refine ⟨⟨by omega, by omega⟩, _, c1, ⟨hin.1, by omega⟩, hst2, ?_⟩
    refine ⟨g.outs.length - (k + 1), ⟨[(1, .pointer (some ⟨0, 0, some 0⟩)), (2, .pointer (some ⟨1, 0, some 0⟩)), (3, .slice (some ⟨H.next, 0, none⟩) g.vals.length g.vals.length), (20, sv (some ⟨br_, or_, none⟩) g.outs), (21, .int .i64 (g.outs.length : Int)), (22, .int .i64 ((k + 1 : Nat) : Int))], [[sv p g.ins, sv q g.vals, sv (some ⟨br_, or_, none⟩) g.outs], [.slice none 0 0, .slice none 0 0, .slice none 0 0]]⟩, by omega, (by (refine ⟨?_, ?_⟩ <;> repeat' first | exact trivial | exact congrArg (fun x => some (Value.int .i64 x)) hwk | exact rfl | refine ⟨?_, ?_⟩ | fail)), k + 1, by omega, rfl, rfl, eK.stor (Nat.le_refl _), ?_⟩
    rw [List.take_succ_eq_append_getElem hlt, setAll_snoc]
    have : (bAt (setAll (g.outs.take k) true (List.replicate g.vals.length false)) (g.outs[k]).toNat || true) = true := by simp
    rw [this]
    exact bN2
  have hk0 : k = g.outs.length := by simp at hge; omega
  subst hk0
  rw [List.take_of_length_le (Nat.le_refl _)] at bN
  have hw0 : IntKind.i64.wrap ((g.vals.length : Int) - 1) = (g.vals.length : Int) - 1 - ((0 : Nat) : Int) := by rw [wrap_i64 (by omega) (by omega)]; omega
  refine loop_ind ctx (fun _ => true) (fun m E K => ∃ d : Nat, d ≤ g.vals.length ∧ m = g.vals.length - d ∧ E = ⟨[(1, .pointer (some ⟨0, 0, some 0⟩)), (2, .pointer (some ⟨1, 0, some 0⟩)), (3, .slice (some ⟨H.next, 0, none⟩) g.vals.length g.vals.length), (6, .int .i64 ((g.vals.length : Int) - 1 - (d : Int)))], [[sv p g.ins, sv q g.vals, sv r g.outs], [.slice none 0 0, .slice none 0 0, .slice none 0 0]]⟩ ∧ Ext H K ∧ Buf dBool K H.next (some ⟨H.next, 0, none⟩) (nI g d))
    (E0 := ⟨[(1, .pointer (some ⟨0, 0, some 0⟩)), (2, .pointer (some ⟨1, 0, some 0⟩)), (3, .slice (some ⟨H.next, 0, none⟩) g.vals.length g.vals.length), (6, .int .i64 ((g.vals.length : Int) - 1 - ((0 : Nat) : Int)))], [[sv p g.ins, sv q g.vals, sv r g.outs], [.slice none 0 0, .slice none 0 0, .slice none 0 0]]⟩) ⟨0, Nat.zero_le _, rfl, rfl, eK, bN⟩ (by (refine ⟨?_, ?_⟩ <;> repeat' first | exact trivial | exact congrArg (fun x => some (Value.int .i64 x)) hw0 | exact rfl | refine ⟨?_, ?_⟩ | fail)) ?_
  clear bN eK hge
  rintro m E K ⟨d, hd, rfl, rfl, eK, bN⟩
  have hgK := hg.mono eK
  have hlen := nI_len g d
  refine ⟨fun hge => ?_, fun hlt => ?_⟩
  · have hd1 : d < g.vals.length := by simp at hge; omega
    obtain ⟨i, hi'⟩ : ∃ i, i = g.vals.length - (d + 1) := ⟨_, rfl⟩
    have hil : i < g.vals.length := by omega
    have hji : ((g.vals.length : Int) - 1 - (d : Int)).toNat = i := by omega
    have hjv : (g.vals.length : Int) - 1 - (d : Int) = (i : Int) := by omega
    have hnI : nI g (d + 1) = setAll (argsL g.vals[i]) (bAt (nI g d) i) (nI g d) := by
      simp only [nI]; rw [← hi', List.getElem?_eq_getElem hil]; rfl
    have hin := hops i _ (List.getElem?_eq_getElem hil)
    have hargs := args_in hin
    have hlw : IntKind.i64.wrap ((g.vals.length : Int) - 1 - (d : Int) - 1) = (g.vals.length : Int) - 1 - ((d + 1 : Nat) : Int) := by rw [wrap_i64 (by omega) (by omega)]; omega
    obtain ⟨bg, og_, rfl⟩ := rdV_some hg.vals (by omega)
    obtain ⟨_, _, _, _, cA⟩ := valF_at hgK.vals (i := (g.vals.length : Int) - 1 - (d : Int)) (by omega) (by omega)
    have hvi : vAtI g.vals ((g.vals.length : Int) - 1 - (d : Int)) = g.vals[i] := by unfold vAtI; rw [hji, List.getElem?_eq_getElem hil]; rfl
    rw [hvi] at cA
    generalize (g.vals.length : Int) - 1 - (d : Int) = j at *
    refine ⟨⟨by omega, by omega⟩, valV g.vals[i], cA, _, operandsOf2_ec K g.vals[i], ?_, fun v K hR => by cases hR.1⟩
    obtain ⟨Ka, rfl⟩ : ∃ Ka, Ka = K := ⟨K, rfl⟩
    rintro _ K1 ⟨hx, rfl⟩
    cases hx
    have hra := args_rd Ka g.vals[i]
    have e1 : Ext Ka (Ka.push (.cells (flat dInt [g.vals[i].a, g.vals[i].b, g.vals[i].c]) 1 true)) := Ext.push _ _
    have hnK : H.next < Ka.next := by cases bN with | blk _ h => exact Ka.lt _ _ h
    refine loop_ind ctx (fun _ => true) (fun m E K => ∃ k : Nat, k ≤ (argsL g.vals[i]).length ∧ m = (argsL g.vals[i]).length - k ∧ E = ⟨[(1, .pointer (some ⟨0, 0, some 0⟩)), (2, .pointer (some ⟨1, 0, some 0⟩)), (3, .slice (some ⟨H.next, 0, none⟩) g.vals.length g.vals.length), (6, .int .i64 j), (43, .slice (some ⟨Ka.next, 0, none⟩) (argsL g.vals[i]).length (argsL g.vals[i]).length), (44, .int .i64 ((argsL g.vals[i]).length : Int)), (45, .int .i64 ((k : Nat) : Int))], [[sv p g.ins, sv (some ⟨bg, og_, none⟩) g.vals, sv r g.outs], [.slice none 0 0, .slice none 0 0, .slice none 0 0]]⟩ ∧ Ext H K ∧ Buf dBool K H.next (some ⟨H.next, 0, none⟩) (setAll ((argsL g.vals[i]).take k) (bAt (nI g d) i) (nI g d)) ∧ Rd dInt K (some ⟨Ka.next, 0, none⟩) (argsL g.vals[i]))
      (E0 := ⟨[(1, .pointer (some ⟨0, 0, some 0⟩)), (2, .pointer (some ⟨1, 0, some 0⟩)), (3, .slice (some ⟨H.next, 0, none⟩) g.vals.length g.vals.length), (6, .int .i64 j), (43, .slice (some ⟨Ka.next, 0, none⟩) (argsL g.vals[i]).length (argsL g.vals[i]).length), (44, .int .i64 ((argsL g.vals[i]).length : Int)), (45, .int .i64 ((0 : Nat) : Int))], [[sv p g.ins, sv (some ⟨bg, og_, none⟩) g.vals, sv r g.outs], [.slice none 0 0, .slice none 0 0, .slice none 0 0]]⟩) ⟨0, Nat.zero_le _, rfl, rfl, eK.trans e1, bN.mono e1, hra⟩ (by (refine ⟨?_, ?_⟩ <;> repeat' first | exact trivial | exact congrArg (fun x => some (Value.int .i64 x)) (wrap_nat (by omega)) | exact sv_eq (by simp; done) | exact rfl | refine ⟨?_, ?_⟩ | fail)) ?_
    clear hra e1
    rintro m E K ⟨k, hk, rfl, rfl, eK, bN, hra⟩
    have hsl : (setAll ((argsL g.vals[i]).take k) (bAt (nI g d) i) (nI g d)).length = g.vals.length := by rw [setAll_len, hlen]
    refine ⟨fun hlt => ?_, fun hge2 => ?_⟩
    · have hlt : k < (argsL g.vals[i]).length := by simpa using hlt
      have ho := hargs _ (List.getElem_mem hlt)
      have c1 := at_cellI hra (j := (k : Int)) (by omega) (by omega)
      have hat : atV (argsL g.vals[i]) (k : Int) = (argsL g.vals[i])[k] := by unfold atV; rw [show ((k : Int)).toNat = k from rfl, List.getElem?_eq_getElem hlt]; rfl
      rw [hat] at c1
      have hsn : setAll ((argsL g.vals[i]).take (k + 1)) (bAt (nI g d) i) (nI g d) = (setAll ((argsL g.vals[i]).take k) (bAt (nI g d) i) (nI g d)).set ((argsL g.vals[i])[k]).toNat (bAt (setAll ((argsL g.vals[i]).take k) (bAt (nI g d) i) (nI g d)) ((argsL g.vals[i])[k]).toNat || bAt (nI g d) i) := by
        rw [List.take_succ_eq_append_getElem hlt, setAll_snoc]
      have hbb : bAt (setAll ((argsL g.vals[i]).take k) (bAt (nI g d) i) (nI g d)) i = bAt (nI g d) i := by
        rw [setAll_at _ i _ _ (fun o ho => by have := hargs o (List.mem_of_mem_take ho); omega)]
        cases bAt (nI g d) i <;> simp
      generalize (argsL g.vals[i])[k] = x at *
      have hco := at_oneI bN.rd (j := x) rfl (bAt_get (show x.toNat < (setAll ((argsL g.vals[i]).take k) (bAt (nI g d) i) (nI g d)).length by omega))
      have hci := at_oneI bN.rd hji (bAt_get (show i < (setAll ((argsL g.vals[i]).take k) (bAt (nI g d) i) (nI g d)).length by omega))
      rw [hbb] at hci
      have hwk := wrap_nat (k := k) (by have := opnd3 g.vals[i].op; have := argsL_len g.vals[i]; omega)
      have hbif : ∀ a b : Bool, (bif a then true else b) = (a || b) := fun a b => by cases a <;> rfl
      obtain ⟨bN2, hst2, hbut2⟩ := stor_one bN (i := x.toNat) (off := 0 + x.toNat * 1) (bif bAt (setAll ((argsL g.vals[i]).take k) (bAt (nI g d) i) (nI g d)) x.toNat then true else bAt (nI g d) i) (by omega) rfl rfl
      refine ⟨⟨by omega, by omega⟩, _, c1, ⟨ho.1, by omega⟩, .bool (bAt (setAll ((argsL g.vals[i]).take k) (bAt (nI g d) i) (nI g d)) x.toNat), hco, fun _ => ⟨by omega, by omega⟩, .bool (bAt (nI g d) i), fun _ => hci, ⟨ho.1, by omega⟩, hst2, ?_⟩
      refine ⟨(argsL g.vals[i]).length - (k + 1), ⟨[(1, .pointer (some ⟨0, 0, some 0⟩)), (2, .pointer (some ⟨1, 0, some 0⟩)), (3, .slice (some ⟨H.next, 0, none⟩) g.vals.length g.vals.length), (6, .int .i64 j), (43, .slice (some ⟨Ka.next, 0, none⟩) (argsL g.vals[i]).length (argsL g.vals[i]).length), (44, .int .i64 ((argsL g.vals[i]).length : Int)), (45, .int .i64 ((k + 1 : Nat) : Int))], [[sv p g.ins, sv (some ⟨bg, og_, none⟩) g.vals, sv r g.outs], [.slice none 0 0, .slice none 0 0, .slice none 0 0]]⟩, by omega, (by (refine ⟨?_, ?_⟩ <;> repeat' first | exact trivial | exact congrArg (fun x => some (Value.int .i64 x)) hwk | exact rfl | refine ⟨?_, ?_⟩ | fail)), k + 1, by omega, rfl, rfl, eK.stor (Nat.le_refl _), by rw [hsn, ← hbif]; exact bN2, rd_keep hra hbut2 (by omega)⟩
    · have hk2 : k = (argsL g.vals[i]).length := by simp at hge2; omega
      subst hk2
      rw [List.take_of_length_le (Nat.le_refl _), ← hnI] at bN
      exact ⟨g.vals.length - (d + 1), ⟨[(1, .pointer (some ⟨0, 0, some 0⟩)), (2, .pointer (some ⟨1, 0, some 0⟩)), (3, .slice (some ⟨H.next, 0, none⟩) g.vals.length g.vals.length), (6, .int .i64 ((g.vals.length : Int) - 1 - ((d + 1 : Nat) : Int)))], [[sv p g.ins, sv (some ⟨bg, og_, none⟩) g.vals, sv r g.outs], [.slice none 0 0, .slice none 0 0, .slice none 0 0]]⟩, by omega, (by (refine ⟨?_, ?_⟩ <;> repeat' first | exact trivial | exact congrArg (fun x => some (Value.int .i64 x)) hlw | exact rfl | refine ⟨?_, ?_⟩ | fail)), d + 1, by omega, rfl, rfl, eK, bN⟩
  · have hd2 : d = g.vals.length := by simp at hlt; omega
    subst hd2
    rw [need_eq hv] at bN
    obtain ⟨Kb, rfl⟩ : ∃ Kb, Kb = K := ⟨K, rfl⟩
    change Buf dBool Kb H.next (some ⟨H.next, 0, none⟩) (needed g) at bN
    have hnl : (needed g).length = g.vals.length := nS_len g g.vals.length
    clear hlen hgK
    have hgK := hg.mono eK
    refine ⟨⟨by omega, by omega, by omega, by dsimp only; omega⟩, ?_⟩
    have bT0 : Buf dInt (Kb.push (.cells (repL g.vals.length [.int .i64 0]) 1 true)) Kb.next (some ⟨Kb.next, 0, none⟩) (dd g 0).1 := by
      refine .blk (Nat.le_refl _) ?_
      rw [push_blk, flat_rep dInt 0 [.int .i64 0] rfl]; rfl
    refine loop_ind ctx (fun _ => true) (fun m E K => ∃ (k : Nat) (qo : Option Addr), k ≤ g.vals.length ∧ m = g.vals.length - k ∧ E = ⟨[(1, .pointer (some ⟨0, 0, some 0⟩)), (2, .pointer (some ⟨1, 0, some 0⟩)), (3, .slice (some ⟨H.next, 0, none⟩) g.vals.length g.vals.length), (9, .slice (some ⟨Kb.next, 0, none⟩) g.vals.length g.vals.length), (10, .pointer (some ⟨2, 0, some 0⟩)), (71, sv q g.vals), (72, .int .i64 (g.vals.length : Int)), (73, .int .i64 ((k : Nat) : Int))], [[sv p g.ins, sv q g.vals, sv r g.outs], [.slice none 0 0, .slice none 0 0, .slice none 0 0], [sv p g.ins, sv qo (dd g (k)).2, .slice none 0 0]]⟩ ∧ Ext Kb K ∧ Kb.next + 1 ≤ K.next ∧ Buf dInt K Kb.next (some ⟨Kb.next, 0, none⟩) (dd g k).1 ∧ Buf dVal K (Kb.next + 1) qo (dd g k).2)
      (E0 := ⟨[(1, .pointer (some ⟨0, 0, some 0⟩)), (2, .pointer (some ⟨1, 0, some 0⟩)), (3, .slice (some ⟨H.next, 0, none⟩) g.vals.length g.vals.length), (9, .slice (some ⟨Kb.next, 0, none⟩) g.vals.length g.vals.length), (10, .pointer (some ⟨2, 0, some 0⟩)), (71, sv q g.vals), (72, .int .i64 (g.vals.length : Int)), (73, .int .i64 ((0 : Nat) : Int))], [[sv p g.ins, sv q g.vals, sv r g.outs], [.slice none 0 0, .slice none 0 0, .slice none 0 0], [sv p g.ins, sv none (dd g (0)).2, .slice none 0 0]]⟩) ⟨0, none, Nat.zero_le _, rfl, rfl, Ext.push _ _, Nat.le_refl _, bT0, .nil⟩ (by (refine ⟨?_, ?_⟩ <;> repeat' first | exact trivial | exact congrArg (fun x => some (Value.int .i64 x)) (wrap_nat (by omega)) | exact sv_eq (by simp; done) | exact rfl | refine ⟨?_, ?_⟩ | fail)) ?_
    clear bT0
    rintro m E K ⟨k, qo, hk, rfl, rfl, e3, n3, bT, bq⟩
    have EK := eK.trans e3
    have bNK := bN.mono e3
    obtain ⟨hd1, hd2⟩ := dd_len g k
    refine ⟨fun hlt => ?_, fun hge => ?_⟩
    · have hlt : k < g.vals.length := by simpa using hlt
      obtain ⟨bg, og_, rfl⟩ := rdV_some hg.vals (by omega)
      have hgk := hg.mono EK
      have hin := hops k _ (List.getElem?_eq_getElem hlt)
      have hcell := at_oneI bNK.rd (j := (k : Int)) rfl (bAt_get (show k < (needed g).length by omega))
      have hva := (valF_at hgk.vals (i := (k : Int)) (by omega) (by omega)).2.2.2.2
      have hvk : vAtI g.vals (k : Int) = g.vals[k] := by unfold vAtI; rw [show ((k : Int)).toNat = k from rfl, List.getElem?_eq_getElem hlt]; rfl
      rw [hvk] at hva
      have hwk := wrap_nat (k := k) (by omega)
      refine ⟨⟨by omega, by omega⟩, valV g.vals[k], hva, ⟨by omega, by omega⟩, .bool (bAt (needed g) k), hcell, fun hy => ?_, fun hn => ?_⟩
      · have hdd : dd g (k + 1) = ((dd g k).1.set k ((dd g k).2.length : Int), (dd g k).2 ++ [withV g.vals[k] ((dd g k).1.set k ((dd g k).2.length : Int))]) := by
          simp only [dd]; rw [if_pos hy, List.getElem?_eq_getElem hlt]; rfl
        obtain ⟨bT4, hst4, hbut4⟩ := stor_one bT (i := k) (off := 0 + (k : Int).toNat * 1) ((dd g k).2.length : Int) (by omega) (by rfl) rfl
        refine ⟨⟨by omega, by omega⟩, hst4, ?_⟩
        have o4 : Out Kb.next (Kb.next + 1) _ _ := hbut4.out fun b o e => by cases e; omega
        have e4 : Ext Kb (K.stor Kb.next (0 + (k : Int).toNat * 1) [.int .i64 ((dd g k).2.length : Int)]) := e3.stor (Nat.le_refl _)
        have n4 : K.next ≤ (K.stor Kb.next (0 + (k : Int).toNat * 1) [.int .i64 ((dd g k).2.length : Int)]).next := o4.next
        have bq4 := bq.out o4 fun b o e => .inr (by have := bq.lt e; omega)
        have hTl : ((dd g k).1.set k ((dd g k).2.length : Int)).length = g.vals.length := by rw [List.length_set, hd1]
        have hec := replaced_ec (K.stor Kb.next (0 + (k : Int).toNat * 1) [.int .i64 ((dd g k).2.length : Int)]) (some ⟨Kb.next, 0, none⟩) ((dd g k).1.set k ((dd g k).2.length : Int)) g.vals[k] bT4.rd (by rw [hTl]; exact hin.mono (by omega))
        rw [show sv (some ⟨Kb.next, 0, none⟩) ((dd g k).1.set k ((dd g k).2.length : Int)) = .slice (some ⟨Kb.next, 0, none⟩) g.vals.length g.vals.length by show Value.slice _ _ _ = _; rw [hTl]] at hec
        refine ⟨.leaf [([0, 1, 2, 3], some 4), ([], some 5), ([], some 6), ([7], some 8), ([], none)] [0, 1], by kernel_rfl, ?_⟩
        refine ⟨_, hec, ?_, fun v K hR => by cases hR.1⟩
        rintro _ K5 ⟨hx, e5⟩
        cases hx
        generalize hw : withV g.vals[k] ((dd g k).1.set k ((dd g k).2.length : Int)) = w at *
        have n5 := e5.next
        have bT5 := bT4.mono e5
        have hb1 := (bq4.mono e5).mono (Ext.push K5 (.cells (flat dVal [w]) 6 true))
        refine ⟨_, run_push _ _ _ _ (Nat.le_refl 6), by dsimp only; omega, by dsimp only; omega, _, hb1.own, ?_⟩
        refine ⟨g.vals.length - (k + 1), ⟨[(1, .pointer (some ⟨0, 0, some 0⟩)), (2, .pointer (some ⟨1, 0, some 0⟩)), (3, .slice (some ⟨H.next, 0, none⟩) g.vals.length g.vals.length), (9, .slice (some ⟨Kb.next, 0, none⟩) g.vals.length g.vals.length), (10, .pointer (some ⟨2, 0, some 0⟩)), (71, sv (some ⟨bg, og_, none⟩) g.vals), (72, .int .i64 (g.vals.length : Int)), (73, .int .i64 ((k + 1 : Nat) : Int))], [[sv p g.ins, sv (some ⟨bg, og_, none⟩) g.vals, sv r g.outs], [.slice none 0 0, .slice none 0 0, .slice none 0 0], [sv p g.ins, sv (some ⟨K5.next + 1, 0, none⟩) (dd g (k + 1)).2, .slice none 0 0]]⟩, by omega, ?_, k + 1, some ⟨K5.next + 1, 0, none⟩, by omega, rfl, rfl, ?_, ?_, ?_, ?_⟩
        · rw [hdd]
          dsimp only
          rw [← sv_appX _ _ ([w] : List Val) rfl]
          exact (by (refine ⟨?_, ?_⟩ <;> repeat' first | exact trivial | exact congrArg (fun x => some (Value.int .i64 x)) hwk | exact rfl | refine ⟨?_, ?_⟩ | fail))
        · exact (hb1.killO ((e4.trans e5).push' _) (Nat.le_succ _)).push' _
        · show Kb.next + 1 ≤ K5.next + 1 + 1; omega
        · rw [hdd]
          exact ((bT5.mono (Ext.push _ _)).killB hb1 fun b f e => by cases e; omega).mono (Ext.push _ _)
        · rw [hdd]
          exact hb1.app rfl (by show Kb.next + 1 ≤ K5.next + 1; omega)
      · have hdd : dd g (k + 1) = dd g k := by
          simp only [dd]; rw [if_neg (by rw [hn]; simp)]
        refine ⟨g.vals.length - (k + 1), ⟨[(1, .pointer (some ⟨0, 0, some 0⟩)), (2, .pointer (some ⟨1, 0, some 0⟩)), (3, .slice (some ⟨H.next, 0, none⟩) g.vals.length g.vals.length), (9, .slice (some ⟨Kb.next, 0, none⟩) g.vals.length g.vals.length), (10, .pointer (some ⟨2, 0, some 0⟩)), (71, sv (some ⟨bg, og_, none⟩) g.vals), (72, .int .i64 (g.vals.length : Int)), (73, .int .i64 ((k + 1 : Nat) : Int))], [[sv p g.ins, sv (some ⟨bg, og_, none⟩) g.vals, sv r g.outs], [.slice none 0 0, .slice none 0 0, .slice none 0 0], [sv p g.ins, sv qo (dd g (k + 1)).2, .slice none 0 0]]⟩, by omega, ?_, k + 1, qo, by omega, rfl, rfl, e3, n3, by rw [hdd]; exact bT, by rw [hdd]; exact bq⟩
        rw [hdd]
        exact (by (refine ⟨?_, ?_⟩ <;> repeat' first | exact trivial | exact congrArg (fun x => some (Value.int .i64 x)) hwk | exact rfl | refine ⟨?_, ?_⟩ | fail))
    · have hk' : k = g.vals.length := by simp at hge; omega
      subst hk'
      obtain ⟨Kc, rfl⟩ : ∃ Kc, Kc = K := ⟨K, rfl⟩
      have hmlen : (g.outs.map (atV (dd g g.vals.length).1)).length = g.outs.length := by simp
      refine loop_ind ctx (fun _ => true) (fun m E K => ∃ (k : Nat) (ro : Option Addr), k ≤ g.outs.length ∧ m = g.outs.length - k ∧ E = ⟨[(1, .pointer (some ⟨0, 0, some 0⟩)), (2, .pointer (some ⟨1, 0, some 0⟩)), (9, .slice (some ⟨Kb.next, 0, none⟩) g.vals.length g.vals.length), (10, .pointer (some ⟨2, 0, some 0⟩)), (98, sv r g.outs), (99, .int .i64 (g.outs.length : Int)), (100, .int .i64 ((k : Nat) : Int))], [[sv p g.ins, sv q g.vals, sv r g.outs], [.slice none 0 0, .slice none 0 0, .slice none 0 0], [sv p g.ins, sv qo (dd g g.vals.length).2, sv ro ((g.outs.map (atV (dd g g.vals.length).1)).take (k))]]⟩ ∧ Ext Kc K ∧ Buf dInt K Kc.next ro ((g.outs.map (atV (dd g g.vals.length).1)).take k))
        (E0 := ⟨[(1, .pointer (some ⟨0, 0, some 0⟩)), (2, .pointer (some ⟨1, 0, some 0⟩)), (9, .slice (some ⟨Kb.next, 0, none⟩) g.vals.length g.vals.length), (10, .pointer (some ⟨2, 0, some 0⟩)), (98, sv r g.outs), (99, .int .i64 (g.outs.length : Int)), (100, .int .i64 ((0 : Nat) : Int))], [[sv p g.ins, sv q g.vals, sv r g.outs], [.slice none 0 0, .slice none 0 0, .slice none 0 0], [sv p g.ins, sv qo (dd g g.vals.length).2, sv none ((g.outs.map (atV (dd g g.vals.length).1)).take (0))]]⟩) ⟨0, none, Nat.zero_le _, rfl, rfl, Ext.refl _, .nil⟩ (by (refine ⟨?_, ?_⟩ <;> repeat' first | exact trivial | exact congrArg (fun x => some (Value.int .i64 x)) (wrap_nat (by omega)) | exact sv_eq (by simp; done) | exact rfl | refine ⟨?_, ?_⟩ | fail)) ?_
      rintro m E K ⟨k, ro, hk, rfl, rfl, e5, br⟩
      have EK := EK.trans e5
      have hgk := hg.mono EK
      refine ⟨fun hlt => ?_, fun hge => ?_⟩
      · have hlt : k < g.outs.length := by simpa using hlt
        obtain ⟨br_, or_, rfl⟩ := rdI_some hg.outs (by omega)
        have hin := houts _ (List.getElem_mem hlt)
        have c1 := at_cellI hgk.outs (j := (k : Int)) (by omega) (by omega)
        have hat : atV g.outs (k : Int) = g.outs[k] := by unfold atV; rw [show ((k : Int)).toNat = k from rfl, List.getElem?_eq_getElem hlt]; rfl
        rw [hat] at c1
        have c2 := at_cellI (bT.mono e5).rd (j := g.outs[k]) hin.1 (by rw [hd1]; exact hin.2)
        have hwk := wrap_nat (k := k) (by omega)
        have htk : (g.outs.map (atV (dd g g.vals.length).1)).take (k + 1) = (g.outs.map (atV (dd g g.vals.length).1)).take k ++ [atV (dd g g.vals.length).1 g.outs[k]] := by
          rw [List.take_succ_eq_append_getElem (by rw [hmlen]; exact hlt), List.getElem_map]
        have htl : ((g.outs.map (atV (dd g g.vals.length).1)).take k).length = k := by rw [List.length_take, hmlen]; omega
        have hb1 := br.mono (Ext.push K (.cells (flat dInt [atV (dd g g.vals.length).1 g.outs[k]]) 1 true))
        refine ⟨⟨by omega, by omega⟩, _, c1, .leaf [([0, 1, 2, 3, 4, 5], some 6), ([], some 7), ([8], some 9), ([], none)] [0, 1], by kernel_rfl, ⟨hin.1, by omega⟩, _, c2, _, run_push _ _ _ _ (Nat.le_refl 1), by dsimp only; omega, by dsimp only; omega, _, hb1.own, ?_⟩
        refine ⟨g.outs.length - (k + 1), ⟨[(1, .pointer (some ⟨0, 0, some 0⟩)), (2, .pointer (some ⟨1, 0, some 0⟩)), (9, .slice (some ⟨Kb.next, 0, none⟩) g.vals.length g.vals.length), (10, .pointer (some ⟨2, 0, some 0⟩)), (98, sv (some ⟨br_, or_, none⟩) g.outs), (99, .int .i64 (g.outs.length : Int)), (100, .int .i64 ((k + 1 : Nat) : Int))], [[sv p g.ins, sv q g.vals, sv (some ⟨br_, or_, none⟩) g.outs], [.slice none 0 0, .slice none 0 0, .slice none 0 0], [sv p g.ins, sv qo (dd g g.vals.length).2, sv (some ⟨K.next + 1, 0, none⟩) ((g.outs.map (atV (dd g g.vals.length).1)).take (k + 1))]]⟩, by omega, ?_, k + 1, some ⟨K.next + 1, 0, none⟩, by omega, rfl, rfl, (hb1.killO (e5.push' _) (Nat.le_refl _)).push' _, ?_⟩
        · rw [htk, ← sv_appX _ _ ([atV (dd g g.vals.length).1 g.outs[k]] : List Int) rfl]
          exact (by (refine ⟨?_, ?_⟩ <;> repeat' first | exact trivial | exact congrArg (fun x => some (Value.int .i64 x)) hwk | exact rfl | refine ⟨?_, ?_⟩ | fail))
        · rw [htk]
          exact hb1.app rfl (by show Kc.next ≤ K.next + 1; have := e5.next; omega)
      · have hk2 : k = g.outs.length := by simp at hge; omega
        subst hk2
        rw [List.take_of_length_le (by rw [hmlen]; exact Nat.le_refl _)] at br ⊢
        have nK := eK.next
        have hpi : ∀ b f, p = some ⟨b, f, none⟩ → b < hi := og.hi_.1
        exact ⟨p, qo, ro, rfl, ownG_of (og.i.mono EK) ((bq.mono e5).wider (by omega)) (br.wider (by omega)) (fun b e => ⟨fun e' => by have := hpi b 0 e; have := bq.lt e'; omega, fun e' => by have := hpi b 0 e; have := br.lt e'; omega⟩) (fun b e e' => by have := bq.lt e; have := br.lt e'; omega), Out.of_ext EK⟩
end Go.Proofs.Ytjmobjiaoklfdaa

set_option linter.unusedVariables false
namespace Go.Proofs.Ytjmobjiaoklfdaa
open Go.Am
open FlCore (canon isNan)

def slAt (es : List SlE) (i : Nat) : Value := match es[i]? with
  | some e => .slice e.1 e.2.length e.2.length
  | none => .slice none 0 0
theorem slAt_def (es : List SlE) (i : Nat) : slAt es i = match es[i]? with
  | some e => .slice e.1 e.2.length e.2.length
  | none => .slice none 0 0 := rfl
set_option maxHeartbeats 2000000 in
theorem foldPass_ec (H : Heap) (lo hi : Nat) (p q r : Option Addr) (g : Graph) (hv : validB g = true) (og : OwnG H lo hi p q r g) (hlo : lo ≤ hi) (hn : hi ≤ H.next) :
    EC Try.prog 53 [gV p q r g] H (PR H lo hi (foldG g)) := by
  obtain ⟨h1, h2, h3⟩ := valid_lens hv
  have hops := valid_ops hv
  refine EC_fn ctx (fun _ => true) Try.func53 rfl rfl rfl ?_
  refine loop_ind ctx (fun _ => true) (fun m E K => ∃ k : Nat, k ≤ g.vals.length ∧ m = g.vals.length - k ∧ E = ⟨[(1, .pointer (some ⟨0, 0, some 0⟩)), (2, .pointer (some ⟨1, 0, some 0⟩)), (15, .slice q g.vals.length g.vals.length), (16, .int .i64 (g.vals.length : Int)), (17, .int .i64 ((k : Nat) : Int))], [[sv p g.ins, .slice q g.vals.length g.vals.length, sv r g.outs], [.slice none 0 0, .slice none 0 0, .slice none 0 0]]⟩ ∧ OwnG K lo hi p q r ⟨g.ins, curF g.vals k, g.outs⟩ ∧ Out lo hi H K)
    (E0 := ⟨[(1, .pointer (some ⟨0, 0, some 0⟩)), (2, .pointer (some ⟨1, 0, some 0⟩)), (15, .slice q g.vals.length g.vals.length), (16, .int .i64 (g.vals.length : Int)), (17, .int .i64 ((0 : Nat) : Int))], [[sv p g.ins, .slice q g.vals.length g.vals.length, sv r g.outs], [.slice none 0 0, .slice none 0 0, .slice none 0 0]]⟩) ⟨0, Nat.zero_le _, rfl, rfl, by rw [curF_zero]; exact og, Out.of_ext (Ext.refl _)⟩ (by (refine ⟨?_, ?_⟩ <;> repeat' first | exact trivial | exact congrArg (fun x => some (Value.int .i64 x)) (wrap_nat (by omega)) | exact sv_eq (by simp; done) | exact rfl | refine ⟨?_, ?_⟩ | fail)) ?_
  clear og
  rintro m E K ⟨k, hk, rfl, rfl, og, o⟩
  have hcl := curF_len (vals := g.vals) hk
  refine ⟨fun hlt => ?_, fun hge => ?_⟩
  · have hlt : k < g.vals.length := by simpa using hlt
    obtain ⟨bq, rfl⟩ := bufV_some og.s (by show 0 < (curF g.vals k).length; omega)
    have hva := (valF_at og.s.rd (i := (k : Int)) (by omega) (by show _ < ((curF g.vals k).length : Int); omega)).2.2.2.2
    rw [show (⟨g.ins, curF g.vals k, g.outs⟩ : Graph).vals = curF g.vals k from rfl, curF_get hlt] at hva
    have hxv := List.getElem?_eq_getElem hlt
    have hin : OpsIn g.vals[k] k := hops k _ hxv
    have hvl := valid_len hv hxv
    have hwk := wrap_nat (k := k) (by omega)
    have h3o := opnd3 g.vals[k].op
    have hal := argsL_len g.vals[k]
    have hargs := args_in hin
    refine ⟨⟨by omega, by omega⟩, valV g.vals[k], hva, _, operandsOf2_ec K g.vals[k], ?_, fun v K hR => by cases hR.1⟩
    obtain ⟨Ka, rfl⟩ : ∃ Ka, Ka = K := ⟨K, rfl⟩
    rintro _ K1 ⟨hx, rfl⟩
    cases hx
    have hra := args_rd Ka g.vals[k]
    have hal0 : decide (((argsL g.vals[k]).length : Int) > 0) = (decide (0 < opnd g.vals[k].op) && ((argsL g.vals[k]).take 0).all fun o => decide ((vAtI (fl g.vals k) o).op = 1)) := by simp [hal]; omega
    refine loop_ind ctx (fun _ => true) (fun m E K => ∃ (j : Nat) (es : List SlE), j ≤ (argsL g.vals[k]).length ∧ m = (argsL g.vals[k]).length - j ∧ E = ⟨[(1, .pointer (some ⟨0, 0, some 0⟩)), (2, .pointer (some ⟨1, 0, some 0⟩)), (15, .slice (some ⟨bq, 0, none⟩) g.vals.length g.vals.length), (16, .int .i64 (g.vals.length : Int)), (17, .int .i64 (k : Int)), (3, .int .i64 (k : Int)), (4, .pointer (some ⟨2, 0, some 0⟩)), (6, .pointer (some ⟨3, 0, some 0⟩)), (7, .bool (decide (0 < opnd g.vals[k].op) && ((argsL g.vals[k]).take j).all fun o => decide ((vAtI (fl g.vals k) o).op = 1))), (28, .slice (some ⟨Ka.next, 0, none⟩) (argsL g.vals[k]).length (argsL g.vals[k]).length), (29, .int .i64 ((argsL g.vals[k]).length : Int)), (30, .int .i64 ((j : Nat) : Int))], [[sv p g.ins, .slice (some ⟨bq, 0, none⟩) g.vals.length g.vals.length, sv r g.outs], [.slice none 0 0, .slice none 0 0, .slice none 0 0], vcells g.vals[k], [slAt es 0, slAt es 1, slAt es 2]]⟩ ∧ snds es = ((List.range j).map fun j : Nat => partF (fl g.vals k) g.vals[k] j) ∧ (∀ e ∈ es, Rd dFlt K e.1 e.2) ∧ Ext (Ka.push (.cells (flat dInt [g.vals[k].a, g.vals[k].b, g.vals[k].c]) 1 true)) K)
      (E0 := ⟨[(1, .pointer (some ⟨0, 0, some 0⟩)), (2, .pointer (some ⟨1, 0, some 0⟩)), (15, .slice (some ⟨bq, 0, none⟩) g.vals.length g.vals.length), (16, .int .i64 (g.vals.length : Int)), (17, .int .i64 (k : Int)), (3, .int .i64 (k : Int)), (4, .pointer (some ⟨2, 0, some 0⟩)), (6, .pointer (some ⟨3, 0, some 0⟩)), (7, .bool (decide (0 < opnd g.vals[k].op) && ((argsL g.vals[k]).take 0).all fun o => decide ((vAtI (fl g.vals k) o).op = 1))), (28, .slice (some ⟨Ka.next, 0, none⟩) (argsL g.vals[k]).length (argsL g.vals[k]).length), (29, .int .i64 ((argsL g.vals[k]).length : Int)), (30, .int .i64 ((0 : Nat) : Int))], [[sv p g.ins, .slice (some ⟨bq, 0, none⟩) g.vals.length g.vals.length, sv r g.outs], [.slice none 0 0, .slice none 0 0, .slice none 0 0], vcells g.vals[k], [.slice none 0 0, .slice none 0 0, .slice none 0 0]]⟩) ⟨0, [], Nat.zero_le _, rfl, rfl, rfl, (fun e h => by cases h), Ext.refl _⟩ (by rw [← hal0]; (refine ⟨?_, ?_⟩ <;> repeat' first | exact trivial | exact congrArg (fun x => some (Value.int .i64 x)) (wrap_nat (by omega)) | exact sv_eq (by simp; done) | exact rfl | refine ⟨?_, ?_⟩ | fail)) ?_
    rintro m E K2 ⟨j, es, hj, rfl, rfl, hsn, hes, eKa⟩
    have hel : es.length = j := by have := congrArg List.length hsn; simpa [snds] using this
    have eK2 : Ext Ka K2 := (Ext.push _ _).trans eKa
    have og2 := og.mono eK2
    have o2 := o.trans (Out.of_ext eK2)
    refine ⟨fun hlt2 => ?_, fun hge2 => ?_⟩
    · have hjl : j < (argsL g.vals[k]).length := by simpa using hlt2
      have hjo : (j : Int) < opnd g.vals[k].op := by omega
      have hwj := wrap_nat (k := j) (by omega)
      have hPT : ((List.range (j + 1)).map fun j : Nat => partF (fl g.vals k) g.vals[k] j) = ((List.range j).map fun j : Nat => partF (fl g.vals k) g.vals[k] j) ++ [partF (fl g.vals k) g.vals[k] j] := by rw [List.range_succ, List.map_append]; rfl
      have hf := hargs _ (field_arg hjo)
      have c1 := at_cellI (hra.mono eKa) (j := (j : Int)) (by omega) (by omega)
      have hat : atV (argsL g.vals[k]) (j : Int) = fieldV g.vals[k] j := by unfold atV; rw [show ((j : Int)).toNat = j from rfl, argsL_get (by omega)]; rfl
      have hcA := valF_at og2.s.rd (i := fieldV g.vals[k] j) hf.1 (by show _ < ((curF g.vals k).length : Int); omega)
      rw [show (⟨g.ins, curF g.vals k, g.outs⟩ : Graph).vals = curF g.vals k from rfl, curF_at hf.1 hf.2] at hcA
      have hok := (fl_okLen hv (i := k) (by omega) hf.1 hf.2).2
      have hal1 : (decide (0 < opnd g.vals[k].op) && ((argsL g.vals[k]).take (j + 1)).all fun o => decide ((vAtI (fl g.vals k) o).op = 1)) = ((decide (0 < opnd g.vals[k].op) && ((argsL g.vals[k]).take j).all fun o => decide ((vAtI (fl g.vals k) o).op = 1)) && decide ((vAtI (fl g.vals k) (fieldV g.vals[k] j)).op = 1)) := by
        rw [args_take hjo, List.all_append, Bool.and_assoc]; simp
      have hpt : partF (fl g.vals k) g.vals[k] j = List.replicate (vAtI (fl g.vals k) (fieldV g.vals[k] j)).len.toNat (vAtI (fl g.vals k) (fieldV g.vals[k] j)).k := by unfold partF; rw [if_pos hjo]
      generalize fieldV g.vals[k] (j : Int) = x at *
      generalize vAtI (fl g.vals k) x = c at *
      have h3j : j = 0 ∨ j = 1 ∨ j = 2 := by omega
      rcases h3j with rfl | rfl | rfl
      · obtain rfl : es = [] := List.eq_nil_of_length_eq_zero hel
        refine ⟨⟨by omega, by omega⟩, .int .i64 x, by rw [← hat]; exact c1, fun _ => ⟨hf.1, by omega⟩, .int .i64 c.op, fun _ => hcA.1, ?_⟩
        refine ⟨.leaf [([0, 1, 2, 3, 4, 5, 6, 7, 8, 9, 10, 11, 12], some 13), ([14], some 15), ([], none)] [0], by kernel_rfl, ⟨hf.1, by omega⟩, .int .i64 c.len, hcA.2.1, ⟨hf.1, by omega⟩, .float .f64 c.k, hcA.2.2.2.1, ?_⟩
        refine ⟨_, filled_ec' K2 c.len c.k (by simp [okLen] at hok; omega) (by simp [okLen] at hok; omega), ?_, fun v K hR => by cases hR.1⟩
        rintro _ K3 ⟨hx, rfl⟩
        cases hx
        rw [← hpt]
        refine ⟨⟨by omega, by omega⟩, ?_⟩
        refine ⟨(argsL g.vals[k]).length - (0 + 1), ⟨[(1, .pointer (some ⟨0, 0, some 0⟩)), (2, .pointer (some ⟨1, 0, some 0⟩)), (15, .slice (some ⟨bq, 0, none⟩) g.vals.length g.vals.length), (16, .int .i64 (g.vals.length : Int)), (17, .int .i64 (k : Int)), (3, .int .i64 (k : Int)), (4, .pointer (some ⟨2, 0, some 0⟩)), (6, .pointer (some ⟨3, 0, some 0⟩)), (7, .bool (decide (0 < opnd g.vals[k].op) && ((argsL g.vals[k]).take (0 + 1)).all fun o => decide ((vAtI (fl g.vals k) o).op = 1))), (28, .slice (some ⟨Ka.next, 0, none⟩) (argsL g.vals[k]).length (argsL g.vals[k]).length), (29, .int .i64 ((argsL g.vals[k]).length : Int)), (30, .int .i64 ((0 + 1 : Nat) : Int))], [[sv p g.ins, .slice (some ⟨bq, 0, none⟩) g.vals.length g.vals.length, sv r g.outs], [.slice none 0 0, .slice none 0 0, .slice none 0 0], vcells g.vals[k], [slAt [(some ⟨K2.next, 0, none⟩, partF (fl g.vals k) g.vals[k] 0)] 0, slAt [(some ⟨K2.next, 0, none⟩, partF (fl g.vals k) g.vals[k] 0)] 1, slAt [(some ⟨K2.next, 0, none⟩, partF (fl g.vals k) g.vals[k] 0)] 2]]⟩, by omega, ?_, 0 + 1, [(some ⟨K2.next, 0, none⟩, partF (fl g.vals k) g.vals[k] 0)], by omega, rfl, rfl, by rw [hPT, ← hsn]; simp [snds], fun e he => ?_, eKa.trans (Ext.push _ _)⟩
        · rw [hal1, ← bif_and]
          exact (by (refine ⟨?_, ?_⟩ <;> repeat' first | exact trivial | exact congrArg (fun x => some (Value.int .i64 x)) hwj | exact rfl | refine ⟨?_, ?_⟩ | fail))
        · simp only [List.mem_cons, List.not_mem_nil, or_false] at he
          rcases he with rfl
          · exact Rd.push _ _
      · obtain ⟨e0, rfl⟩ := List.length_eq_one_iff.1 hel
        refine ⟨⟨by omega, by omega⟩, .int .i64 x, by rw [← hat]; exact c1, fun _ => ⟨hf.1, by omega⟩, .int .i64 c.op, fun _ => hcA.1, ?_⟩
        refine ⟨.leaf [([0, 1, 2, 3, 4, 5, 6, 7, 8, 9, 10, 11, 12], some 13), ([14], some 15), ([], none)] [0], by kernel_rfl, ⟨hf.1, by omega⟩, .int .i64 c.len, hcA.2.1, ⟨hf.1, by omega⟩, .float .f64 c.k, hcA.2.2.2.1, ?_⟩
        refine ⟨_, filled_ec' K2 c.len c.k (by simp [okLen] at hok; omega) (by simp [okLen] at hok; omega), ?_, fun v K hR => by cases hR.1⟩
        rintro _ K3 ⟨hx, rfl⟩
        cases hx
        rw [← hpt]
        refine ⟨⟨by omega, by omega⟩, ?_⟩
        refine ⟨(argsL g.vals[k]).length - (1 + 1), ⟨[(1, .pointer (some ⟨0, 0, some 0⟩)), (2, .pointer (some ⟨1, 0, some 0⟩)), (15, .slice (some ⟨bq, 0, none⟩) g.vals.length g.vals.length), (16, .int .i64 (g.vals.length : Int)), (17, .int .i64 (k : Int)), (3, .int .i64 (k : Int)), (4, .pointer (some ⟨2, 0, some 0⟩)), (6, .pointer (some ⟨3, 0, some 0⟩)), (7, .bool (decide (0 < opnd g.vals[k].op) && ((argsL g.vals[k]).take (1 + 1)).all fun o => decide ((vAtI (fl g.vals k) o).op = 1))), (28, .slice (some ⟨Ka.next, 0, none⟩) (argsL g.vals[k]).length (argsL g.vals[k]).length), (29, .int .i64 ((argsL g.vals[k]).length : Int)), (30, .int .i64 ((1 + 1 : Nat) : Int))], [[sv p g.ins, .slice (some ⟨bq, 0, none⟩) g.vals.length g.vals.length, sv r g.outs], [.slice none 0 0, .slice none 0 0, .slice none 0 0], vcells g.vals[k], [slAt [e0, (some ⟨K2.next, 0, none⟩, partF (fl g.vals k) g.vals[k] 1)] 0, slAt [e0, (some ⟨K2.next, 0, none⟩, partF (fl g.vals k) g.vals[k] 1)] 1, slAt [e0, (some ⟨K2.next, 0, none⟩, partF (fl g.vals k) g.vals[k] 1)] 2]]⟩, by omega, ?_, 1 + 1, [e0, (some ⟨K2.next, 0, none⟩, partF (fl g.vals k) g.vals[k] 1)], by omega, rfl, rfl, by rw [hPT, ← hsn]; simp [snds], fun e he => ?_, eKa.trans (Ext.push _ _)⟩
        · rw [hal1, ← bif_and]
          exact (by (refine ⟨?_, ?_⟩ <;> repeat' first | exact trivial | exact congrArg (fun x => some (Value.int .i64 x)) hwj | exact rfl | refine ⟨?_, ?_⟩ | fail))
        · simp only [List.mem_cons, List.not_mem_nil, or_false] at he
          rcases he with rfl | rfl
          · exact (hes _ (by simp)).mono (Ext.push _ _)
          · exact Rd.push _ _
      · obtain ⟨e0, e1, rfl⟩ : ∃ e0 e1, es = [e0, e1] := by match es, hel with | [x0, x1], _ => exact ⟨x0, x1, rfl⟩
        refine ⟨⟨by omega, by omega⟩, .int .i64 x, by rw [← hat]; exact c1, fun _ => ⟨hf.1, by omega⟩, .int .i64 c.op, fun _ => hcA.1, ?_⟩
        refine ⟨.leaf [([0, 1, 2, 3, 4, 5, 6, 7, 8, 9, 10, 11, 12], some 13), ([14], some 15), ([], none)] [0], by kernel_rfl, ⟨hf.1, by omega⟩, .int .i64 c.len, hcA.2.1, ⟨hf.1, by omega⟩, .float .f64 c.k, hcA.2.2.2.1, ?_⟩
        refine ⟨_, filled_ec' K2 c.len c.k (by simp [okLen] at hok; omega) (by simp [okLen] at hok; omega), ?_, fun v K hR => by cases hR.1⟩
        rintro _ K3 ⟨hx, rfl⟩
        cases hx
        rw [← hpt]
        refine ⟨⟨by omega, by omega⟩, ?_⟩
        refine ⟨(argsL g.vals[k]).length - (2 + 1), ⟨[(1, .pointer (some ⟨0, 0, some 0⟩)), (2, .pointer (some ⟨1, 0, some 0⟩)), (15, .slice (some ⟨bq, 0, none⟩) g.vals.length g.vals.length), (16, .int .i64 (g.vals.length : Int)), (17, .int .i64 (k : Int)), (3, .int .i64 (k : Int)), (4, .pointer (some ⟨2, 0, some 0⟩)), (6, .pointer (some ⟨3, 0, some 0⟩)), (7, .bool (decide (0 < opnd g.vals[k].op) && ((argsL g.vals[k]).take (2 + 1)).all fun o => decide ((vAtI (fl g.vals k) o).op = 1))), (28, .slice (some ⟨Ka.next, 0, none⟩) (argsL g.vals[k]).length (argsL g.vals[k]).length), (29, .int .i64 ((argsL g.vals[k]).length : Int)), (30, .int .i64 ((2 + 1 : Nat) : Int))], [[sv p g.ins, .slice (some ⟨bq, 0, none⟩) g.vals.length g.vals.length, sv r g.outs], [.slice none 0 0, .slice none 0 0, .slice none 0 0], vcells g.vals[k], [slAt [e0, e1, (some ⟨K2.next, 0, none⟩, partF (fl g.vals k) g.vals[k] 2)] 0, slAt [e0, e1, (some ⟨K2.next, 0, none⟩, partF (fl g.vals k) g.vals[k] 2)] 1, slAt [e0, e1, (some ⟨K2.next, 0, none⟩, partF (fl g.vals k) g.vals[k] 2)] 2]]⟩, by omega, ?_, 2 + 1, [e0, e1, (some ⟨K2.next, 0, none⟩, partF (fl g.vals k) g.vals[k] 2)], by omega, rfl, rfl, by rw [hPT, ← hsn]; simp [snds], fun e he => ?_, eKa.trans (Ext.push _ _)⟩
        · rw [hal1, ← bif_and]
          exact (by (refine ⟨?_, ?_⟩ <;> repeat' first | exact trivial | exact congrArg (fun x => some (Value.int .i64 x)) hwj | exact rfl | refine ⟨?_, ?_⟩ | fail))
        · simp only [List.mem_cons, List.not_mem_nil, or_false] at he
          rcases he with rfl | rfl | rfl
          · exact (hes _ (by simp)).mono (Ext.push _ _)
          · exact (hes _ (by simp)).mono (Ext.push _ _)
          · exact Rd.push _ _
    · have hj3 : j = (argsL g.vals[k]).length := by simp at hge2; omega
      subst hj3
      have hall : (decide (0 < opnd g.vals[k].op) && ((argsL g.vals[k]).take (argsL g.vals[k]).length).all fun o => decide ((vAtI (fl g.vals k) o).op = 1)) = allC (fl g.vals k) g.vals[k] := by
        unfold allC; rw [List.take_of_length_le (Nat.le_refl _)]
      rw [hall]
      refine ⟨fun hno => ?_, fun hyes => ?_⟩
      · have hno : allC (fl g.vals k) g.vals[k] = false := by simpa using hno
        have hfv : foldV (fl g.vals k) g.vals[k] = g.vals[k] := by unfold foldV; rw [hno]; rfl
        rw [← curF_same hlt hfv] at og2
        exact ⟨g.vals.length - (k + 1), ⟨[(1, .pointer (some ⟨0, 0, some 0⟩)), (2, .pointer (some ⟨1, 0, some 0⟩)), (15, .slice (some ⟨bq, 0, none⟩) g.vals.length g.vals.length), (16, .int .i64 (g.vals.length : Int)), (17, .int .i64 ((k + 1 : Nat) : Int))], [[sv p g.ins, .slice (some ⟨bq, 0, none⟩) g.vals.length g.vals.length, sv r g.outs], [.slice none 0 0, .slice none 0 0, .slice none 0 0]]⟩, by omega, (by (refine ⟨?_, ?_⟩ <;> repeat' first | exact trivial | exact congrArg (fun x => some (Value.int .i64 x)) hwk | exact rfl | refine ⟨?_, ?_⟩ | fail)), k + 1, by omega, rfl, rfl, og2, o2⟩
      · have hyes : allC (fl g.vals k) g.vals[k] = true := by simpa using hyes
        have ho0 : 0 < opnd g.vals[k].op := by
          unfold allC at hyes
          simp only [Bool.and_eq_true, decide_eq_true_eq] at hyes
          exact hyes.1
        have hget : ∀ i, i < 3 → ∃ a, slAt es i = sv a (partF (fl g.vals k) g.vals[k] i) ∧ Rd dFlt K2 a (partF (fl g.vals k) g.vals[k] i) := fun i hi => by
          by_cases hio : i < es.length
          · refine ⟨es[i].1, ?_, ?_⟩
            · have h5 : es[i].2 = partF (fl g.vals k) g.vals[k] i := by
                have h6 : (snds es)[i]? = some (partF (fl g.vals k) g.vals[k] i) := by rw [hsn, List.getElem?_map, List.getElem?_range (by omega)]; rfl
                rw [List.getElem?_eq_getElem (by simpa [snds] using hio)] at h6
                simpa [snds] using h6
              rw [slAt_def, List.getElem?_eq_getElem hio]
              show Value.slice es[i].1 es[i].2.length es[i].2.length = _
              rw [h5]
            · have h5 : es[i].2 = partF (fl g.vals k) g.vals[k] i := by
                have h6 : (snds es)[i]? = some (partF (fl g.vals k) g.vals[k] i) := by rw [hsn, List.getElem?_map, List.getElem?_range (by omega)]; rfl
                rw [List.getElem?_eq_getElem (by simpa [snds] using hio)] at h6
                simpa [snds] using h6
              rw [← h5]; exact hes _ (List.getElem_mem hio)
          · have h5 : partF (fl g.vals k) g.vals[k] i = [] := by unfold partF; rw [if_neg (by omega)]
            refine ⟨none, ?_, by rw [h5]; exact Rd.nil⟩
            rw [slAt_def, List.getElem?_eq_none (by omega), h5]; rfl
        obtain ⟨a0, s0, r0⟩ := hget 0 (by omega)
        obtain ⟨a1, s1, r1⟩ := hget 1 (by omega)
        obtain ⟨a2, s2, r2⟩ := hget 2 (by omega)
        rw [s0, s1, s2]
        have hpl : ∀ j, (partF (fl g.vals k) g.vals[k] j).length ≤ 1048576 := fun j => by
          unfold partF
          split
          · rename_i hjo
            have hf := hargs _ (field_arg hjo)
            have := (fl_okLen hv (i := k) (by omega) hf.1 hf.2).2
            simp [okLen] at this
            simp; omega
          · simp
        have hke := implKernel_ec K2 a0 a1 a2 g.vals[k] _ _ _ r0 r1 r2 (hpl 0) (hpl 1) (hpl 2)
        refine ⟨⟨by omega, by omega⟩, ⟨by omega, by omega⟩, ⟨by omega, by omega⟩, ?_⟩
        refine ⟨_, hke, ?_, fun v K hR => by obtain ⟨_, h, _⟩ := hR; cases h⟩
        rintro _ K3 ⟨oo, hx, e3, bo⟩
        cases hx
        have og3 := og2.mono e3
        have o3 := o2.trans (Out.of_ext e3)
        change Buf dFlt K3 K2.next oo (resF (fl g.vals k) g.vals[k]) at bo
        have hpos := fold_pos hv hxv ho0
        have hrl : (resF (fl g.vals k) g.vals[k]).length ≤ 1000 := by
          simp [okLen] at hvl
          unfold resF kern
          split
          · simp; omega
          · simp
        have hr0 : (resF (fl g.vals k) g.vals[k])[0]? = some (((resF (fl g.vals k) g.vals[k])[0]?).getD 0) := by rw [List.getElem?_eq_getElem hpos]; rfl
        obtain ⟨bo_, oo_, hoo, cr⟩ := bo.rd.cell hr0
        refine loop_ind ctx (fun _ => true) (fun m E KX => ∃ i : Nat, i ≤ (resF (fl g.vals k) g.vals[k]).length ∧ m = (resF (fl g.vals k) g.vals[k]).length - i ∧ E = ⟨[(1, .pointer (some ⟨0, 0, some 0⟩)), (2, .pointer (some ⟨1, 0, some 0⟩)), (15, .slice (some ⟨bq, 0, none⟩) g.vals.length g.vals.length), (16, .int .i64 (g.vals.length : Int)), (17, .int .i64 (k : Int)), (3, .int .i64 (k : Int)), (4, .pointer (some ⟨2, 0, some 0⟩)), (10, sv oo (resF (fl g.vals k) g.vals[k])), (11, .bool (((resF (fl g.vals k) g.vals[k]).take i).all fun x => x == ((resF (fl g.vals k) g.vals[k])[0]?).getD 0)), (71, sv oo (resF (fl g.vals k) g.vals[k])), (72, .int .i64 ((resF (fl g.vals k) g.vals[k]).length : Int)), (73, .int .i64 ((i : Nat) : Int))], [[sv p g.ins, .slice (some ⟨bq, 0, none⟩) g.vals.length g.vals.length, sv r g.outs], [.slice none 0 0, .slice none 0 0, .slice none 0 0], vcells g.vals[k]]⟩ ∧ KX = K3)
          (E0 := ⟨[(1, .pointer (some ⟨0, 0, some 0⟩)), (2, .pointer (some ⟨1, 0, some 0⟩)), (15, .slice (some ⟨bq, 0, none⟩) g.vals.length g.vals.length), (16, .int .i64 (g.vals.length : Int)), (17, .int .i64 (k : Int)), (3, .int .i64 (k : Int)), (4, .pointer (some ⟨2, 0, some 0⟩)), (10, sv oo (resF (fl g.vals k) g.vals[k])), (11, .bool (((resF (fl g.vals k) g.vals[k]).take 0).all fun x => x == ((resF (fl g.vals k) g.vals[k])[0]?).getD 0)), (71, sv oo (resF (fl g.vals k) g.vals[k])), (72, .int .i64 ((resF (fl g.vals k) g.vals[k]).length : Int)), (73, .int .i64 ((0 : Nat) : Int))], [[sv p g.ins, .slice (some ⟨bq, 0, none⟩) g.vals.length g.vals.length, sv r g.outs], [.slice none 0 0, .slice none 0 0, .slice none 0 0], vcells g.vals[k]]⟩) ⟨0, Nat.zero_le _, rfl, rfl, rfl⟩ (by (refine ⟨?_, ?_⟩ <;> repeat' first | exact trivial | exact congrArg (fun x => some (Value.int .i64 x)) (wrap_nat (by omega)) | exact sv_eq (by simp; done) | exact rfl | refine ⟨?_, ?_⟩ | fail)) ?_
        rintro m E KX ⟨i, hii, rfl, rfl, rfl⟩
        subst hoo
        refine ⟨fun hlt3 => ?_, fun hge3 => ?_⟩
        · have hil : i < (resF (fl g.vals k) g.vals[k]).length := by simpa using hlt3
          obtain ⟨_, _, e9, ci⟩ := bo.rd.cell (List.getElem?_eq_getElem hil)
          cases e9
          have hwi := wrap_nat (k := i) (by omega)
          refine ⟨⟨by omega, by omega⟩, _, ci, fun _ => ⟨by omega, by omega⟩, .float .f64 (((resF (fl g.vals k) g.vals[k])[0]?).getD 0), fun _ => cr, .bool ((resF (fl g.vals k) g.vals[k])[i] == ((resF (fl g.vals k) g.vals[k])[0]?).getD 0), fun _ => implSame_pc _ _ _, ?_⟩
          refine ⟨(resF (fl g.vals k) g.vals[k]).length - (i + 1), ⟨[(1, .pointer (some ⟨0, 0, some 0⟩)), (2, .pointer (some ⟨1, 0, some 0⟩)), (15, .slice (some ⟨bq, 0, none⟩) g.vals.length g.vals.length), (16, .int .i64 (g.vals.length : Int)), (17, .int .i64 (k : Int)), (3, .int .i64 (k : Int)), (4, .pointer (some ⟨2, 0, some 0⟩)), (10, sv (some ⟨bo_, oo_, none⟩) (resF (fl g.vals k) g.vals[k])), (11, .bool (((resF (fl g.vals k) g.vals[k]).take (i + 1)).all fun x => x == ((resF (fl g.vals k) g.vals[k])[0]?).getD 0)), (71, sv (some ⟨bo_, oo_, none⟩) (resF (fl g.vals k) g.vals[k])), (72, .int .i64 ((resF (fl g.vals k) g.vals[k]).length : Int)), (73, .int .i64 ((i + 1 : Nat) : Int))], [[sv p g.ins, .slice (some ⟨bq, 0, none⟩) g.vals.length g.vals.length, sv r g.outs], [.slice none 0 0, .slice none 0 0, .slice none 0 0], vcells g.vals[k]]⟩, by omega, ?_, i + 1, by omega, rfl, rfl, rfl⟩
          have hsu : (((resF (fl g.vals k) g.vals[k]).take (i + 1)).all fun x => x == ((resF (fl g.vals k) g.vals[k])[0]?).getD 0) = ((((resF (fl g.vals k) g.vals[k]).take i).all fun x => x == ((resF (fl g.vals k) g.vals[k])[0]?).getD 0) && ((resF (fl g.vals k) g.vals[k])[i] == ((resF (fl g.vals k) g.vals[k])[0]?).getD 0)) := by
            rw [List.take_succ_eq_append_getElem hil, List.all_append]; simp
          rw [hsu, ← bif_and]
          exact (by (refine ⟨?_, ?_⟩ <;> repeat' first | exact trivial | exact congrArg (fun x => some (Value.int .i64 x)) hwi | exact rfl | refine ⟨?_, ?_⟩ | fail))
        · have hi3 : i = (resF (fl g.vals k) g.vals[k]).length := by simp at hge3; omega
          subst hi3
          rw [List.take_of_length_le (Nat.le_refl _)]
          have huni : uniB (resF (fl g.vals k) g.vals[k]) = (resF (fl g.vals k) g.vals[k]).all fun x => x == ((resF (fl g.vals k) g.vals[k])[0]?).getD 0 := by unfold uniB; simp [hpos]
          rw [← huni]
          refine ⟨fun hu => ?_, fun hu => ?_⟩
          · have hfv : foldV (fl g.vals k) g.vals[k] = ⟨1, g.vals[k].len, 0, 0, 0, ((resF (fl g.vals k) g.vals[k])[0]?).getD 0⟩ := by
              unfold foldV; rw [hyes, hu]; rfl
            obtain ⟨og4, hst, hbut⟩ := og3.setV rfl (i := k) (v := ⟨1, g.vals[k].len, 0, 0, 0, ((resF (fl g.vals k) g.vals[k])[0]?).getD 0⟩) (by show k < (curF g.vals k).length; omega) (off := 0 + k * 6) rfl rfl
            have hset : (curF g.vals k).set k ⟨1, g.vals[k].len, 0, 0, 0, ((resF (fl g.vals k) g.vals[k])[0]?).getD 0⟩ = curF g.vals (k + 1) := by rw [← hfv]; exact curF_set hlt
            simp only [hset] at og4
            have ol := hbut.out (lo := lo) (hi := hi) (fun b o e => by cases e; exact ⟨(og3.s.lt rfl).1, og3.hi_.2.1 _ _ rfl⟩)
            refine ⟨.leaf [([0, 1, 2, 3, 4, 5, 6, 7, 8, 9], some 10), ([], none)] [], by kernel_rfl, ⟨by omega, by omega⟩, _, cr, ⟨by omega, by omega⟩, hst, ?_⟩
            exact ⟨g.vals.length - (k + 1), ⟨[(1, .pointer (some ⟨0, 0, some 0⟩)), (2, .pointer (some ⟨1, 0, some 0⟩)), (15, .slice (some ⟨bq, 0, none⟩) g.vals.length g.vals.length), (16, .int .i64 (g.vals.length : Int)), (17, .int .i64 ((k + 1 : Nat) : Int))], [[sv p g.ins, .slice (some ⟨bq, 0, none⟩) g.vals.length g.vals.length, sv r g.outs], [.slice none 0 0, .slice none 0 0, .slice none 0 0]]⟩, by omega, (by (refine ⟨?_, ?_⟩ <;> repeat' first | exact trivial | exact congrArg (fun x => some (Value.int .i64 x)) hwk | exact rfl | refine ⟨?_, ?_⟩ | fail)), k + 1, by omega, rfl, rfl, og4, o3.trans ol⟩
          · have hfv : foldV (fl g.vals k) g.vals[k] = g.vals[k] := by unfold foldV; rw [hu]; simp
            rw [← curF_same hlt hfv] at og3
            exact ⟨g.vals.length - (k + 1), ⟨[(1, .pointer (some ⟨0, 0, some 0⟩)), (2, .pointer (some ⟨1, 0, some 0⟩)), (15, .slice (some ⟨bq, 0, none⟩) g.vals.length g.vals.length), (16, .int .i64 (g.vals.length : Int)), (17, .int .i64 ((k + 1 : Nat) : Int))], [[sv p g.ins, .slice (some ⟨bq, 0, none⟩) g.vals.length g.vals.length, sv r g.outs], [.slice none 0 0, .slice none 0 0, .slice none 0 0]]⟩, by omega, (by (refine ⟨?_, ?_⟩ <;> repeat' first | exact trivial | exact congrArg (fun x => some (Value.int .i64 x)) hwk | exact rfl | refine ⟨?_, ?_⟩ | fail)), k + 1, by omega, rfl, rfl, og3, o3⟩
  · have hk' : k = g.vals.length := by simp at hge; omega
    subst hk'
    rw [fl_all] at og
    refine ⟨p, q, r, ?_, og.upX (Nat.le_trans hn o.next), o.wide (Nat.le_refl _) hn⟩
    show AEnd.ret (.agg #[sv p g.ins, .slice q g.vals.length g.vals.length, sv r g.outs]) = .ret (.agg #[sv p g.ins, .slice q (fl g.vals g.vals.length).length (fl g.vals g.vals.length).length, sv r g.outs])
    rw [fl_len]
end Go.Proofs.Ytjmobjiaoklfdaa
