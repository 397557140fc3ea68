/- Values put behind a graph: the reference's. Conditions: those of each. -/
import Derived.Test.YtaaelokodfildaaPsd
set_option linter.unusedVariables false
set_option linter.unusedSimpArgs false
namespace Go.Proofs.Ytaaelokodfildaa
open Go.Am
open FlCore (canon isNan)

/-- Blocks but one are kept; what takes its place is new. -/
structure Mv (K : Heap) (q : Option Addr) (K' : Heap) (q' : Option Addr) : Prop where
  next : K.next ≤ K'.next
  same : ∀ b c, (∀ o, q ≠ some ⟨b, o, none⟩) → K.blk b = some c → K'.blk b = some c
  new : q' = q ∨ ∃ b, q' = some ⟨b, 0, none⟩ ∧ K.next ≤ b
theorem Mv.refl (K : Heap) (q : Option Addr) : Mv K q K q := ⟨Nat.le_refl _, fun _ _ _ h => h, .inl rfl⟩
theorem Mv.trans {K K' K'' : Heap} {q q' q'' : Option Addr} (h : Mv K q K' q') (h' : Mv K' q' K'' q'') : Mv K q K'' q'' where
  next := Nat.le_trans h.next h'.next
  same := fun b c hb hc => h'.same b c (fun o e => by
    rcases h.new with rfl | ⟨b', rfl, hn⟩
    · exact hb o e
    · cases e; exact absurd (K.lt _ _ hc) (by omega)) (h.same b c hb hc)
  new := by
    rcases h'.new with rfl | ⟨b', rfl, hn⟩
    · exact h.new
    · exact .inr ⟨b', rfl, Nat.le_trans h.next hn⟩
theorem Mv.ext {H K K' : Heap} {q q' : Option Addr} (e : Ext H K) (h : Mv K q K' q') (hq : ∀ b o, q = some ⟨b, o, none⟩ → H.next ≤ b) : Ext H K' :=
  ⟨Nat.le_trans e.next h.next, fun b c hc => h.same b c (fun o eq => by have := hq b o eq; have := H.lt _ _ hc; omega) (e.same b c hc)⟩
theorem Mv.buf {α : Type} {d : Enc α} {K K' : Heap} {lo : Nat} {q q' a : Option Addr} {xs : List α} (h : Mv K q K' q') (hb : Buf d K lo a xs) (ha : ∀ b, a = some ⟨b, 0, none⟩ → ∀ o, q ≠ some ⟨b, o, none⟩) : Buf d K' lo a xs := by
  cases hb with
  | nil => exact .nil
  | blk h1 h2 => exact .blk h1 (h.same _ _ (ha _ rfl) h2)
/-- What a value put behind a graph leaves. -/
def PR (K : Heap) (lo : Nat) (p q r : Option Addr) (g : Graph) (e : AEnd) (K' : Heap) : Prop := ∃ q', e = .ret (gV p q' r g) ∧ OwnG K' lo K'.next p q' r g ∧ Mv K q K' q'
theorem PR.no {K K' : Heap} {lo : Nat} {p q r : Option Addr} {g : Graph} {v : Value} (h : PR K lo p q r g (.pan v) K') : False := by obtain ⟨_, h, _⟩ := h; cases h
def putG (g : Graph) (v : Val) : Graph := ⟨g.ins, g.vals ++ [v], g.outs⟩
theorem putG_len (g : Graph) (v : Val) : (putG g v).vals.length = g.vals.length + 1 := by simp [putG]
theorem killO_keep {α : Type} {d : Enc α} {K K2 : Heap} {lo : Nat} {q : Option Addr} {xs : List α} (hb : Buf d K lo q xs) {b : Nat} {c : Blk} (hne : ∀ o, q ≠ some ⟨b, o, none⟩) (h : K2.blk b = some c) : (K2.killO q).blk b = some c := by
  cases hb with
  | nil => exact h
  | @blk b' _ _ _ =>
    have hne : b ≠ b' := fun e => hne 0 (by rw [e])
    show (if b = b' then none else K2.blk b) = some c
    rw [if_neg hne]; exact h
theorem bufq_ne {α : Type} {d : Enc α} {K : Heap} {lo : Nat} {q : Option Addr} {xs : List α} (hb : Buf d K lo q xs) {b : Nat} (h : q ≠ some ⟨b, 0, none⟩) : ∀ o, q ≠ some ⟨b, o, none⟩ := fun o e => by
  cases hb with
  | nil => cases e
  | @blk b' _ _ _ => cases e; exact h rfl
theorem bufq_some {α : Type} {d : Enc α} {K : Heap} {lo : Nat} {q : Option Addr} {xs : List α} (hb : Buf d K lo q xs) (hp : 0 < xs.length) : ∃ b, q = some ⟨b, 0, none⟩ := by
  cases hb with
  | nil => cases hp
  | @blk b _ _ _ => exact ⟨b, rfl⟩
theorem app_put {K : Heap} {lo : Nat} {p q r : Option Addr} {g : Graph} (v : Val) (og : OwnG K lo K.next p q r g) (hlo : lo ≤ K.next) :
    OwnG (((K.push (.cells (vcells v) 6 true)).killO q).push (.cells (flat dVal g.vals ++ vcells v) 6 true)) lo (K.next + 2) p (some ⟨K.next + 1, 0, none⟩) r (putG g v) ∧
    Mv K q (((K.push (.cells (vcells v) 6 true)).killO q).push (.cells (flat dVal g.vals ++ vcells v) 6 true)) (some ⟨K.next + 1, 0, none⟩) := by
  obtain ⟨hi1, hi2, hi3⟩ := og.hi_
  obtain ⟨n1, n2, n3⟩ := og.ne
  have bs := (og.s.mono (Ext.push K (.cells (vcells v) 6 true)))
  have happ := bs.app (ys := [v]) (news := vcells v) rfl (show lo ≤ (K.push (.cells (vcells v) 6 true)).next by show lo ≤ K.next + 1; omega)
  have keep : ∀ b c, (∀ o, q ≠ some ⟨b, o, none⟩) → K.blk b = some c → (((K.push (.cells (vcells v) 6 true)).killO q).push (.cells (flat dVal g.vals ++ vcells v) 6 true)).blk b = some c := fun b c hb hc => by
    have hlt := K.lt _ _ hc
    have h1 : (K.push (.cells (vcells v) 6 true)).blk b = some c := (Ext.push K _).same b c hc
    exact (Ext.push _ _).same b c (killO_keep og.s hb h1)
  have kb : ∀ {a : Option Addr} {xs : List Int}, Buf dInt K lo a xs → (∀ b, a = some ⟨b, 0, none⟩ → q ≠ some ⟨b, 0, none⟩) → Buf dInt (((K.push (.cells (vcells v) 6 true)).killO q).push (.cells (flat dVal g.vals ++ vcells v) 6 true)) lo a xs := fun {a xs} hb ha => by
    cases hb with
    | nil => exact .nil
    | @blk b _ h1 h2 => exact .blk h1 (keep b _ (bufq_ne og.s (ha b rfl)) h2)
  refine ⟨⟨kb og.i (fun b e => (n1 b 0 e).1), happ, kb og.o (fun b e => (n3 b 0 e).2), ⟨fun b f e => by have := hi1 b f e; omega, fun b f e => by cases e; omega, fun b f e => by have := hi3 b f e; omega⟩,
    ⟨fun b f e => ⟨fun e2 => by cases e2; have := hi1 _ _ e; omega, (n1 b f e).2⟩, fun b f e => ?_, fun b f e => ⟨(n3 b f e).1, fun e2 => by cases e2; have := hi3 _ _ e; omega⟩⟩⟩, ⟨?_, keep, .inr ⟨_, rfl, by omega⟩⟩⟩
  · cases e
    exact ⟨fun e2 => by have := hi1 _ _ e2; omega, fun e2 => by have := hi3 _ _ e2; omega⟩
  · show K.next ≤ K.next + 1 + 1; omega
theorem sv_one (q : Option Addr) (xs : List Val) (v : Val) : Value.slice q (xs.length + 1) (xs.length + 1) = sv q (xs ++ [v]) := sv_appX _ _ ([v] : List Val) rfl
theorem l2put_ec (K : Heap) (lo : Nat) (p q r : Option Addr) (g : Graph) (v : Val) (og : OwnG K lo K.next p q r g) (hlo : lo ≤ K.next) (hl : g.vals.length ≤ 1000000) :
    EC Try.prog 35 [gV p q r g, valV v] K (PR K lo p q r (putG g v)) := by
  refine EC_fn ctx (fun _ => true) Try.func35 rfl rfl rfl ?_
  refine ⟨_, run_push _ _ _ _ (Nat.le_refl 6), by dsimp only; omega, by dsimp only; omega, _, (og.s.mono (Ext.push K (.cells (vcells v) 6 true))).own, ?_⟩
  obtain ⟨a, b⟩ := app_put v og hlo
  exact ⟨some ⟨K.next + 1, 0, none⟩, by rw [show gV p (some ⟨K.next + 1, 0, none⟩) r (putG g v) = .agg #[sv p g.ins, .slice (some ⟨K.next + 1, 0, none⟩) (g.vals.length + 1) (g.vals.length + 1), sv r g.outs] by rw [sv_one]; rfl]; rfl, a, b⟩
theorem l2last_pc (K : Heap) (p q r : Option Addr) (g : Graph) (hl : g.vals.length ≤ 1000000) : PC Try.prog 37 [gV p q r g] K (.int .i64 ((g.vals.length : Int) - 1)) := by
  refine EC_fn ctx (fun _ => true) Try.func37 rfl rfl rfl ?_
  refine ⟨?_, rfl⟩
  show AEnd.ret (.int .i64 (IntKind.i64.wrap ((g.vals.length : Int) - 1))) = _
  rw [wrap_i64 (by omega) (by omega)]
def opV (op n a b c : Int) : Val := ⟨op, n, a, b, c, 0⟩
theorem l2op_pc (K : Heap) (op n a b c : Int) : PC Try.prog 41 [.int .i64 op, .int .i64 n, .int .i64 a, .int .i64 b, .int .i64 c] K (valV (opV op n a b c)) := by
  refine EC_fn ctx (fun _ => true) Try.func41 rfl rfl rfl ?_
  exact ⟨rfl, rfl⟩
theorem l2zeros_pc (K : Heap) (n : Int) : PC Try.prog 36 [.int .i64 n] K (valV (opV 1 n 0 0 0)) := by
  refine EC_fn ctx (fun _ => true) Try.func36 rfl rfl rfl ?_
  exact ⟨rfl, rfl⟩
/-- Values with an index. -/
def orP (vs : List Val) (a n : Int) : List Val × Int := if 0 ≤ a then (vs, a) else (vs ++ [opV 1 n 0 0 0], (vs.length : Int))
def OR (K : Heap) (lo : Nat) (p q r : Option Addr) (g : Graph) (x : List Val × Int) (e : AEnd) (K' : Heap) : Prop := ∃ q', e = .ret (.tuple #[gV p q' r ⟨g.ins, x.1, g.outs⟩, .int .i64 x.2]) ∧ OwnG K' lo K'.next p q' r ⟨g.ins, x.1, g.outs⟩ ∧ Mv K q K' q'
theorem OR.no {K K' : Heap} {lo : Nat} {p q r : Option Addr} {g : Graph} {x : List Val × Int} {v : Value} (h : OR K lo p q r g x (.pan v) K') : False := by obtain ⟨_, h, _⟩ := h; cases h
end Go.Proofs.Ytaaelokodfildaa
