/-
 Tables of rows of the document in memory.; A procedure in the place of another one: what it owes, and what is right then. Plain.; What is known stands as numbers: the procedure, and why it does the same. Plain.; The rows that the telling comes to hold wherever one comes by, plain.; Tables just made; the document's rounds have words; a block hears of those that lead to it, one by one.
-/
import Derived.Test.YtkhfddodmjnecaaGreatDoorZFoldKnown40
import Derived.Test.YtkhfddodmjnecaaGreatDoorZFoldKnown28
import Derived.Test.YtkhfddodmjnecaaGreatDoorZFoldKnown35
import Derived.Test.YtkhfddodmjnecaaGreatDoorZFoldKnown11

set_option linter.all false
namespace Go.Proofs.YtkhfddodmjnecaaGreatDoor
open Go.ChangeShapes Go.WideShapes Go.ChangeAt Go.RowKit
set_option maxHeartbeats 4000000
set_option maxRecDepth 100000
set_option linter.unusedVariables false

/-- a row's cells -/
structure Dr where
 s : Bool
 h : Value
 n : Value
instance : Inhabited Dr := ⟨⟨false, .slice none 0 0, .slice none 0 0⟩⟩
def Dr.cells (d : Dr) : List Value := [.bool d.s, d.h, d.n]
def Dr.v (d : Dr) : Value := .agg #[.bool d.s, d.h, d.n]
/-- a row of one's own -/
structure DrO (w : World) (B : Nat) (d : Dr) (o : Option Ro) : Prop where
 s : d.s = o.isSome
 h : w.ownsRow B 4 1 d.h (o.getD []).length (hasV (o.getD []))
 n : w.ownsRow B 45 1 d.n (o.getD []).length (numV (o.getD []))
theorem DrO.below {w w' : World} {B : Nat} {d : Dr} {o : Option Ro} (h : DrO w B d o) (hb : Below w.heap.size w w') : DrO w' B d o := ⟨h.s, own_below h.h hb, own_below h.n hb⟩
theorem DrO.base {w : World} {B B' : Nat} {d : Dr} {o : Option Ro} (h : DrO w B d o) (hb : B' ≤ B) : DrO w B' d o := ⟨h.s, ow_base h.h hb, ow_base h.n hb⟩
theorem DrO.rd {w : World} {B : Nat} {d : Dr} {o : Option Ro} (h : DrO w B d o) : RwV w d.v o := by
 refine ⟨d.h, d.n, by rw [← h.s]; rfl, own_rdVs (B := B) (e := 4) ?_, own_rdVs (B := B) (e := 45) ?_⟩
 ·rw [show (hasV (o.getD [])).length = (o.getD []).length by simp [hasV]]; exact h.h
 ·rw [show (numV (o.getD [])).length = (o.getD []).length by simp [numV]]; exact h.n
/-- a row stays while a block of another type turns -/
theorem DrO.turn {w w' : World} {B : Nat} {d : Dr} {o : Option Ro} {row : Option Nat} (h : DrO w B d o) (hg : w.grownBy w' row) (hr : ∀ g, row = some g → ∃ cs ty, w.heap[g]? = some (.cells cs ty) ∧ ty ≠ 4 ∧ ty ≠ 45) : DrO w' B d o := by
 have key : ∀ {e : TypeId} {v : Value} {n : Nat} {xs : List Value}, w.ownsRow B e 1 v n xs → (e = 4 ∨ e = 45) → w'.ownsRow B e 1 v n xs := fun {e v n xs} hh he => by
  refine World.ownsRow.kept hh hg ?_
  by_cases hv : v.ownBlock = none
  ·exact .inl hv
  ·right
   intro e2
   cases hro : row with
   | none => exact hv (e2.trans hro)
   | some g =>
    obtain ⟨cs, ty, h1, h2, h3⟩ := hr g hro
    refine row_not hh h1 ?_ (e2.trans hro)
    rcases he with rfl | rfl
    ·exact Ne.symm h2
    ·exact Ne.symm h3
 exact ⟨h.s, key h.h (.inl rfl), key h.n (.inr rfl)⟩
structure TbD (w : World) (B : Nat) (v : Value) (ds : List Dr) (X : List (Option Ro)) : Prop where
 len : ds.length = X.length
 own : w.ownsRow B 40 3 v X.length (ds.flatMap Dr.cells)
 row : ∀ i, i < X.length → DrO w B (ds.getD i default) (X.getD i none)
theorem TbD.below {w w' : World} {B : Nat} {v : Value} {ds : List Dr} {X : List (Option Ro)} (h : TbD w B v ds X) (hb : Below w.heap.size w w') : TbD w' B v ds X := ⟨h.len, own_below h.own hb, fun i hi => (h.row i hi).below hb⟩
theorem TbD.base {w : World} {B B' : Nat} {v : Value} {ds : List Dr} {X : List (Option Ro)} (h : TbD w B v ds X) (hb : B' ≤ B) : TbD w B' v ds X := ⟨h.len, ow_base h.own hb, fun i hi => (h.row i hi).base hb⟩
theorem TbD.nil (w : World) (B : Nat) : TbD w B (.slice none 0 0) [] [] := ⟨rfl, own_nil w B _ _, fun i hi => absurd hi (Nat.not_lt_zero _)⟩
/-- a row's three cells -/
theorem TbD.at {w : World} {B g c : Nat} {n : Nat} {ds : List Dr} {X : List (Option Ro)} (h : TbD w B (.slice (some ⟨g, 0, none⟩) n c) ds X) {i : Nat} (hi : i < X.length) :
  w.cell? ⟨g, i * 3, none⟩ = some (.bool (ds.getD i default).s) ∧ w.cell? ⟨g, i * 3 + 1, none⟩ = some (ds.getD i default).h ∧ w.cell? ⟨g, i * 3 + 2, none⟩ = some (ds.getD i default).n := by
 have hl : i < ds.length := by rw [h.len]; exact hi
 have hn : n = X.length := by
  obtain ⟨-, ⟨e, -⟩ | ⟨g', cap, cur, e, -⟩⟩ := h.own
  ·cases e
  ·simp only [Value.slice.injEq] at e; exact e.2.1
 subst hn
 have f0 := flat_at Dr.cells 3 (fun _ => rfl) ds i 0 hl (by decide)
 have f1 := flat_at Dr.cells 3 (fun _ => rfl) ds i 1 hl (by decide)
 have f2 := flat_at Dr.cells 3 (fun _ => rfl) ds i 2 hl (by decide)
 exact ⟨(World.ownsRow.cellAt h.own (i * 3 + 0) (by omega)).trans f0, (World.ownsRow.cellAt h.own (i * 3 + 1) (by omega)).trans f1, (World.ownsRow.cellAt h.own (i * 3 + 2) (by omega)).trans f2⟩
theorem getD_appL {α : Type} (a : List α) (x d : α) (i : Nat) : (a ++ [x]).getD i d = if i < a.length then a.getD i d else if i = a.length then x else d := by
 by_cases h : i < a.length
 ·rw [if_pos h]; simp [List.getD, List.getElem?_append, h]
 ·rw [if_neg h]
  by_cases e : i = a.length
  ·rw [if_pos e, e]; simp [List.getD]
  ·rw [if_neg e]
   have : (a ++ [x])[i]? = none := List.getElem?_eq_none (by simp; omega)
   rw [List.getD_eq_getElem?_getD, this]; rfl
/-- one row more -/
theorem TbD.app {w w' : World} {B : Nat} {v v' : Value} {ds : List Dr} {X : List (Option Ro)} {d : Dr} {o : Option Ro} (h : TbD w B v ds X) (hd : DrO w B d o) (hg : w.grownBy w' v.ownBlock)
  (h1 : w'.ownsRow B 40 3 v' (X.length + 1) (ds.flatMap Dr.cells ++ Dr.cells d)) : TbD w' B v' (ds ++ [d]) (X ++ [o]) := by
 have hr : ∀ g, v.ownBlock = some g → ∃ cs ty, w.heap[g]? = some (.cells cs ty) ∧ ty ≠ 4 ∧ ty ≠ 45 := fun g hgv => by
  obtain ⟨-, ⟨rfl, -⟩ | ⟨g', cap, cur, rfl, -, hb, -⟩⟩ := h.own
  ·cases hgv
  ·cases hgv; exact ⟨_, _, hb, by decide, by decide⟩
 refine ⟨by simp [h.len], ?_, fun i hi => ?_⟩
 ·rw [List.length_append, List.flatMap_append]
  simpa using h1
 ·rw [getD_appL, getD_appL, h.len]
  rw [List.length_append, List.length_singleton] at hi
  by_cases e : i < X.length
  ·rw [if_pos e, if_pos e]; exact (h.row i e).turn hg hr
  ·rw [if_neg e, if_neg e, if_pos (by omega), if_pos (by omega)]; exact hd.turn hg hr
/-- a row is laid in the place of another one -/
theorem TbD.put {w : World} {B g c : Nat} {n : Nat} {ds : List Dr} {X : List (Option Ro)} {d : Dr} {o : Option Ro} (h : TbD w B (.slice (some ⟨g, 0, none⟩) n c) ds X) (hd : DrO w B d o) {i : Nat} (hi : i < X.length) :
  TbD (((w.setCell ⟨g, i * 3, none⟩ (.bool d.s)).setCell ⟨g, i * 3 + 1, none⟩ d.h).setCell ⟨g, i * 3 + 2, none⟩ d.n) B (.slice (some ⟨g, 0, none⟩) n c) (ds.set i d) (X.set i o) := by
 have hl : i < ds.length := by rw [h.len]; exact hi
 have hn : n = X.length := by
  obtain ⟨-, ⟨e, -⟩ | ⟨g', cap, cur, e, -⟩⟩ := h.own
  ·cases e
  ·simp only [Value.slice.injEq] at e; exact e.2.1
 subst hn
 obtain ⟨-, cs, hcs⟩ := own_heap h.own (by omega)
 have o1 := (World.ownsRow.stored h.own (i * 3) (.bool d.s)).1
 have o2 := (World.ownsRow.stored o1 (i * 3 + 1) d.h).1
 have o3 := (World.ownsRow.stored o2 (i * 3 + 2) d.n).1
 have hset : (((ds.flatMap Dr.cells).set (i * 3) (.bool d.s)).set (i * 3 + 1) d.h).set (i * 3 + 2) d.n = (ds.set i d).flatMap Dr.cells := by
  have q0 := flat_set Dr.cells 3 (fun _ => rfl) ds i 0 ⟨d.s, (ds[i]?.getD ⟨d.s, d.h, d.n⟩).h, (ds[i]?.getD ⟨d.s, d.h, d.n⟩).n⟩ (.bool d.s) hl (by decide) (by rw [List.getElem?_eq_getElem hl]; rfl)
  rw [Nat.add_zero] at q0
  rw [q0]
  have q1 := flat_set Dr.cells 3 (fun _ => rfl) (ds.set i ⟨d.s, (ds[i]?.getD ⟨d.s, d.h, d.n⟩).h, (ds[i]?.getD ⟨d.s, d.h, d.n⟩).n⟩) i 1 ⟨d.s, d.h, (ds[i]?.getD ⟨d.s, d.h, d.n⟩).n⟩ d.h (by simpa using hl) (by decide) (by simp [hl]; rfl)
  rw [q1, List.set_set]
  have q2 := flat_set Dr.cells 3 (fun _ => rfl) (ds.set i ⟨d.s, d.h, (ds[i]?.getD ⟨d.s, d.h, d.n⟩).n⟩) i 2 d d.n (by simpa using hl) (by decide) (by simp [hl]; rfl)
  rw [q2, List.set_set]
 rw [hset] at o3
 have keep : ∀ {j : Nat} {e : Dr} {q : Option Ro}, DrO w B e q → DrO (((w.setCell ⟨g, i * 3, none⟩ (.bool d.s)).setCell ⟨g, i * 3 + 1, none⟩ d.h).setCell ⟨g, i * 3 + 2, none⟩ d.n) B e q := fun {j e q} he => by
  have hg : w.grownBy (((w.setCell ⟨g, i * 3, none⟩ (.bool d.s)).setCell ⟨g, i * 3 + 1, none⟩ d.h).setCell ⟨g, i * 3 + 2, none⟩ d.n) (some g) := but_grownK (((But.setCell g (i * 3) w _).trans (But.setCell g (i * 3 + 1) _ _)).trans (But.setCell g (i * 3 + 2) _ _))
  exact he.turn hg (fun z hz => by cases hz; exact ⟨cs, _, hcs, by decide, by decide⟩)
 refine ⟨by simp [h.len], by rw [List.length_set]; exact o3, fun k hk => ?_⟩
 rw [List.length_set] at hk
 by_cases e : k = i
 ·subst e
  rw [show (ds.set k d).getD k default = d by simp [List.getD, hl], show (X.set k o).getD k none = o by simp [List.getD, hi]]
  exact keep (j := 0) hd
 ·rw [show (ds.set i d).getD k default = ds.getD k default by simp [List.getD, List.getElem?_set, Ne.symm e], show (X.set i o).getD k none = X.getD k none by simp [List.getD, List.getElem?_set, Ne.symm e]]
  exact keep (j := 0) (h.row k hk)
end Go.Proofs.YtkhfddodmjnecaaGreatDoor

set_option linter.all false
namespace Go.Proofs.YtkhfddodmjnecaaGreatDoor
set_option linter.unusedVariables false

/-- what others ask of a procedure -/
structure Like (p q : Pr) : Prop where
 params : q.params = p.params
 void : q.void = p.void
/-- a procedure in the place of another one does the same -/
structure Good (m : Md) (inp : List Int) (n : Nat) (q : Pr) : Prop where
 like : Like (pk m n) q
 objs : q.objs = (pk m n).objs
 ok : okP m q = true
 pr : PrOk q
 sz : SzP q
 same : ∀ f F, f ≤ F → (playM m inp f).e = 0 → SameO (playM m inp f) (playM (withM m n q) inp F)
theorem MdOk.with {m : Md} {n : Nat} {q : Pr} (h : MdOk m) (hq : PrOk q) : MdOk (withM m n q) := by
 obtain ⟨h1, h2, h3, h4⟩ := h
 refine ⟨h1, h2, fun p hp => ?_, h4⟩
 unfold withM at hp
 rcases List.mem_or_eq_of_mem_set hp with hp | rfl
 ·exact h3 p hp
 ·exact hq
theorem SzM.with {m : Md} {n : Nat} {q : Pr} (h : SzM m) (hq : SzP q) : SzM (withM m n q) := ⟨fun p hp => by
 unfold withM at hp
 rcases List.mem_or_eq_of_mem_set hp with hp | rfl
 ·exact h.procs p hp
 ·exact hq⟩
theorem Good.refl {m : Md} {inp : List Int} {n : Nat} (hok : okM m = true) (hmd : MdOk m) (hs : SzM m) (hn : n < m.procs.length) : Good m inp n (pk m n) := by
 have hm : pk m n ∈ m.procs := by unfold pk; simp [List.getD, hn]
 have e : withM m n (pk m n) = m := by
  unfold withM pk
  have : m.procs.set n (m.procs.getD n default) = m.procs := by
   apply List.ext_getElem
   ·simp
   ·intro i h1 h2
    rw [List.getElem_set]
    split
    ·rename_i h; subst h; simp [List.getD, hn]
    ·rfl
  rw [this]
 refine ⟨⟨rfl, rfl⟩, rfl, okM_proc hok hn, hmd.procs _ hm, hs.procs _ hm, fun f F hF he => ?_⟩
 rw [e]
 unfold playM at he ⊢
 have n1 : ¬ okM m = false := by rw [hok]; decide
 rw [if_neg n1] at he ⊢
 rw [if_neg n1]
 by_cases hen : 65536 < enM m
 ·rw [if_pos hen] at he; cases he
 ·rw [if_neg hen] at he ⊢
  rw [if_neg hen]
  generalize enterM m [] m.main.toNat [] 65536 ⟨mem0 m m.globs.length, [], 0, 0, 0⟩ = M at *
  rw [runM_it] at he ⊢
  rw [runM_it]
  unfold ocE at he ⊢
  cases hf : (itM m inp f M).fin
  ·rw [hf, if_neg (by decide)] at he; cases he
  ·obtain ⟨d, rfl⟩ := Nat.le.dest hF
   rw [if_pos rfl, itM_add, itM_fin _ hf, if_pos hf]
   exact SameO.refl _
theorem getD_in {α : Type} {l : List α} {j : Nat} {d : α} (h : j < l.length) : l.getD j d ∈ l := by simp [List.getD, h]
theorem i64_0 : I64 0 := ⟨by decide, by decide⟩
theorem i64_1 : I64 1 := ⟨by decide, by decide⟩
theorem i64_m : I64 (-1) := ⟨by decide, by decide⟩
end Go.Proofs.YtkhfddodmjnecaaGreatDoor

set_option linter.all false
namespace Go.Proofs.YtkhfddodmjnecaaGreatDoor
set_option linter.unusedVariables false

def constI (d n : Int) : In := ⟨1, d, -1, -1, 0, 0, 0, 0, n, [], false⟩
/-- what stands in the place of an instruction, behind which the row is t -/
def knwI (t : Ro) (i : In) : In := if i.op = 2 ∨ i.op = 3 ∨ i.op = 4 then (match cAt t i.d with | some n => constI i.d n | none => i) else i
def knwL : Ro → List In → List In
 | _, [] => []
 | t, i :: l => knwI (behC t i) i :: knwL (behC t i) l
def jmpB (b : Bk) (n : Int) : Bk := ⟨b.ins, 1, -1, if n = 0 then b.els else b.to, 0⟩
def knwE (t : Ro) (b : Bk) : Bk := if b.fin = 2 then (match cAt t b.a with | some n => jmpB b n | none => b) else b
def knwB (t : Ro) (b : Bk) : Bk := knwE (thrC t b.ins) ⟨knwL t b.ins, b.fin, b.a, b.to, b.els⟩
def knwP (p : Pr) (X : Nat → Ro) : Pr := ⟨p.void, p.params, p.regs, p.objs, (List.range p.blks.length).map fun n => knwB (X n) (p.blks.getD n default)⟩
theorem knwL_len : ∀ (l : List In) (t : Ro), (knwL t l).length = l.length
 | [], _ => rfl
 | i :: l, t => by simp [knwL, knwL_len l]
theorem knwL_at : ∀ (l : List In) (t : Ro) (k : Nat), k < l.length → (knwL t l).getD k default = knwI (thrC t (l.take (k + 1))) (l.getD k default)
 | [], _, _, h => absurd h (Nat.not_lt_zero _)
 | i :: l, t, 0, _ => rfl
 | i :: l, t, k + 1, h => by
  have := knwL_at l (behC t i) k (by simpa using h)
  rw [knwL, List.getD_cons_succ, this, List.take_succ_cons, List.getD_cons_succ]; rfl
theorem knwB_ins (t : Ro) (b : Bk) : (knwB t b).ins = knwL t b.ins := by
 unfold knwB knwE
 split
 ·split <;> rfl
 ·rfl
theorem knwB_end (t : Ro) (b : Bk) : ((knwB t b).fin = b.fin ∧ (knwB t b).a = b.a ∧ (knwB t b).to = b.to ∧ (knwB t b).els = b.els) ∧ (b.fin = 2 → cAt (thrC t b.ins) b.a = none) ∨ b.fin = 2 ∧ ∃ n, cAt (thrC t b.ins) b.a = some n ∧ (knwB t b).fin = 1 ∧ (knwB t b).a = -1 ∧ (knwB t b).to = (if n = 0 then b.els else b.to) ∧ (knwB t b).els = 0 := by
 unfold knwB knwE
 dsimp only
 by_cases h : b.fin = 2
 ·rw [if_pos h]
  cases hc : cAt (thrC t b.ins) b.a with
  | none => exact .inl ⟨⟨rfl, rfl, rfl, rfl⟩, fun _ => rfl⟩
  | some n => exact .inr ⟨h, n, rfl, rfl, rfl, rfl, rfl⟩
 ·rw [if_neg h]
  exact .inl ⟨⟨rfl, rfl, rfl, rfl⟩, fun e => absurd e h⟩
theorem knwP_len (p : Pr) (X : Nat → Ro) : (knwP p X).blks.length = p.blks.length := by simp [knwP]
theorem knwP_at (p : Pr) (X : Nat → Ro) {n : Nat} (h : n < p.blks.length) : (knwP p X).blks.getD n default = knwB (X n) (p.blks.getD n default) := by simp [knwP, List.getD, h]

/-- registers have what a row says -/
def Kn (t : Ro) (regs : List Int) : Prop := ∀ (r : Nat) (x : Int), t.getD r none = some x → regs.getD r 0 = x
theorem Kn.at {t : Ro} {regs : List Int} (h : Kn t regs) {r x : Int} (e : cAt t r = some x) : rg regs r = x := by
 unfold cAt at e
 split at e
 ·exact h _ _ e
 ·cases e
theorem Kn.le {a b : Ro} {regs : List Int} (k : Kn b regs) (h : LeR a b) : Kn a regs := fun r x e => by
 rcases h.2 r with e2 | e2
 ·exact k r x (e2 ▸ e)
 ·rw [e2] at e; cases e
theorem Kn.set {t : Ro} {regs : List Int} (h : Kn t regs) (d : Nat) (o : Option Int) (v : Int) (hv : ∀ x, o = some x → v = x) (hl : t.length ≤ regs.length) : Kn (t.set d o) (regs.set d v) := fun r x e => by
 by_cases er : d = r
 ·subst er
  by_cases hl2 : d < t.length
  ·have e1 : (t.set d o).getD d none = o := by simp [List.getD, hl2]
   rw [e1] at e
   have e2 : (regs.set d v).getD d 0 = v := by simp [List.getD, Nat.lt_of_lt_of_le hl2 hl]
   rw [e2]; exact hv x e
  ·have e1 : (t.set d o)[d]? = none := List.getElem?_eq_none (by simp; omega)
   rw [List.getD_eq_getElem?_getD, e1] at e; cases e
 ·rw [show (t.set d o).getD r none = t.getD r none by simp [List.getD, List.getElem?_set, er]] at e
  rw [show (regs.set d v).getD r 0 = regs.getD r 0 by simp [List.getD, List.getElem?_set, er]]
  exact h r x e
theorem Kn.num {m : Md} {inp : List Int} {p : Pr} {low : Int} {i : In} {regs : List Int} {s : Oc} {r : List Int × Oc} {t : Ro} (hk : Kn t regs) {x : Int} (e : numC t i = some x) (h : insM m inp p low i regs s = some r) : r = (regs.set i.d.toNat x, s) := by
 unfold numC at e
 unfold insM at h
 by_cases h1 : i.op = 1
 ·rw [if_pos h1] at e h; cases e; cases h; rfl
 ·rw [if_neg h1] at e h
  by_cases h2 : i.op = 2
  ·rw [if_pos h2] at e h
   cases h
   rw [hk.at e]
  ·rw [if_neg h2] at e h
   by_cases h4 : i.op = 4
   ·rw [if_pos h4] at e
    rw [if_neg (by omega), if_pos h4] at h
    cases ha : cAt t i.a with
    | none => rw [ha] at e; cases e
    | some y =>
     rw [ha] at e
     simp only [Option.map_some, Option.some.injEq] at e
     cases h
     rw [hk.at ha, e]
   ·rw [if_neg h4] at e
    by_cases h3 : i.op = 3
    ·rw [if_pos h3] at e h
     cases ha : cAt t i.a with
     | none => rw [ha] at e; cases e
     | some y =>
      cases hb : cAt t i.b with
      | none => rw [ha, hb] at e; cases e
      | some z =>
       rw [ha, hb] at e
       simp only [Option.bind_some, Option.map_some, Option.some.injEq] at e
       cases h
       rw [hk.at ha, hk.at hb, e]
    ·rw [if_neg h3] at e; cases e
theorem Kn.ins {m : Md} {inp : List Int} {p p' : Pr} {low : Int} {i : In} {regs : List Int} {s : Oc} {r : List Int × Oc} {t : Ro} (hk : Kn t regs) (hl : t.length ≤ regs.length) (hok : okI m p' i = true) (h9 : i.op ≠ 9) (h : insM m inp p low i regs s = some r) : Kn (behC t i) r.1 := by
 have hop := ops12 hok
 unfold behC
 rcases (insM_shape ⟨hop.1, hop.2, h9⟩ h).1 with ⟨e1, e2⟩ | ⟨e1, n6, n10, n12, v, e2⟩
 ·rw [if_pos e1, e2]; exact hk
 ·have hd := okI_d hok ⟨n6, n10, n12, h9⟩
  rw [if_neg (by omega), e1]
  cases hN : numC t i with
  | none => rw [e2]; exact hk.set _ none v (fun x hx => by cases hx) hl
  | some x => rw [hk.num hN h]; exact hk.set _ _ _ (fun y hy => by cases hy; rfl) hl
section
variable {m : Md} {n : Nat} {X : Nat → Option Ro}
end
theorem knwL_mem {t : Ro} {l : List In} {i : In} (h : i ∈ knwL t l) : ∃ k, k < l.length ∧ i = knwI (thrC t (l.take (k + 1))) (l.getD k default) := by
 obtain ⟨k, hk, rfl⟩ := List.getElem_of_mem h
 rw [knwL_len] at hk
 refine ⟨k, hk, ?_⟩
 rw [← knwL_at l t k hk]
 simp [List.getD, knwL_len, hk]
theorem knwP_mem {p : Pr} {X : Nat → Ro} {b : Bk} (h : b ∈ (knwP p X).blks) : ∃ k, k < p.blks.length ∧ b = knwB (X k) (p.blks.getD k default) := by
 obtain ⟨k, hk, rfl⟩ := List.mem_map.1 h
 exact ⟨k, List.mem_range.1 hk, rfl⟩
theorem knwI_in {t : Ro} {i : In} (hi : InOk i) (ht : RoOk t) : InOk (knwI t i) := by
 unfold knwI
 split
 ·split
  ·rename_i n hc
   have := ht.at _ _ hc
   exact ⟨i64_1, hi.d, i64_m, i64_m, i64_0, i64_0, i64_0, i64_0, this, fun x hx => by cases hx⟩
  ·exact hi
 ·exact hi
theorem knwP_ok {p : Pr} {X : Nat → Ro} (h : PrOk p) (hX : ∀ n, RoOk (X n)) : PrOk (knwP p X) := by
 refine ⟨h.params, h.regs, h.objs, fun b hb => ?_⟩
 obtain ⟨k, hk, rfl⟩ := knwP_mem hb
 have hB := h.blks (p.blks.getD k default) (getD_in hk)
 have hins : ∀ i ∈ (knwB (X k) (p.blks.getD k default)).ins, InOk i := fun i hi => by
  rw [knwB_ins] at hi
  obtain ⟨j, hj, rfl⟩ := knwL_mem hi
  refine knwI_in (hB.ins _ (getD_in hj)) (thrC_ok (hX k) fun x hx => (hB.ins x (List.mem_of_mem_take hx)).num)
 rcases knwB_end (X k) (p.blks.getD k default) with ⟨⟨a1, a2, a3, a4⟩, -⟩ | ⟨a0, x, a1, a2, a3, a4, a5⟩
 ·exact ⟨hins, by rw [a1]; exact hB.fin, by rw [a2]; exact hB.a, by rw [a3]; exact hB.to, by rw [a4]; exact hB.els⟩
 ·refine ⟨hins, by rw [a2]; exact i64_1, by rw [a3]; exact i64_m, ?_, by rw [a5]; exact i64_0⟩
  rw [a4]; split
  ·exact hB.els
  ·exact hB.to
end Go.Proofs.YtkhfddodmjnecaaGreatDoor

set_option linter.all false
namespace Go.Proofs.YtkhfddodmjnecaaGreatDoor
set_option linter.unusedVariables false

section
variable {p : Pr} {R : Nat} (h0 : 0 < p.blks.length) (hL : ∀ n, n < p.blks.length → ∀ q ∈ outsB (p.blks.getD n default), 0 ≤ q ∧ q < (p.blks.length : Int))
include h0 hL
theorem run_len {X : Tb} (h : RunC p (wkD p).ord.reverse (X0C p.blks.length R) X) : X.length = p.blks.length ∧ LenC R X := by
 induction h with
 | start =>
  refine ⟨by simp [X0C, tbNo], fun i t e => ?_⟩
  rw [X0C_at _ _ _ h0] at e
  split at e
  ·cases e; exact roNo_len R
  ·cases e
 | step X n t _ hn ht ih =>
  have hm : (n : Int) ∈ (wkD p).ord := List.mem_reverse.1 hn
  have hnl : n < p.blks.length := by have := wkD_ord p _ hm; omega
  have h1 := spC_len (thrC t (p.blks.getD n default).ins) (outsB (p.blks.getD n default)) X (outsB (p.blks.getD n default)).length
  have h2 := (spC_mu R (thrC t (p.blks.getD n default).ins) (outsB (p.blks.getD n default)) X (fun q hq => by rw [ih.1]; exact hL n hnl q hq) (by rw [thrC_len]; exact ih.2 n t ht) ih.2 (outsB (p.blks.getD n default)).length).2
  rw [List.take_length] at h1 h2
  exact ⟨by rw [h1]; exact ih.1, h2⟩
theorem run_ok (hnum : ∀ n, n < p.blks.length → ∀ i ∈ (p.blks.getD n default).ins, 0 ≤ i.num ∧ i.num < 4294967296) {X : Tb} (h : RunC p (wkD p).ord.reverse (X0C p.blks.length R) X) : ∀ i t, X.getD i none = some t → RoOk t := by
 induction h with
 | start =>
  intro i t e
  rw [X0C_at _ _ _ h0] at e
  split at e
  ·cases e; exact roNo_ok R
  ·cases e
 | step X n t _ hn ht ih =>
  have hm : (n : Int) ∈ (wkD p).ord := List.mem_reverse.1 hn
  have hnl : n < p.blks.length := by have := wkD_ord p _ hm; omega
  have hT : RoOk (thrC t (p.blks.getD n default).ins) := thrC_ok (ih n t ht) (hnum n hnl)
  refine spC_all _ _ X (fun Y => ∀ i t, Y.getD i none = some t → RoOk t) ih fun s q hq hs => ?_
  have set : ∀ a i u, (∀ v, a = some v → RoOk v) → (s.1.set q.toNat a).getD i none = some u → RoOk u := fun a i u ha e => by
   by_cases e2 : i = q.toNat
   ·subst e2
    by_cases hl : q.toNat < s.1.length
    ·rw [show (s.1.set q.toNat a).getD q.toNat none = a by simp [List.getD, hl]] at e
     exact ha u e
    ·have e1 : (s.1.set q.toNat a)[q.toNat]? = none := List.getElem?_eq_none (by simp; omega)
     rw [List.getD_eq_getElem?_getD, e1] at e; cases e
   ·rw [show (s.1.set q.toNat a).getD i none = s.1.getD i none by simp [List.getD, List.getElem?_set, Ne.symm e2]] at e
    exact hs i u e
  unfold spC1
  split
  ·exact hs
  ·split
   ·exact fun i u e => set _ i u (fun v hv => by cases hv; exact hT) e
   ·rename_i o ho
    exact fun i u e => set _ i u (fun v hv => by cases hv; exact meetC_ok (hs _ o ho)) e
end
end Go.Proofs.YtkhfddodmjnecaaGreatDoor

set_option linter.all false
namespace Go.Proofs.YtkhfddodmjnecaaGreatDoor
open Go.ChangeShapes Go.WideShapes Go.ChangeAt Go.RowKit
set_option maxHeartbeats 4000000
set_option maxRecDepth 100000
set_option linter.unusedVariables false

theorem made_one (z : Value) (n : Nat) : (madeCells #[z] n).toList = List.replicate n z := by
 apply List.ext_getElem?
 intro j
 by_cases hj : j < n
 ·simp only [madeCells, Array.toList_map, List.getElem?_map, Array.toList_range, List.getElem?_range hj, Option.map_some]
  rw [List.getElem?_replicate, if_pos hj]
  show some ((#[z] : Array Value)[j % 1]!) = some z
  rw [Nat.mod_one]; rfl
 ·rw [List.getElem?_eq_none (by simp [size_madeCells]; omega), List.getElem?_eq_none (by simp; omega)]
theorem own_made (w : World) (B : Nat) (e : TypeId) (z : Value) (n : Nat) (hn : n ≤ 1000000) (hB : B ≤ w.heap.size) : (w.alloc (.cells (madeCells #[z] n) e)).ownsRow B e 1 (.slice (some ⟨w.heap.size, 0, none⟩) n n) n (List.replicate n z) := by
 refine ⟨by simp, .inr ⟨w.heap.size, n, _, rfl, hB, heap_alloc_new w _, Nat.le_refl _, by unfold maxLen; omega, by rw [Nat.mul_one]; exact size_madeCells _ _, ?_⟩⟩
 rw [made_one]
 exact List.take_of_length_le (by simp)
theorem hasV_no (R : Nat) : hasV (roNo R) = List.replicate R (.bool false) := by simp [hasV, roNo]
theorem numV_no (R : Nat) : numV (roNo R) = List.replicate R (.int .u32 0) := by simp [numV, roNo]
theorem made_rows (n : Nat) : (madeCells #[.bool false, .slice none 0 0, .slice none 0 0] (n * 3)).toList = (List.replicate n (default : Dr)).flatMap Dr.cells := by
 have hl : (List.replicate n (default : Dr)).length = n := by simp
 apply List.ext_getElem?
 intro j
 by_cases hj : j < n * 3
 ·have e := flat_at Dr.cells 3 (fun _ => rfl) (List.replicate n (default : Dr)) (j / 3) (j % 3) (by rw [hl]; omega) (Nat.mod_lt _ (by decide))
  rw [show j / 3 * 3 + j % 3 = j by omega] at e
  rw [e]
  have h2 : j % 3 < 3 := Nat.mod_lt _ (by decide)
  simp only [madeCells, Array.toList_map, List.getElem?_map, Array.toList_range, List.getElem?_range hj, Option.map_some]
  have hd : (List.replicate n (default : Dr)).getD (j / 3) default = default := by simp only [List.getD, List.getElem?_replicate]; split <;> rfl
  rw [hd]
  show some ((#[.bool false, .slice none 0 0, .slice none 0 0] : Array Value)[j % 3]!) = (Dr.cells default)[j % 3]?
  have : ∀ r, r < 3 → some ((#[.bool false, .slice none 0 0, .slice none 0 0] : Array Value)[r]!) = (Dr.cells default)[r]? := by
   intro r hr
   match r, hr with
   | 0, _ => rfl
   | 1, _ => rfl
   | 2, _ => rfl
  exact this _ h2
 ·rw [List.getElem?_eq_none (by simp [size_madeCells]; omega), List.getElem?_eq_none (by rw [flat_len Dr.cells 3 (fun _ => rfl), hl]; omega)]
theorem TbD.made (w : World) (B n : Nat) (hn : n ≤ 1000000) (hB : B ≤ w.heap.size) : TbD (w.alloc (.cells (madeCells #[.bool false, .slice none 0 0, .slice none 0 0] (n * 3)) 40)) B (.slice (some ⟨w.heap.size, 0, none⟩) n n) (List.replicate n default) (List.replicate n none) := by
 refine ⟨by simp, ?_, fun i hi => ?_⟩
 ·rw [List.length_replicate]
  refine ⟨by rw [flat_len Dr.cells 3 (fun _ => rfl)]; simp, .inr ⟨w.heap.size, n, _, rfl, hB, heap_alloc_new w _, Nat.le_refl _, by unfold maxLen; omega, size_madeCells _ _, ?_⟩⟩
  rw [← made_rows n]
  exact List.take_of_length_le (by simp [size_madeCells])
 ·have e1 : (List.replicate n (default : Dr)).getD i default = default := by simp only [List.getD, List.getElem?_replicate]; split <;> rfl
  have e2 : (List.replicate n (none : Option Ro)).getD i none = none := by simp only [List.getD, List.getElem?_replicate]; split <;> rfl
  rw [e1, e2]
  exact ⟨rfl, own_nil _ B _ _, own_nil _ B _ _⟩
/-- rows of words -/
def OkC (X : Tb) : Prop := ∀ i t, X.getD i none = some t → RoOk t
section
variable {p : Pr} {R : Nat}
/-- what a block has heard of the first k that lead to it -/
def hrC (p : Pr) (X : Tb) (l : List Int) : Option Ro := l.foldl (fun x k => if (reachP p).getD k.toNat false = true then hearC x (X.getD k.toNat none) (p.blks.getD k.toNat default).ins else x) none
theorem hrC_on (X : Tb) (l : List Int) (k : Nat) (h : k < l.length) : hrC p X (l.take (k + 1)) = (if (reachP p).getD (l.getD k 0).toNat false = true then hearC (hrC p X (l.take k)) (X.getD (l.getD k 0).toNat none) (p.blks.getD (l.getD k 0).toNat default).ins else hrC p X (l.take k)) := by
 unfold hrC
 rw [List.take_succ, List.getElem?_eq_getElem h, Option.toList_some, List.foldl_append, show l.getD k 0 = l[k] by simp [List.getD, h], List.foldl_cons, List.foldl_nil]
theorem hrC_len {X : Tb} (hX : LenC R X) : ∀ l : List Int, ∀ a, hrC p X l = some a → a.length = R := fun l => by
 have := (fold_le (p := p) (fun i => LeC.refl (X.getD i none)) hX l none none (fun a h => by cases h) True.intro).2
 exact this
theorem rdB_hr (X : Tb) (j : Nat) : rdB p R X j = if j = 0 then some (roNo R) else hrC p X (predsP p j) := rfl
theorem rdC_take (X : Tb) (j : Nat) (h : j < p.blks.length) : (rdC p R X).take (j + 1) = (rdC p R X).take j ++ [rdB p R X j] := by
 have hl : j < (rdC p R X).length := by simpa [rdC] using h
 rw [List.take_succ, List.getElem?_eq_getElem hl]
 simp [rdC]
theorem rdC_all (X : Tb) : (rdC p R X).take p.blks.length = rdC p R X := List.take_of_length_le (by simp [rdC])
theorem hrC_ok (hnum : ∀ n, n < p.blks.length → ∀ i ∈ (p.blks.getD n default).ins, 0 ≤ i.num ∧ i.num < 4294967296) {X : Tb} (hX : OkC X) (l : List Int) (hl : ∀ k ∈ l, k.toNat < p.blks.length) : ∀ x : Option Ro, (∀ a, x = some a → RoOk a) → ∀ a, l.foldl (fun x k => if (reachP p).getD k.toNat false = true then hearC x (X.getD k.toNat none) (p.blks.getD k.toNat default).ins else x) x = some a → RoOk a := by
 induction l with
 | nil => intro x hx a e; exact hx a e
 | cons k l ih =>
  intro x hx a e
  rw [List.foldl_cons] at e
  refine ih (fun q hq => hl q (List.mem_cons_of_mem _ hq)) _ (fun b hb => ?_) a e
  split at hb
  ·unfold hearC at hb
   cases ho : X.getD k.toNat none with
   | none => rw [ho] at hb; exact hx b hb
   | some t =>
    have ht := thrC_ok (hX _ t ho) (hnum _ (hl k List.mem_cons_self))
    rw [ho] at hb
    cases x with
    | none => cases hb; exact ht
    | some c => cases hb; exact meetC_ok (hx c rfl)
  ·exact hx b hb
theorem preds_lt (q : Int) : ∀ k ∈ predsP p q, 0 ≤ k ∧ k.toNat < p.blks.length := fun k hk => by
 obtain ⟨n, rfl, hn, -⟩ := preds_mem hk
 exact ⟨by omega, by rw [Int.toNat_natCast]; exact hn⟩
theorem rdN_ok (hnum : ∀ n, n < p.blks.length → ∀ i ∈ (p.blks.getD n default).ins, 0 ≤ i.num ∧ i.num < 4294967296) : ∀ k, OkC (rdN p R k)
 | 0 => fun i t e => by rw [rdN_zero] at e; cases e
 | k + 1 => fun i t e => by
  have e : (rdC p R (rdN p R k)).getD i none = some t := e
  rw [rdC_at] at e
  split at e
  ·rw [rdB_hr] at e
   split at e
   ·cases e; exact roNo_ok R
   ·exact hrC_ok hnum (rdN_ok hnum k) _ (fun q hq => (preds_lt _ q hq).2) none (fun a h => by cases h) t e
  ·cases e
end
end Go.Proofs.YtkhfddodmjnecaaGreatDoor
