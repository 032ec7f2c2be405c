/-
 Maps whose elements are values as they stand; keys that are numbers, and keys of fold's desk.; The row behind a function of one word.; The row behind a function of two words.; The row behind any instruction (rushlightref17.Behind).; The document's row behind a block (rushlightref17.End).; What both rows have (rushlightref17.meet).; Tables of rows of the document in memory.; The rows that the telling comes to hold wherever one comes by, plain.; Tables just made; the document's rounds have words; a block hears of those that lead to it, one by one.; What registers have whenever a block begins, by the document (rushlightref17.Consts): the row of which nothing is known.; fold's desk in memory.
-/
import Derived.Test.YtkhfddodmjnecaaDoorZFoldTwice30
import Derived.DeepKeys4
import Derived.MapViews
import Derived.Test.YtkhfddodmjnecaaDoorZFoldTwice10
import Derived.Test.YtkhfddodmjnecaaDoorZFoldTwice29
import Derived.Test.YtkhfddodmjnecaaDoorZFoldTwice07
import Derived.Test.YtkhfddodmjnecaaDoorZFoldTwice04

set_option linter.all false
namespace Go.Proofs.YtkhfddodmjnecaaDoor
open Go.ChangeShapes Go.WideShapes Go.ChangeAt Go.RowKit Go.Maps
set_option maxHeartbeats 4000000
set_option maxRecDepth 100000
set_option linter.unusedVariables false

def heldR (v : Value) : Option (DataW Value × List MemPlace) := some (.held v, [])
/-- keys of one type -/
structure KeyS (α : Type) where
 ty : TypeId
 W : α → Prop
 lit : α → Lit
 val : α → Value
 keyed : Keyed Tryd.prog ty
 ko : ∀ x, W x → keyOf Tryd.prog ty (val x) = some (lit x)
 inj : ∀ x y, W x → W y → lit x = lit y → x = y
 isK : ∀ x, WideAt.IsKeyLit (lit x)
def KyI : KeyS Int := ⟨3, fun x => (Lit.int .i64 x).wf = true, fun x => .int .i64 x, fun x => .int .i64 x, int_keyed Tryd.underlying3, fun x h => keyOf_int_mk Tryd.underlying3 h, fun x y _ _ h => by simp only [Lit.int.injEq, true_and] at h; exact h, fun x => trivial⟩
section
variable {α : Type} {K : KeyS α}
/-- block b is a map of at most c entries -/
def MapH (K : KeyS α) (w : World) (b c : Nat) (M : α → Option Value) : Prop :=
 ∃ D, w.ownsMap Tryd.prog K.ty heldR b c D ∧ Tidy D ∧ ∀ x, K.W x → Maps.has D (K.lit x) = (M x).isSome ∧ ∀ z, D.atKey (K.lit x) (.held z) = .held ((M x).getD z)
theorem MapH.made (w : World) : MapH K (w.alloc (.map #[] 0)) w.heap.size 0 (fun _ => none) :=
 ⟨.map [], World.ownsMap_made _ _ _ _, tidy_empty, fun _ _ => ⟨rfl, fun _ => rfl⟩⟩
theorem MapH.mono {w : World} {b c c' : Nat} {M : α → Option Value} (h : MapH K w b c M) (hc : c ≤ c') : MapH K w b c' M := by
 obtain ⟨D, h1, h2⟩ := h
 exact ⟨D, h1.mono hc, h2⟩
theorem MapH.same {w w' : World} {b c : Nat} {M : α → Option Value} (h : MapH K w b c M) (hb : w'.heap[b]? = w.heap[b]?) : MapH K w' b c M := by
 obtain ⟨D, ⟨es, clock, h1, h3⟩, h2⟩ := h
 exact ⟨D, ⟨es, clock, hb.trans h1, h3⟩, h2⟩
theorem MapH.lt {w : World} {b c : Nat} {M : α → Option Value} (h : MapH K w b c M) : b < w.heap.size := by
 obtain ⟨D, h1, -⟩ := h
 exact h1.lt
theorem MapH.isMap {w : World} {b c : Nat} {M : α → Option Value} (h : MapH K w b c M) : ∃ es clock, w.heap[b]? = some (.map es clock) := by
 obtain ⟨D, ⟨es, clock, h1, -⟩, -⟩ := h
 exact ⟨es, clock, h1⟩
theorem MapH.look0 {w : World} {b c : Nat} {M : α → Option Value} (h : MapH K w b c M) {t e : TypeId} (ht : Tryd.prog.underlying t = some (.map K.ty e)) {z : Value} (hz : ∀ w, (zeroValue e).run Tryd.prog w = .ok z w) (x : α) (hx : K.W x) :
  (Instr.lookup t (.map (some b)) (K.val x) false).run Tryd.prog w = .ok ((M x).getD z) w := by
 obtain ⟨D, ⟨es, clock, hb, F, hs, rfl⟩, h2, h3⟩ := h
 have h3 := (h3 x hx).2 z
 rcases Maps.fit_look false K.keyed ht (hz w) hb F (K.ko x hx) with ⟨hrun, _, hat⟩ | ⟨e0, y, _, _, hrun, hRv, hat, _⟩
 ·rw [hat (.held z)] at h3
  simp only [DataW.held.injEq] at h3
  rw [hrun, ← h3]; rfl
 ·rw [hat (.held z)] at h3
  have hRv : (some (DataW.held e0.val, []) : Option (DataW Value × List MemPlace)) = some y := hRv
  simp only [Option.some.injEq] at hRv
  rw [← hRv] at h3
  simp only [DataW.held.injEq] at h3
  rw [hrun, ← h3]; rfl
theorem MapH.look1 {w : World} {b c : Nat} {M : α → Option Value} (h : MapH K w b c M) {t e : TypeId} (ht : Tryd.prog.underlying t = some (.map K.ty e)) {z : Value} (hz : ∀ w, (zeroValue e).run Tryd.prog w = .ok z w) (x : α) (hx : K.W x) :
  (Instr.lookup t (.map (some b)) (K.val x) true).run Tryd.prog w = .ok (.tuple #[(M x).getD z, .bool (M x).isSome]) w := by
 obtain ⟨D, h1, h2, h3⟩ := h
 have hh := (h3 x hx).1
 have h3 := (h3 x hx).2 z
 obtain ⟨v, ps, hr, hv⟩ := h1.look_ok K.keyed ht (hz w) (zd := .held z) (zp := []) rfl (K.ko x hx)
 rw [h3] at hv
 have hv : (some (DataW.held v, []) : Option (DataW Value × List MemPlace)) = some (.held ((M x).getD z), ps) := hv
 simp only [Option.some.injEq, Prod.mk.injEq, DataW.held.injEq] at hv
 rw [hr, hh, hv.1]
theorem MapH.put {ops : Array Oper} {rest : List Oper} {o : Oper} {a : Act} {Q : Exit → Act → World → Prop} {w : World} {b c : Nat} {M : α → Option Value} (h : MapH K w b c M) {t e : TypeId} (ht : Tryd.prog.underlying t = some (.map K.ty e)) (x : α) (z : Value) (hx : K.W x) (hn : c < maxLen)
  (hg : o.guard = none) (m k v : Operand) (hop : o.op = Op.mapUpdate t m k v) (hm : a.eval m = .map (some b)) (hk : a.eval k = K.val x) (hv : a.eval v = z)
  (hK : ∀ w', MapH K w' b (c + 1) (fun y => open Classical in if y = x then some z else M y) → w.grownBy w' (some b) → wpList Tryd.prog ops Q rest (a.put o.dst undef) w') : wpList Tryd.prog ops Q (o :: rest) a w := by
 obtain ⟨D, h1, h2, h3⟩ := h
 refine wpList_mapUpdate_own w hg m k v t hop K.ty e K.keyed ht heldR b c D hm h1 hn _ _ (K.lit x) hk hv (K.ko x hx) (.held z) [] rfl ?_
 intro w' h1' hgr
 refine hK w' ⟨_, h1', h2.put (K.isK x) _, fun y hy => ?_⟩ hgr
 by_cases e : y = x
 ·subst e
  dsimp only
  rw [if_pos rfl, has_put_same h2.isMap (K.isK y)]
  refine ⟨rfl, fun q => ?_⟩
  rw [atKey_put_same h2.isMap (K.isK y)]; rfl
 ·have hne : K.lit y ≠ K.lit x := fun e2 => e (K.inj y x hy hx e2)
  dsimp only
  rw [if_neg e, has_put_other hne]
  refine ⟨(h3 y hy).1, fun q => ?_⟩
  rw [atKey_put_other hne]
  exact (h3 y hy).2 q
end
def keyV (x : Ky) : Value := .agg #[.int .i64 x.op, .int .i64 x.fn, .int .i64 x.a, .int .i64 x.b, .int .i64 x.obj, .int .i64 x.off, .int .i64 x.size, .int .u32 x.num, .int .i64 x.mem]
def keyCs (x : Ky) : List Lit := [.int .i64 x.op, .int .i64 x.fn, .int .i64 x.a, .int .i64 x.b, .int .i64 x.obj, .int .i64 x.off, .int .i64 x.size, .int .u32 x.num, .int .i64 x.mem]
def KyW (x : Ky) : Prop := ∀ l ∈ keyCs x, l.wf = true
theorem keyV_inj {x y : Ky} (h : keyV x = keyV y) : x = y := by
 unfold keyV at h
 simp only [Value.agg.injEq, Array.mk.injEq, List.cons.injEq, Value.int.injEq, true_and, and_true] at h
 exact (Ky.eq_iff x y).1 h
theorem keyRow : (94 : TypeId) < Tryd.prog.types.size := of_decide_eq_true (by kernel_rfl)
theorem keyWide : (match Tryd.prog.underlying 94 with | some (.array _ _) | some (.struct _) => true | _ => false) = true := by kernel_rfl
theorem keyLaid : laidOutB Tryd.prog = true := by kernel_rfl
theorem keyKeyed : Keyed Tryd.prog 94 := Keyed.of_law (deep_law_laid keyLaid (m := 3) (by omega) keyRow (by kernel_rfl) keyWide)
theorem keyDeep : Tryd.prog.keyType 94 = true := by kernel_rfl
theorem keySize : ∃ n, Tryd.prog.types.size = n + 1 := Nat.exists_eq_add_one_of_ne_zero (fun h => by have := keyRow; rw [h] at this; exact Nat.not_lt_zero _ this)
theorem kl_i64 (n : Nat) (v : Int) (h : (Lit.int .i64 v).wf = true) : Tryd.prog.keyLits (n + 1) 3 [.int .i64 v] = some [.int .i64 v] := by
 unfold Program.keyLits
 rw [Tryd.underlying3]
 simp [h]
theorem kl_u32 (n : Nat) (v : Int) (h : (Lit.int .u32 v).wf = true) : Tryd.prog.keyLits (n + 1) 37 [.int .u32 v] = some [.int .u32 v] := by
 unfold Program.keyLits
 rw [Tryd.underlying37]
 simp [h]
theorem keyOf_key (x : Ky) (h : KyW x) : keyOf Tryd.prog 94 (keyV x) = some (.string (keyBytes (keyCs x))) := by
 have hl : ∀ q n, Lit.int q n ∈ keyCs x → (Lit.int q n).wf = true := fun q n hm => h _ hm
 obtain ⟨n, hn⟩ := keySize
 have hf : (keyV x).formed Tryd.prog 94 = true := by
  simp [Value.formed, keyV, Tryd.underlying94, show Tryd.prog.cellsOf 94 = 9 by kernel_rfl]
 unfold keyOf
 rw [Tryd.underlying94]
 simp only [keyDeep, hf, Bool.and_self, if_true]
 rw [hn]
 unfold Program.keyLits
 rw [Tryd.underlying94]
 simp only [keyV, Value.cells]
 have c224 : Tryd.prog.cellsOf 94 = 9 := by kernel_rfl
 refine (congrArg _ (if_pos ⟨by rw [c224]; rfl, by kernel_rfl⟩)).trans ?_
 have c3 : Tryd.prog.cellsOf 3 = 1 := by kernel_rfl
 have c36 : Tryd.prog.cellsOf 37 = 1 := by kernel_rfl
 simp only [List.mapM_cons, List.mapM_nil, c3, c36, List.drop_zero, List.drop_succ_cons, List.take_succ_cons, List.take_zero]
 rw [kl_i64 n x.op (hl _ _ (by simp [keyCs])), kl_i64 n x.fn (hl _ _ (by simp [keyCs])), kl_i64 n x.a (hl _ _ (by simp [keyCs])), kl_i64 n x.b (hl _ _ (by simp [keyCs])), kl_i64 n x.obj (hl _ _ (by simp [keyCs])), kl_i64 n x.off (hl _ _ (by simp [keyCs])), kl_i64 n x.size (hl _ _ (by simp [keyCs])), kl_u32 n x.num (hl _ _ (by simp [keyCs])), kl_i64 n x.mem (hl _ _ (by simp [keyCs]))]
 rfl
def KyK : KeyS Ky := ⟨94, KyW, fun x => .string (keyBytes (keyCs x)), keyV, keyKeyed, keyOf_key, fun x y hx hy h => keyV_inj (keyKeyed.inj (keyOf_key x hx) (h ▸ keyOf_key y hy)), fun x => trivial⟩
end Go.Proofs.YtkhfddodmjnecaaDoor

set_option linter.all false
namespace Go.Proofs.YtkhfddodmjnecaaDoor
open Go.ChangeShapes Go.WideShapes Go.ChangeAt Go.RowKit
set_option maxHeartbeats 16000000
set_option maxRecDepth 100000
set_option linter.unusedVariables false

end Go.Proofs.YtkhfddodmjnecaaDoor

set_option linter.all false
namespace Go.Proofs.YtkhfddodmjnecaaDoor
open Go.ChangeShapes Go.WideShapes Go.ChangeAt Go.RowKit
set_option maxHeartbeats 16000000
set_option maxRecDepth 100000
set_option linter.unusedVariables false

end Go.Proofs.YtkhfddodmjnecaaDoor

set_option linter.all false
namespace Go.Proofs.YtkhfddodmjnecaaDoor
open Go.ChangeShapes Go.WideShapes Go.ChangeAt Go.RowKit
set_option maxHeartbeats 16000000
set_option maxRecDepth 100000
set_option linter.unusedVariables false

end Go.Proofs.YtkhfddodmjnecaaDoor

set_option linter.all false
namespace Go.Proofs.YtkhfddodmjnecaaDoor
open Go.ChangeShapes Go.WideShapes Go.ChangeAt Go.RowKit
set_option maxHeartbeats 4000000
set_option maxRecDepth 100000
set_option linter.unusedVariables false

end Go.Proofs.YtkhfddodmjnecaaDoor

set_option linter.all false
namespace Go.Proofs.YtkhfddodmjnecaaDoor
open Go.ChangeShapes Go.WideShapes Go.ChangeAt Go.RowKit
set_option maxHeartbeats 4000000
set_option maxRecDepth 100000
set_option linter.unusedVariables false

end Go.Proofs.YtkhfddodmjnecaaDoor

set_option linter.all false
namespace Go.Proofs.YtkhfddodmjnecaaDoor
open Go.ChangeShapes Go.WideShapes Go.ChangeAt Go.RowKit
set_option maxHeartbeats 4000000
set_option maxRecDepth 100000
set_option linter.unusedVariables false

/-- a row's cells -/
structure Dr where
 s : Bool
 h : Value
 n : Value
instance : Inhabited Dr := ⟨⟨false, .slice none 0 0, .slice none 0 0⟩⟩
end Go.Proofs.YtkhfddodmjnecaaDoor

set_option linter.all false
namespace Go.Proofs.YtkhfddodmjnecaaDoor
set_option linter.unusedVariables false

section
variable {p : Pr} {R : Nat} (h0 : 0 < p.blks.length) (hL : ∀ n, n < p.blks.length → ∀ q ∈ outsB (p.blks.getD n default), 0 ≤ q ∧ q < (p.blks.length : Int))
include h0 hL
theorem run_len {X : Tb} (h : RunC p (wkD p).ord.reverse (X0C p.blks.length R) X) : X.length = p.blks.length ∧ LenC R X := by
 induction h with
 | start =>
  refine ⟨by simp [X0C, tbNo], fun i t e => ?_⟩
  rw [X0C_at _ _ _ h0] at e
  split at e
  ·cases e; exact roNo_len R
  ·cases e
 | step X n t _ hn ht ih =>
  have hm : (n : Int) ∈ (wkD p).ord := List.mem_reverse.1 hn
  have hnl : n < p.blks.length := by have := wkD_ord p _ hm; omega
  have h1 := spC_len (thrC t (p.blks.getD n default).ins) (outsB (p.blks.getD n default)) X (outsB (p.blks.getD n default)).length
  have h2 := (spC_mu R (thrC t (p.blks.getD n default).ins) (outsB (p.blks.getD n default)) X (fun q hq => by rw [ih.1]; exact hL n hnl q hq) (by rw [thrC_len]; exact ih.2 n t ht) ih.2 (outsB (p.blks.getD n default)).length).2
  rw [List.take_length] at h1 h2
  exact ⟨by rw [h1]; exact ih.1, h2⟩
theorem run_ok (hnum : ∀ n, n < p.blks.length → ∀ i ∈ (p.blks.getD n default).ins, 0 ≤ i.num ∧ i.num < 4294967296) {X : Tb} (h : RunC p (wkD p).ord.reverse (X0C p.blks.length R) X) : ∀ i t, X.getD i none = some t → RoOk t := by
 induction h with
 | start =>
  intro i t e
  rw [X0C_at _ _ _ h0] at e
  split at e
  ·cases e; exact roNo_ok R
  ·cases e
 | step X n t _ hn ht ih =>
  have hm : (n : Int) ∈ (wkD p).ord := List.mem_reverse.1 hn
  have hnl : n < p.blks.length := by have := wkD_ord p _ hm; omega
  have hT : RoOk (thrC t (p.blks.getD n default).ins) := thrC_ok (ih n t ht) (hnum n hnl)
  refine spC_all _ _ X (fun Y => ∀ i t, Y.getD i none = some t → RoOk t) ih fun s q hq hs => ?_
  have set : ∀ a i u, (∀ v, a = some v → RoOk v) → (s.1.set q.toNat a).getD i none = some u → RoOk u := fun a i u ha e => by
   by_cases e2 : i = q.toNat
   ·subst e2
    by_cases hl : q.toNat < s.1.length
    ·rw [show (s.1.set q.toNat a).getD q.toNat none = a by simp [List.getD, hl]] at e
     exact ha u e
    ·have e1 : (s.1.set q.toNat a)[q.toNat]? = none := List.getElem?_eq_none (by simp; omega)
     rw [List.getD_eq_getElem?_getD, e1] at e; cases e
   ·rw [show (s.1.set q.toNat a).getD i none = s.1.getD i none by simp [List.getD, List.getElem?_set, Ne.symm e2]] at e
    exact hs i u e
  unfold spC1
  split
  ·exact hs
  ·split
   ·exact fun i u e => set _ i u (fun v hv => by cases hv; exact hT) e
   ·rename_i o ho
    exact fun i u e => set _ i u (fun v hv => by cases hv; exact meetC_ok (hs _ o ho)) e
end
end Go.Proofs.YtkhfddodmjnecaaDoor

set_option linter.all false
namespace Go.Proofs.YtkhfddodmjnecaaDoor
open Go.ChangeShapes Go.WideShapes Go.ChangeAt Go.RowKit
set_option maxHeartbeats 4000000
set_option maxRecDepth 100000
set_option linter.unusedVariables false

section
variable {p : Pr} {R : Nat}
end
end Go.Proofs.YtkhfddodmjnecaaDoor

set_option linter.all false
namespace Go.Proofs.YtkhfddodmjnecaaDoor
open Go.ChangeShapes Go.WideShapes Go.ChangeAt Go.RowKit
set_option maxHeartbeats 16000000
set_option maxRecDepth 100000
set_option linter.unusedVariables false

end Go.Proofs.YtkhfddodmjnecaaDoor

set_option linter.all false
namespace Go.Proofs.YtkhfddodmjnecaaDoor
open Go.ChangeShapes Go.WideShapes Go.ChangeAt Go.RowKit Go.Maps
set_option maxHeartbeats 4000000
set_option maxRecDepth 100000
set_option linter.unusedVariables false

/-- where the desk and its maps lie -/
structure Dkb where
 bd : Nat
 bo : Nat
 bk : Nat
 bn : Nat
 bf : Nat
def rowI (l : List Int) : List Value := l.map (Value.int .i64)
/-- the desk: its blocks are all of S -/
structure DkX (w : World) (S : Nat → Prop) (q : Dkb) (c : Nat) (R : Int) (d : Dk) (vf : Int → Value) : Prop where
 st : w.heap[q.bd]? = some (.cells #[.map (some q.bo), .map (some q.bk), .map (some q.bn), .map (some q.bf), .int .i64 d.vs, .int .i64 d.mm] 80)
 mo : MapH KyI w q.bo c (fun x => (d.of x).map (Value.int .i64))
 mky : MapH KyK w q.bk c (fun x => (d.ky x).map (Value.int .i64))
 mn : MapH KyI w q.bn c (fun x => (d.num x).map (Value.int .u32))
 mf : MapH KyI w q.bf c (fun v => if d.fs v = [] then none else some (vf v))
 row : ∀ v, d.fs v ≠ [] → w.ownsRow 0 3 1 (vf v) (d.fs v).length (rowI (d.fs v))
 ap : ∀ v u, d.fs v ≠ [] → d.fs u ≠ [] → v ≠ u → (vf v).ownBlock ≠ (vf u).ownBlock
 fl : ∀ v, (d.fs v).length ≤ c
 fr : ∀ v, ∀ r ∈ d.fs v, 0 ≤ r ∧ r < R
 B : DkB R d
 Rb : R ≤ 1000000
 vs : d.vs ≤ (c : Int)
 mm : 0 ≤ d.mm ∧ d.mm ≤ (c : Int)
 n1 : q.bo ≠ q.bk ∧ q.bo ≠ q.bn ∧ q.bo ≠ q.bf ∧ q.bk ≠ q.bn ∧ q.bk ≠ q.bf ∧ q.bn ≠ q.bf
 s1 : S q.bd ∧ S q.bo ∧ S q.bk ∧ S q.bn ∧ S q.bf
 s2 : ∀ v g, d.fs v ≠ [] → (vf v).ownBlock = some g → S g
 sl : ∀ b, S b → b < w.heap.size
def DkM (w : World) (S : Nat → Prop) (q : Dkb) (c : Nat) (R : Int) (d : Dk) : Prop := ∃ vf, DkX w S q c R d vf
/-- only blocks of S have turned; the blocks of S' are those of S or new ones -/
structure Stp (S : Nat → Prop) (w w' : World) (S' : Nat → Prop) : Prop where
 os : w'.os = w.os
 tape : w'.tape = w.tape
 output : w'.output = w.output
 size : w.heap.size ≤ w'.heap.size
 keep : ∀ b, b < w.heap.size → ¬ S b → w'.heap[b]? = w.heap[b]?
 sub : ∀ b, S' b → S b ∨ w.heap.size ≤ b
theorem Stp.refl (S : Nat → Prop) (w : World) : Stp S w w S := ⟨rfl, rfl, rfl, Nat.le_refl _, fun _ _ _ => rfl, fun _ h => .inl h⟩
theorem Stp.trans {S S' S'' : Nat → Prop} {a b c : World} (h : Stp S a b S') (k : Stp S' b c S'') : Stp S a c S'' := by
 refine ⟨k.os.trans h.os, k.tape.trans h.tape, k.output.trans h.output, Nat.le_trans h.size k.size, fun x hx hn => ?_, fun x hx => ?_⟩
 ·refine (k.keep x (Nat.lt_of_lt_of_le hx h.size) fun e => ?_).trans (h.keep x hx hn)
  rcases h.sub x e with e2 | e2
  ·exact hn e2
  ·omega
 ·rcases k.sub x hx with e | e
  ·exact h.sub x e
  ·have := h.size; exact .inr (by omega)
theorem Stp.of_below {S : Nat → Prop} {w w' : World} (h : Below w.heap.size w w') : Stp S w w' S := ⟨h.os, h.tape, h.output, h.size, fun b hb _ => h.block b hb, fun b hb => .inl hb⟩
theorem Stp.below {S S' : Nat → Prop} {w w' : World} (h : Stp S w w' S') {B : Nat} (hB : B ≤ w.heap.size) (hS : ∀ b, S b → B ≤ b) : Below B w w' := ⟨h.os, h.tape, h.output, h.size, fun k hk => h.keep k (by omega) (fun e => by have := hS k e; omega)⟩
theorem Stp.base {S S' : Nat → Prop} {w w' : World} (h : Stp S w w' S') {B : Nat} (hB : B ≤ w.heap.size) (hS : ∀ b, S b → B ≤ b) : ∀ b, S' b → B ≤ b := fun b hb => by
 rcases h.sub b hb with e | e
 ·exact hS b e
 ·omega
theorem Stp.away {S S' : Nat → Prop} {w w' : World} (h : Stp S w w' S') {b : Nat} (hb : b < w.heap.size) (hn : ¬ S b) : ¬ S' b := fun e => by
 rcases h.sub b e with e | e
 ·exact hn e
 ·omega
theorem ow_same {w w' : World} {B s n : Nat} {e : TypeId} {v : Value} {xs : List Value} (h : w.ownsRow B e s v n xs) (hb : ∀ g, v.ownBlock = some g → w'.heap[g]? = w.heap[g]?) : w'.ownsRow B e s v n xs := by
 obtain ⟨h1, h2 | ⟨g, cap, cur, rfl, h2, h3, h4⟩⟩ := h
 ·exact ⟨h1, .inl h2⟩
 ·exact ⟨h1, .inr ⟨g, cap, cur, rfl, h2, (hb g rfl).trans h3, h4⟩⟩
section
variable {w w' : World} {S : Nat → Prop} {q : Dkb} {c : Nat} {R : Int} {d : Dk} {vf : Int → Value}
theorem DkX.same (h : DkX w S q c R d vf) (hs : w.heap.size ≤ w'.heap.size) (hb : ∀ b, S b → w'.heap[b]? = w.heap[b]?) : DkX w' S q c R d vf :=
 ⟨(hb _ h.s1.1).trans h.st, h.mo.same (hb _ h.s1.2.1), h.mky.same (hb _ h.s1.2.2.1), h.mn.same (hb _ h.s1.2.2.2.1), h.mf.same (hb _ h.s1.2.2.2.2), fun v hv => ow_same (h.row v hv) fun g hg => hb g (h.s2 v g hv hg), h.ap, h.fl, h.fr, h.B, h.Rb, h.vs, h.mm, h.n1, h.s1, h.s2, fun b hb => Nat.lt_of_lt_of_le (h.sl b hb) hs⟩
theorem DkX.mono (h : DkX w S q c R d vf) {c' : Nat} (hc : c ≤ c') : DkX w S q c' R d vf :=
 ⟨h.st, h.mo.mono hc, h.mky.mono hc, h.mn.mono hc, h.mf.mono hc, h.row, h.ap, fun v => Nat.le_trans (h.fl v) hc, h.fr, h.B, h.Rb, by have := h.vs; omega, by have := h.mm; omega, h.n1, h.s1, h.s2, h.sl⟩
theorem DkM.same (h : DkM w S q c R d) (hs : w.heap.size ≤ w'.heap.size) (hb : ∀ b, S b → w'.heap[b]? = w.heap[b]?) : DkM w' S q c R d := let ⟨vf, h⟩ := h; ⟨vf, h.same hs hb⟩
theorem DkM.mono (h : DkM w S q c R d) {c' : Nat} (hc : c ≤ c') : DkM w S q c' R d := let ⟨vf, h⟩ := h; ⟨vf, h.mono hc⟩
theorem DkM.below (h : DkM w S q c R d) (hb : Below w.heap.size w w') : DkM w' S q c R d := let ⟨vf, h⟩ := h; ⟨vf, h.same hb.size fun b hs => hb.block b (h.sl b hs)⟩
/-- .. while a block that is not of S turns -/
theorem DkM.but {g : Nat} (h : DkM w S q c R d) (hb : But g w w') (hg : ¬ S g) : DkM w' S q c R d := let ⟨vf, h⟩ := h; ⟨vf, h.same hb.size fun b hs => hb.block b (h.sl b hs) (fun e => hg (e ▸ hs))⟩
theorem DkM.lt (h : DkM w S q c R d) {b : Nat} (hb : S b) : b < w.heap.size := let ⟨vf, h⟩ := h; h.sl b hb
theorem DkM.st (h : DkM w S q c R d) : w.heap[q.bd]? = some (.cells #[.map (some q.bo), .map (some q.bk), .map (some q.bn), .map (some q.bf), .int .i64 d.vs, .int .i64 d.mm] 80) := let ⟨vf, h⟩ := h; h.st
theorem DkM.B (h : DkM w S q c R d) : DkB R d := let ⟨vf, h⟩ := h; h.B
theorem DkM.bd (h : DkM w S q c R d) : (0 ≤ d.vs ∧ d.vs ≤ (c : Int)) ∧ (0 ≤ d.mm ∧ d.mm ≤ (c : Int)) ∧ R ≤ 1000000 := let ⟨vf, h⟩ := h; ⟨⟨h.B.vs, h.vs⟩, h.mm, h.Rb⟩
/-- the desk's own block is no map and no row -/
theorem DkX.apart (h : DkX w S q c R d vf) : q.bd ≠ q.bo ∧ q.bd ≠ q.bk ∧ q.bd ≠ q.bn ∧ q.bd ≠ q.bf ∧ ∀ v, d.fs v ≠ [] → (vf v).ownBlock ≠ some q.bd ∧ (vf v).ownBlock ≠ some q.bo ∧ (vf v).ownBlock ≠ some q.bk ∧ (vf v).ownBlock ≠ some q.bn ∧ (vf v).ownBlock ≠ some q.bf := by
 have key : ∀ {b : Nat} {es : Array MapEntry} {cl : Nat}, w.heap[b]? = some (.map es cl) → q.bd ≠ b ∧ ∀ v, d.fs v ≠ [] → (vf v).ownBlock ≠ some b := fun {b es cl} hb => by
  refine ⟨fun e => ?_, fun v hv e => ?_⟩
  ·rw [← e, h.st] at hb; cases hb
  ·obtain ⟨-, ⟨e1, -⟩ | ⟨g, cap, cur, e1, -, h3, -⟩⟩ := h.row v hv
   ·rw [e1] at e; cases e
   ·rw [e1] at e
    simp only [Value.ownBlock, Option.some.injEq] at e
    subst e
    rw [h3] at hb; cases hb
 obtain ⟨_, _, e1⟩ := h.mo.isMap
 obtain ⟨_, _, e2⟩ := h.mky.isMap
 obtain ⟨_, _, e3⟩ := h.mn.isMap
 obtain ⟨_, _, e4⟩ := h.mf.isMap
 exact ⟨(key e1).1, (key e2).1, (key e3).1, (key e4).1, fun v hv => ⟨row_not (h.row v hv) h.st (by decide), (key e1).2 v hv, (key e2).2 v hv, (key e3).2 v hv, (key e4).2 v hv⟩⟩
end
def DkQ (S : Nat → Prop) (q : Dkb) (c : Nat) (R : Int) (r : Value) (d : Dk) (w : World) (e : Ending) (w' : World) : Prop := e = .returned r ∧ ∃ S', DkM w' S' q c R d ∧ Stp S w w' S'
/-- a cell of the desk's own block is written -/
theorem DkX.own {w w' : World} {S : Nat → Prop} {q : Dkb} {c c' : Nat} {R : Int} {d d' : Dk} {vf : Int → Value} (h : DkX w S q c R d vf) (hb : But q.bd w w') (hst : w'.heap[q.bd]? = some (.cells #[.map (some q.bo), .map (some q.bk), .map (some q.bn), .map (some q.bf), .int .i64 d'.vs, .int .i64 d'.mm] 80))
  (hc : c ≤ c') (e1 : d'.of = d.of) (e2 : d'.ky = d.ky) (e3 : d'.num = d.num) (e4 : d'.fs = d.fs) (hB : DkB R d') (hv : d'.vs ≤ (c' : Int)) (hm : 0 ≤ d'.mm ∧ d'.mm ≤ (c' : Int)) : DkX w' S q c' R d' vf := by
 obtain ⟨a1, a2, a3, a4, a5⟩ := h.apart
 have keep : ∀ b, S b → q.bd ≠ b → w'.heap[b]? = w.heap[b]? := fun b hs hn => hb.block b (h.sl b hs) (Ne.symm hn)
 obtain ⟨of', ky', num', fs', vs', mm'⟩ := d'
 dsimp only at e1 e2 e3 e4
 subst e1 e2 e3 e4
 exact ⟨hst, (h.mo.same (keep _ h.s1.2.1 a1)).mono hc, (h.mky.same (keep _ h.s1.2.2.1 a2)).mono hc, (h.mn.same (keep _ h.s1.2.2.2.1 a3)).mono hc, (h.mf.same (keep _ h.s1.2.2.2.2 a4)).mono hc, fun v hv => ow_same (h.row v hv) fun g hg => keep g (h.s2 v g hv hg) (fun e => (a5 v hv).1 (e ▸ hg)), h.ap, fun v => Nat.le_trans (h.fl v) hc, h.fr, hB, h.Rb, hv, hm, h.n1, h.s1, h.s2, fun b hs => Nat.lt_of_lt_of_le (h.sl b hs) hb.size⟩
theorem fresh_c (w : World) (S : Nat → Prop) (q : Dkb) (c : Nat) (R : Int) (d : Dk) (h : DkM w S q c R d) (hc : c ≤ 1000000000) :
  Calls Tryd.prog 41 #[.pointer (some ⟨q.bd, 0, none⟩)] w (DkQ S q (c + 1) R (.int .i64 (d.vs + 1)) (freshD d) w) := by
 obtain ⟨vf, h⟩ := h
 have HS := Lib.hid h.st
 obtain ⟨y0, y1, y2, y3, y4, y5, l0⟩ := cl6 HS.out
 have f4 := frozen_of_heap HS.out 4
 have hv0 := h.B.vs
 have hv1 := h.vs
 have hbut := But.setCell q.bd 4 w (.int .i64 (d.vs + 1))
 have H' : Hid (DkX (w.setCell ⟨q.bd, 4, none⟩ (.int .i64 (d.vs + 1))) S q (c + 1) R (freshD d) vf) := by
  refine h.own hbut ?_ (by omega) rfl rfl rfl rfl h.B.fresh (by show d.vs + 1 ≤ _; omega) (by have := h.mm; show 0 ≤ d.mm ∧ d.mm ≤ _; omega)
  rw [heap_setCell_same _ _ _ _ _ _ HS.out]; rfl
 have HP : Hid (Stp S w (w.setCell ⟨q.bd, 4, none⟩ (.int .i64 (d.vs + 1))) S) := ⟨hbut.os, hbut.tape, hbut.output, hbut.size, fun b hb hn => hbut.block b hb (fun e => hn (e ▸ h.s1.1)), fun b hb => .inl hb⟩
 clear h hbut
 go_enter Tryd.func41, Tryd.ntmps41
 go_wp2_with fail
 go_ret
 exact ⟨rfl, S, ⟨vf, H'.out⟩, HP.out⟩
end Go.Proofs.YtkhfddodmjnecaaDoor
