/-
 What holds of what is known within a block, whatever runs. Plain.; A map of numbers to words, as a partial function with its size.; Maps whose elements are values as they stand; keys that are numbers, and keys of fold's desk.
-/
import Derived.Test.YtkhfddodmjnecaaZFoldKeeps31
import Derived.Test.YtkhfddodmjnecaaZFoldKeeps30
import Derived.Maps.Own
import Derived.Maps.OwnOps
import Derived.Maps.Views
import Derived.Maps.OwnSet
import Derived.DeepKeys4
import Derived.MapViews

set_option linter.all false
namespace Go.Proofs.Ytkhfddodmjnecaa
set_option linter.unusedVariables false

structure DkB (R : Int) (d : Dk) : Prop where
 vs : 0 ≤ d.vs
 of : ∀ r v, d.of r = some v → (0 ≤ r ∧ r < R) ∧ 1 ≤ v ∧ v ≤ d.vs
 fs : ∀ r v, d.of r = some v → r ∈ d.fs v
 ky : ∀ k v, d.ky k = some v → 1 ≤ v ∧ v ≤ d.vs
 num : ∀ v n, d.num v = some n → (1 ≤ v ∧ v ≤ d.vs) ∧ 0 ≤ n ∧ n < 4294967296
theorem DkB.zero (R : Int) : DkB R Dk0 := ⟨Int.le_refl _, fun r v h => (by cases h), fun r v h => (by cases h), fun k v h => (by cases h), fun v n h => (by cases h)⟩
theorem DkB.fresh {R : Int} {d : Dk} (h : DkB R d) : DkB R (freshD d) := by
 have hv : (freshD d).vs = d.vs + 1 := rfl
 refine ⟨by have := h.vs; omega, fun r v e => ?_, h.fs, fun k v e => ?_, fun v n e => ?_⟩
 ·have := h.of r v e; omega
 ·have := h.ky k v e; omega
 ·have := h.num v n e; omega
theorem DkB.have {R : Int} {d : Dk} (h : DkB R d) {r v : Int} (hr : 0 ≤ r ∧ r < R) (hv : 1 ≤ v ∧ v ≤ d.vs) : DkB R (haveD d r v) := by
 refine ⟨h.vs, fun x y e => ?_, fun x y e => ?_, h.ky, h.num⟩
 ·have e : updI d.of r (some v) x = some y := e
  by_cases hx : x = r
  ·subst hx
   rw [updI_same] at e
   cases e
   exact ⟨hr, hv⟩
  ·rw [updI_other _ _ hx] at e
   exact h.of x y e
 ·have e : updI d.of r (some v) x = some y := e
  show x ∈ updI d.fs v (d.fs v ++ [r]) y
  by_cases hx : x = r
  ·subst hx
   rw [updI_same] at e
   cases e
   rw [updI_same]; simp
  ·rw [updI_other _ _ hx] at e
   have := h.fs x y e
   by_cases hy : y = v
   ·subst hy; rw [updI_same]; exact List.mem_append_left _ this
   ·rw [updI_other _ _ hy]; exact this
theorem valueD_some {d : Dk} {r v : Int} (h : d.of r = some v) : valueD d r = (v, d) := by unfold valueD; rw [h]
theorem valueD_none {d : Dk} {r : Int} (h : d.of r = none) : valueD d r = (d.vs + 1, haveD (freshD d) r (d.vs + 1)) := by unfold valueD; rw [h]
theorem DkB.value {R : Int} {d : Dk} (h : DkB R d) {r : Int} (hr : 0 ≤ r ∧ r < R) : DkB R (valueD d r).2 ∧ (1 ≤ (valueD d r).1 ∧ (valueD d r).1 ≤ (valueD d r).2.vs) ∧ (valueD d r).2.of r = some (valueD d r).1 := by
 cases e : d.of r with
 | some v =>
  rw [valueD_some e]
  exact ⟨h, (h.of r v e).2, e⟩
 | none =>
  rw [valueD_none e]
  have := h.vs
  have hf := h.fresh.have hr (v := d.vs + 1) ⟨by omega, Int.le_refl _⟩
  exact ⟨hf, ⟨by dsimp only; omega, Int.le_refl _⟩, updI_same _ _ _⟩
theorem DkB.holder {R : Int} {d : Dk} (h : DkB R d) {v : Int} (hv : 1 ≤ v) : holderD d v = -1 ∨ d.of (holderD d v) = some v := by
 unfold holderD
 cases e : (d.fs v).find? fun r => (d.of r).getD 0 == v with
 | none => exact .inl rfl
 | some r =>
  right
  have := List.find?_some e
  rw [beq_iff_eq] at this
  show d.of r = some v
  cases h2 : d.of r with
  | none => rw [h2] at this; simp at this; omega
  | some u => rw [h2] at this; simp at this; rw [this]
theorem DkB.held {R : Int} {d : Dk} (h : DkB R d) {r v : Int} (hr : d.of r = some v) : d.of (holderD d v) = some v := by
 have hv := (h.of r v hr).2
 rcases h.holder hv.1 with e | e
 ·exfalso
  have hm := h.fs r v hr
  have h0 := (h.of r v hr).1
  unfold holderD at e
  cases e2 : (d.fs v).find? fun r => (d.of r).getD 0 == v with
  | none =>
   rw [List.find?_eq_none] at e2
   have := e2 r hm
   rw [hr] at this
   simp at this
  | some x =>
   rw [e2] at e
   have e : x = -1 := e
   have := List.find?_some e2
   rw [beq_iff_eq] at this
   cases h2 : d.of x with
   | none => rw [h2] at this; simp at this; omega
   | some u => have := (h.of x u h2).1; omega
 ·exact e
theorem DkB.read {R : Int} {d : Dk} (h : DkB R d) {r : Int} (hr : r = -1 ∨ 0 ≤ r ∧ r < R) : DkB R (readD d r).2 ∧ (r = -1 ∧ (readD d r).1 = -1 ∨ r ≠ -1 ∧ 0 ≤ (readD d r).1 ∧ (readD d r).1 < R) := by
 unfold readD
 by_cases e : r = -1
 ·rw [if_pos e]; exact ⟨h, .inl ⟨e, e⟩⟩
 ·rw [if_neg e]
  have hv := h.value (r := r) (by omega)
  have := hv.1.held hv.2.2
  exact ⟨hv.1, .inr ⟨e, (hv.1.of _ _ this).1⟩⟩
theorem DkB.setKy {R : Int} {d : Dk} (h : DkB R d) {v : Int} (hv : 1 ≤ v ∧ v ≤ d.vs) (k : Ky) : DkB R (setKy d k v) := by
 refine ⟨h.vs, h.of, h.fs, fun x y e => ?_, h.num⟩
 have e : (if x = k then some v else d.ky x) = some y := e
 split at e
 ·cases e; exact hv
 ·exact h.ky x y e
theorem DkB.setNum {R : Int} {d : Dk} (h : DkB R d) {v n : Int} (hv : 1 ≤ v ∧ v ≤ d.vs) (hn : 0 ≤ n ∧ n < 4294967296) : DkB R (setNum d v n) := by
 refine ⟨h.vs, h.of, h.fs, h.ky, fun x y e => ?_⟩
 have e : updI d.num v (some n) x = some y := e
 by_cases hx : x = v
 ·subst hx; rw [updI_same] at e; cases e; exact ⟨hv, hn⟩
 ·rw [updI_other _ _ hx] at e; exact h.num x y e
/-- a value that is told of -/
def DkV (R : Int) (q : Int × Dk) : Prop := DkB R q.2 ∧ 1 ≤ q.1 ∧ q.1 ≤ q.2.vs
theorem namedD_some {d : Dk} {k : Ky} {v : Int} (h : d.ky k = some v) : namedD d k = (v, d) := by unfold namedD; rw [h]
theorem namedD_none {d : Dk} {k : Ky} (h : d.ky k = none) : namedD d k = (d.vs + 1, Go.Proofs.Ytkhfddodmjnecaa.setKy (freshD d) k (d.vs + 1)) := by unfold namedD; rw [h]
theorem DkB.named {R : Int} {d : Dk} (h : DkB R d) (k : Ky) : DkV R (namedD d k) := by
 cases e : d.ky k with
 | some v => rw [namedD_some e]; exact ⟨h, h.ky k v e⟩
 | none =>
  rw [namedD_none e]
  have := h.vs
  exact ⟨h.fresh.setKy (v := d.vs + 1) ⟨by omega, Int.le_refl _⟩ k, by dsimp only; omega, Int.le_refl _⟩
theorem DkB.const {R : Int} {d : Dk} (h : DkB R d) {n : Int} (hn : 0 ≤ n ∧ n < 4294967296) : DkV R (constD d n) := by
 have hk := h.named (kyC n)
 exact ⟨hk.1.setNum hk.2 hn, hk.2⟩
theorem DkB.twoN {R : Int} {d : Dk} (h : DkB R d) (fn : Int) {a b : Int} (ha : 1 ≤ a ∧ a ≤ d.vs) (hb : 1 ≤ b ∧ b ≤ d.vs) : DkV R (twoN d fn a b) := by
 unfold Go.Proofs.Ytkhfddodmjnecaa.twoN
 split
 ·refine ⟨h, ?_⟩
  dsimp only
  unfold sameD at *
  split
  ·exact ha
  ·split
   ·exact ha
   ·split
    ·exact hb
    ·split
     ·exact hb
     ·split
      ·exact ha
      ·rename_i h0 h1 h2 h3 h4 h5
       rw [if_neg h1, if_neg h2, if_neg h3, if_neg h4, if_neg h5] at h0
       omega
 ·split
  ·exact h.const ⟨by decide, by decide⟩
  ·split
   ·exact h.named _
   ·exact h.named _
theorem DkB.two {R : Int} {d : Dk} (h : DkB R d) (fn : Int) {a b : Int} (ha : 1 ≤ a ∧ a ≤ d.vs) (hb : 1 ≤ b ∧ b ≤ d.vs) : DkV R (twoD d fn a b) := by
 unfold twoD
 cases e1 : d.num a with
 | none => exact h.twoN fn ha hb
 | some m =>
  cases e2 : d.num b with
  | none => exact h.twoN fn ha hb
  | some n =>
   have h1 := (h.num a m e1).2
   have h2 := (h.num b n e2).2
   exact h.const (fnF_bd _ _ _ h1.1 h1.2 h2.1 h2.2)
theorem DkB.un {R : Int} {d : Dk} (h : DkB R d) (fn a : Int) : DkV R (unD d fn a) := by
 unfold unD
 cases e1 : d.num a with
 | none => exact h.named _
 | some n =>
  have h1 := (h.num a n e1).2
  exact h.const (fnF_bd _ _ _ h1.1 h1.2 (by decide) (by decide))
theorem DkB.more {R : Int} {d : Dk} (h : DkB R d) {r : Int} (hr : 0 ≤ r ∧ r < R) : d.vs ≤ (valueD d r).2.vs := by
 cases e : d.of r with
 | some v => rw [valueD_some e]; exact Int.le_refl _
 | none => rw [valueD_none e]; show d.vs ≤ d.vs + 1; omega
/-- the registers that an instruction reads are there -/
structure RdOk (R : Int) (i : In) : Prop where
 a : i.a = -1 ∨ 0 ≤ i.a ∧ i.a < R
 b : i.b = -1 ∨ 0 ≤ i.b ∧ i.b < R
 args : ∀ r ∈ i.args, r = -1 ∨ 0 ≤ r ∧ r < R
 useA : i.op = 2 ∨ i.op = 3 ∨ i.op = 4 ∨ i.op = 5 ∨ i.op = 6 → 0 ≤ i.a
 useB : i.op = 3 ∨ i.op = 6 → 0 ≤ i.b
 d : defI i = -1 ∨ 0 ≤ defI i ∧ defI i < R
 num : 0 ≤ i.num ∧ i.num < 4294967296
theorem DkB.told {R : Int} {d : Dk} (h : DkB R d) {i : In} (hi : RdOk R i) : DkB R (toldD d i).2 ∧ ((toldD d i).1 = 0 ∨ 1 ≤ (toldD d i).1 ∧ (toldD d i).1 ≤ (toldD d i).2.vs) := by
 have fin : ∀ q : Int × Dk, DkV R q → DkB R q.2 ∧ (q.1 = 0 ∨ 1 ≤ q.1 ∧ q.1 ≤ q.2.vs) := fun q hq => ⟨hq.1, .inr hq.2⟩
 have ha := hi.a
 have hb := hi.b
 have ua := hi.useA
 have ub := hi.useB
 unfold toldD
 by_cases h1 : i.op = 1
 ·rw [if_pos h1]; exact fin _ (h.const hi.num)
 rw [if_neg h1]
 by_cases h2 : i.op = 2
 ·rw [if_pos h2]
  have hv := h.value (r := i.a) (by omega)
  exact fin _ ⟨hv.1, hv.2.1⟩
 rw [if_neg h2]
 by_cases h3 : i.op = 3
 ·rw [if_pos h3]
  have hv := h.value (r := i.a) (by omega)
  have hw := hv.1.value (r := i.b) (by omega)
  have hm := hv.1.more (r := i.b) (by omega)
  exact fin _ (hw.1.two _ ⟨hv.2.1.1, by omega⟩ hw.2.1)
 rw [if_neg h3]
 by_cases h4 : i.op = 4
 ·rw [if_pos h4]
  have hv := h.value (r := i.a) (by omega)
  exact fin _ (hv.1.un _ _)
 rw [if_neg h4]
 by_cases h7 : i.op = 7 ∨ i.op = 8
 ·rw [if_pos h7]; exact fin _ (h.named _)
 rw [if_neg h7]
 by_cases h5 : i.op = 5
 ·rw [if_pos h5]
  have hv := h.value (r := i.a) (by omega)
  exact fin _ (hv.1.named _)
 rw [if_neg h5]
 exact ⟨h, .inl rfl⟩
theorem DkB.readL {R : Int} : ∀ (l : List Int) {d : Dk}, DkB R d → (∀ r ∈ l, r = -1 ∨ 0 ≤ r ∧ r < R) → DkB R (readL d l).2 ∧ (∀ r ∈ (readL d l).1, r = -1 ∨ 0 ≤ r ∧ r < R) ∧ (readL d l).1.length = l.length
 | [], d, h, _ => ⟨h, fun r hr => (by cases hr), rfl⟩
 | r :: l, d, h, hl => by
  have h1 := h.read (hl r List.mem_cons_self)
  have h2 := DkB.readL l h1.1 (fun x hx => hl x (List.mem_cons_of_mem _ hx))
  refine ⟨h2.1, fun x hx => ?_, by simp [Go.Proofs.Ytkhfddodmjnecaa.readL, h2.2.2]⟩
  rcases List.mem_cons.1 hx with e | hx
  ·rcases h1.2 with ⟨-, e2⟩ | ⟨-, e2⟩
   ·exact .inl (e.trans e2)
   ·exact .inr (by rw [e]; exact e2)
  ·exact h2.2.1 x hx
theorem defI_reads (d : Dk) (i : In) : defI (readsD d i).1 = defI i := rfl
theorem DkB.reads {R : Int} {d : Dk} (h : DkB R d) {i : In} (hi : RdOk R i) : DkB R (readsD d i).2 ∧ RdOk R (readsD d i).1 ∧ ((readsD d i).1.a = -1 ↔ i.a = -1) ∧ ((readsD d i).1.b = -1 ↔ i.b = -1) := by
 have ha := h.read hi.a
 have hb := ha.1.read hi.b
 have hl := DkB.readL i.args hb.1 hi.args
 have e1 : (readsD d i).1.a = (readD d i.a).1 := rfl
 have e2 : (readsD d i).1.b = (readD (readD d i.a).2 i.b).1 := rfl
 have ua := hi.useA
 have ub := hi.useB
 refine ⟨hl.1, ⟨by rw [e1]; omega, by rw [e2]; omega, hl.2.1, fun ho => ?_, fun ho => ?_, hi.d, hi.num⟩, by rw [e1]; omega, by rw [e2]; omega⟩
 ·have ho : i.op = 2 ∨ i.op = 3 ∨ i.op = 4 ∨ i.op = 5 ∨ i.op = 6 := ho
  rw [e1]; omega
 ·have ho : i.op = 3 ∨ i.op = 6 := ho
  rw [e2]; omega
theorem DkB.turn {R : Int} {d : Dk} (h : DkB R d) (op : Int) : DkB R (turnD d op) := by
 unfold turnD
 split
 ·exact ⟨h.vs, h.of, h.fs, h.ky, h.num⟩
 ·exact h
theorem DkB.put {R : Int} {d : Dk} (h : DkB R d) {i : In} (hi : RdOk R i) : DkB R (putD d i) := by
 unfold putD
 split
 ·rename_i ho
  have ua := hi.useA
  have ub := hi.useB
  have ha := hi.a
  have hb := hi.b
  have hv := h.value (r := i.a) (by omega)
  have hw := hv.1.value (r := i.b) (by omega)
  exact hw.1.setKy hw.2.1 _
 ·exact h
theorem DkB.sets {R : Int} {d : Dk} (h : DkB R d) {i : In} (hi : RdOk R i) (hd : defI i ≠ -1) : DkB R (setsD d i).2 := by
 have ht := h.told hi
 have hdd := hi.d
 unfold setsD
 split
 ·have := ht.1.vs
  exact ht.1.fresh.have (by omega) ⟨by omega, Int.le_refl _⟩
 ·split
  ·exact ht.1
  ·rename_i h0 _
   exact ht.1.have (by omega) (by omega)
theorem DkB.ins {R : Int} {d : Dk} (h : DkB R d) {i : In} (hi : RdOk R i) : DkB R (insD d i).2 := by
 have hr := h.reads hi
 have hp := (hr.1.turn i.op).put hr.2.1
 unfold insD
 split
 ·exact hp
 ·exact hp.sets hr.2.1 (by rw [defI_reads]; assumption)
end Go.Proofs.Ytkhfddodmjnecaa

set_option linter.all false
namespace Go.Proofs.Ytkhfddodmjnecaa
open Go.ChangeShapes Go.WideShapes Go.ChangeAt Go.RowKit Go.Maps
set_option maxHeartbeats 4000000
set_option maxRecDepth 100000
set_option linter.unusedVariables false

theorem lawC : Keyed Try.prog 3 := int_keyed Try.underlying3
def u32R : Value → Option (DataW Unit × List MemPlace)
 | .int .u32 z => some (.lit (.int .u32 z), [])
 | _ => none
theorem u32R_inv {v : Value} {z : Int} {ps : List MemPlace} (h : u32R v = some (.lit (.int .u32 z), ps)) : v = .int .u32 z := by
 unfold u32R at h
 split at h
 ·simp only [Option.some.injEq, Prod.mk.injEq, DataW.lit.injEq, Lit.int.injEq, true_and] at h
  rw [h.1]
 ·cases h
/-- block b is a map of numbers to words, of c entries -/
def MapU (w : World) (b c : Nat) (M : Int → Option Int) : Prop :=
 ∃ D, w.ownsMap Try.prog 3 u32R b c D ∧ Tidy D ∧ size D = c ∧ ∀ x, Maps.has D (.int .i64 x) = (M x).isSome ∧ D.atKey (.int .i64 x) (.lit (.int .u32 0)) = .lit (.int .u32 ((M x).getD 0))
theorem zeroU (w : World) : (zeroValue 36).run Try.prog w = .ok (.int .u32 0) w := by kernel_rfl
theorem MapU.made (w : World) : MapU (w.alloc (.map #[] 0)) w.heap.size 0 (fun _ => none) :=
 ⟨.map [], World.ownsMap_made _ _ _ _, tidy_empty, rfl, fun _ => ⟨rfl, rfl⟩⟩
theorem MapU.kept {w w' : World} {b c : Nat} {M : Int → Option Int} {row : Option Nat} (h : MapU w b c M) (hg : w.grownBy w' row) (hr : some b ≠ row) : MapU w' b c M := by
 obtain ⟨D, h1, h2⟩ := h
 exact ⟨D, h1.kept hg hr, h2⟩
theorem MapU.grow {w w' : World} {b c : Nat} {M : Int → Option Int} (h : MapU w b c M) (hb : Below w.heap.size w w') : MapU w' b c M :=
 h.kept (row := none) ⟨hb.os, hb.tape, hb.output, hb.size, fun k hk _ => hb.block k hk⟩ (by simp)
theorem MapU.lt {w : World} {b c : Nat} {M : Int → Option Int} (h : MapU w b c M) : b < w.heap.size := by
 obtain ⟨D, h1, -⟩ := h
 exact h1.lt
theorem MapU.look {w : World} {b c : Nat} {M : Int → Option Int} (h : MapU w b c M) (x : Int) (hx : (Lit.int .i64 x).wf = true) : (Instr.lookup 81 (.map (some b)) (.int .i64 x) true).run Try.prog w = .ok (.tuple #[.int .u32 ((M x).getD 0), .bool (M x).isSome]) w := by
 obtain ⟨D, h1, h2, -, h3⟩ := h
 obtain ⟨v, ps, hr, hv⟩ := h1.look_ok lawC Try.underlying81 (zeroU w) (zd := .lit (.int .u32 0)) (zp := []) rfl (keyOf_int_mk Try.underlying3 hx)
 rw [(h3 x).2] at hv
 rw [hr, (h3 x).1, u32R_inv hv]
theorem MapU.len {w : World} {b c : Nat} {M : Int → Option Int} (h : MapU w b c M) (ty : TypeId) : (Builtin.len_ #[81] ty #[.map (some b)]).run Try.prog w = .ok (.int .i64 c) w := by
 obtain ⟨D, h1, -, h2, -⟩ := h
 rw [h1.len Try.underlying81 ty, h2]
theorem MapU.put {ops : Array Oper} {rest : List Oper} {o : Oper} {a : Act} {Q : Exit → Act → World → Prop} {w : World} {b c : Nat} {M : Int → Option Int} (h : MapU w b c M) (x z : Int) (hx : (Lit.int .i64 x).wf = true) (hn : c < maxLen) (hno : M x = none)
  (hg : o.guard = none) (m k v : Operand) (hop : o.op = Op.mapUpdate 81 m k v) (hm : a.eval m = .map (some b)) (hk : a.eval k = .int .i64 x) (hv : a.eval v = .int .u32 z)
  (hK : ∀ w', MapU w' b (c + 1) (fun y => if y = x then some z else M y) → w.grownBy w' (some b) → wpList Try.prog ops Q rest (a.put o.dst undef) w') : wpList Try.prog ops Q (o :: rest) a w := by
 obtain ⟨D, h1, h2, hs, h3⟩ := h
 refine wpList_mapUpdate_own w hg m k v 81 hop 3 36 lawC Try.underlying81 u32R b c D hm h1 hn _ _ (.int .i64 x) hk hv (keyOf_int_mk Try.underlying3 hx) (.lit (.int .u32 z)) [] rfl ?_
 intro w' h1' hgr
 refine hK w' ⟨_, h1', h2.put (by trivial) _, ?_, fun y => ?_⟩ hgr
 ·rw [size_put h2, (h3 x).1, hno, hs]; rfl
 ·by_cases e : y = x
  ·subst e
   dsimp only
   rw [if_pos rfl, atKey_put_same h2.isMap (by trivial), has_put_same h2.isMap (by trivial)]
   exact ⟨rfl, rfl⟩
  ·have hne : (Lit.int .i64 y) ≠ Lit.int .i64 x := by intro e2; simp only [Lit.int.injEq] at e2; exact e e2.2
   dsimp only
   rw [if_neg e, atKey_put_other hne, has_put_other hne]
   exact h3 y
end Go.Proofs.Ytkhfddodmjnecaa

set_option linter.all false
namespace Go.Proofs.Ytkhfddodmjnecaa
open Go.ChangeShapes Go.WideShapes Go.ChangeAt Go.RowKit Go.Maps
set_option maxHeartbeats 4000000
set_option maxRecDepth 100000
set_option linter.unusedVariables false

def heldR (v : Value) : Option (DataW Value × List MemPlace) := some (.held v, [])
/-- keys of one type -/
structure KeyS (α : Type) where
 ty : TypeId
 W : α → Prop
 lit : α → Lit
 val : α → Value
 keyed : Keyed Try.prog ty
 ko : ∀ x, W x → keyOf Try.prog ty (val x) = some (lit x)
 inj : ∀ x y, W x → W y → lit x = lit y → x = y
 isK : ∀ x, WideAt.IsKeyLit (lit x)
def KyI : KeyS Int := ⟨3, fun x => (Lit.int .i64 x).wf = true, fun x => .int .i64 x, fun x => .int .i64 x, int_keyed Try.underlying3, fun x h => keyOf_int_mk Try.underlying3 h, fun x y _ _ h => by simp only [Lit.int.injEq, true_and] at h; exact h, fun x => trivial⟩
section
variable {α : Type} {K : KeyS α}
/-- block b is a map of at most c entries -/
def MapH (K : KeyS α) (w : World) (b c : Nat) (M : α → Option Value) : Prop :=
 ∃ D, w.ownsMap Try.prog K.ty heldR b c D ∧ Tidy D ∧ ∀ x, K.W x → Maps.has D (K.lit x) = (M x).isSome ∧ ∀ z, D.atKey (K.lit x) (.held z) = .held ((M x).getD z)
theorem MapH.made (w : World) : MapH K (w.alloc (.map #[] 0)) w.heap.size 0 (fun _ => none) :=
 ⟨.map [], World.ownsMap_made _ _ _ _, tidy_empty, fun _ _ => ⟨rfl, fun _ => rfl⟩⟩
theorem MapH.mono {w : World} {b c c' : Nat} {M : α → Option Value} (h : MapH K w b c M) (hc : c ≤ c') : MapH K w b c' M := by
 obtain ⟨D, h1, h2⟩ := h
 exact ⟨D, h1.mono hc, h2⟩
theorem MapH.same {w w' : World} {b c : Nat} {M : α → Option Value} (h : MapH K w b c M) (hb : w'.heap[b]? = w.heap[b]?) : MapH K w' b c M := by
 obtain ⟨D, ⟨es, clock, h1, h3⟩, h2⟩ := h
 exact ⟨D, ⟨es, clock, hb.trans h1, h3⟩, h2⟩
theorem MapH.lt {w : World} {b c : Nat} {M : α → Option Value} (h : MapH K w b c M) : b < w.heap.size := by
 obtain ⟨D, h1, -⟩ := h
 exact h1.lt
theorem MapH.isMap {w : World} {b c : Nat} {M : α → Option Value} (h : MapH K w b c M) : ∃ es clock, w.heap[b]? = some (.map es clock) := by
 obtain ⟨D, ⟨es, clock, h1, -⟩, -⟩ := h
 exact ⟨es, clock, h1⟩
theorem MapH.look0 {w : World} {b c : Nat} {M : α → Option Value} (h : MapH K w b c M) {t e : TypeId} (ht : Try.prog.underlying t = some (.map K.ty e)) {z : Value} (hz : ∀ w, (zeroValue e).run Try.prog w = .ok z w) (x : α) (hx : K.W x) :
  (Instr.lookup t (.map (some b)) (K.val x) false).run Try.prog w = .ok ((M x).getD z) w := by
 obtain ⟨D, ⟨es, clock, hb, F, hs, rfl⟩, h2, h3⟩ := h
 have h3 := (h3 x hx).2 z
 rcases Maps.fit_look false K.keyed ht (hz w) hb F (K.ko x hx) with ⟨hrun, _, hat⟩ | ⟨e0, y, _, _, hrun, hRv, hat, _⟩
 ·rw [hat (.held z)] at h3
  simp only [DataW.held.injEq] at h3
  rw [hrun, ← h3]; rfl
 ·rw [hat (.held z)] at h3
  have hRv : (some (DataW.held e0.val, []) : Option (DataW Value × List MemPlace)) = some y := hRv
  simp only [Option.some.injEq] at hRv
  rw [← hRv] at h3
  simp only [DataW.held.injEq] at h3
  rw [hrun, ← h3]; rfl
theorem MapH.look1 {w : World} {b c : Nat} {M : α → Option Value} (h : MapH K w b c M) {t e : TypeId} (ht : Try.prog.underlying t = some (.map K.ty e)) {z : Value} (hz : ∀ w, (zeroValue e).run Try.prog w = .ok z w) (x : α) (hx : K.W x) :
  (Instr.lookup t (.map (some b)) (K.val x) true).run Try.prog w = .ok (.tuple #[(M x).getD z, .bool (M x).isSome]) w := by
 obtain ⟨D, h1, h2, h3⟩ := h
 have hh := (h3 x hx).1
 have h3 := (h3 x hx).2 z
 obtain ⟨v, ps, hr, hv⟩ := h1.look_ok K.keyed ht (hz w) (zd := .held z) (zp := []) rfl (K.ko x hx)
 rw [h3] at hv
 have hv : (some (DataW.held v, []) : Option (DataW Value × List MemPlace)) = some (.held ((M x).getD z), ps) := hv
 simp only [Option.some.injEq, Prod.mk.injEq, DataW.held.injEq] at hv
 rw [hr, hh, hv.1]
theorem MapH.put {ops : Array Oper} {rest : List Oper} {o : Oper} {a : Act} {Q : Exit → Act → World → Prop} {w : World} {b c : Nat} {M : α → Option Value} (h : MapH K w b c M) {t e : TypeId} (ht : Try.prog.underlying t = some (.map K.ty e)) (x : α) (z : Value) (hx : K.W x) (hn : c < maxLen)
  (hg : o.guard = none) (m k v : Operand) (hop : o.op = Op.mapUpdate t m k v) (hm : a.eval m = .map (some b)) (hk : a.eval k = K.val x) (hv : a.eval v = z)
  (hK : ∀ w', MapH K w' b (c + 1) (fun y => open Classical in if y = x then some z else M y) → w.grownBy w' (some b) → wpList Try.prog ops Q rest (a.put o.dst undef) w') : wpList Try.prog ops Q (o :: rest) a w := by
 obtain ⟨D, h1, h2, h3⟩ := h
 refine wpList_mapUpdate_own w hg m k v t hop K.ty e K.keyed ht heldR b c D hm h1 hn _ _ (K.lit x) hk hv (K.ko x hx) (.held z) [] rfl ?_
 intro w' h1' hgr
 refine hK w' ⟨_, h1', h2.put (K.isK x) _, fun y hy => ?_⟩ hgr
 by_cases e : y = x
 ·subst e
  dsimp only
  rw [if_pos rfl, has_put_same h2.isMap (K.isK y)]
  refine ⟨rfl, fun q => ?_⟩
  rw [atKey_put_same h2.isMap (K.isK y)]; rfl
 ·have hne : K.lit y ≠ K.lit x := fun e2 => e (K.inj y x hy hx e2)
  dsimp only
  rw [if_neg e, has_put_other hne]
  refine ⟨(h3 y hy).1, fun q => ?_⟩
  rw [atKey_put_other hne]
  exact (h3 y hy).2 q
end
def keyV (x : Ky) : Value := .agg #[.int .i64 x.op, .int .i64 x.fn, .int .i64 x.a, .int .i64 x.b, .int .i64 x.obj, .int .i64 x.off, .int .i64 x.size, .int .u32 x.num, .int .i64 x.mem]
def keyCs (x : Ky) : List Lit := [.int .i64 x.op, .int .i64 x.fn, .int .i64 x.a, .int .i64 x.b, .int .i64 x.obj, .int .i64 x.off, .int .i64 x.size, .int .u32 x.num, .int .i64 x.mem]
def KyW (x : Ky) : Prop := ∀ l ∈ keyCs x, l.wf = true
theorem keyV_inj {x y : Ky} (h : keyV x = keyV y) : x = y := by
 unfold keyV at h
 simp only [Value.agg.injEq, Array.mk.injEq, List.cons.injEq, Value.int.injEq, true_and, and_true] at h
 exact (Ky.eq_iff x y).1 h
theorem keyRow : (224 : TypeId) < Try.prog.types.size := of_decide_eq_true (by kernel_rfl)
theorem keyWide : (match Try.prog.underlying 224 with | some (.array _ _) | some (.struct _) => true | _ => false) = true := by kernel_rfl
theorem keyLaid : laidOutB Try.prog = true := by kernel_rfl
theorem keyKeyed : Keyed Try.prog 224 := Keyed.of_law (deep_law_laid keyLaid (m := 3) (by omega) keyRow (by kernel_rfl) keyWide)
theorem keyDeep : Try.prog.keyType 224 = true := by kernel_rfl
theorem keySize : ∃ n, Try.prog.types.size = n + 1 := Nat.exists_eq_add_one_of_ne_zero (fun h => by have := keyRow; rw [h] at this; exact Nat.not_lt_zero _ this)
theorem kl_i64 (n : Nat) (v : Int) (h : (Lit.int .i64 v).wf = true) : Try.prog.keyLits (n + 1) 3 [.int .i64 v] = some [.int .i64 v] := by
 unfold Program.keyLits
 rw [Try.underlying3]
 simp [h]
theorem kl_u32 (n : Nat) (v : Int) (h : (Lit.int .u32 v).wf = true) : Try.prog.keyLits (n + 1) 36 [.int .u32 v] = some [.int .u32 v] := by
 unfold Program.keyLits
 rw [Try.underlying36]
 simp [h]
theorem keyOf_key (x : Ky) (h : KyW x) : keyOf Try.prog 224 (keyV x) = some (.string (keyBytes (keyCs x))) := by
 have hl : ∀ q n, Lit.int q n ∈ keyCs x → (Lit.int q n).wf = true := fun q n hm => h _ hm
 obtain ⟨n, hn⟩ := keySize
 have hf : (keyV x).formed Try.prog 224 = true := by
  simp [Value.formed, keyV, Try.underlying224, show Try.prog.cellsOf 224 = 9 by kernel_rfl]
 unfold keyOf
 rw [Try.underlying224]
 simp only [keyDeep, hf, Bool.and_self, if_true]
 rw [hn]
 unfold Program.keyLits
 rw [Try.underlying224]
 simp only [keyV, Value.cells]
 have c224 : Try.prog.cellsOf 224 = 9 := by kernel_rfl
 refine (congrArg _ (if_pos ⟨by rw [c224]; rfl, by kernel_rfl⟩)).trans ?_
 have c3 : Try.prog.cellsOf 3 = 1 := by kernel_rfl
 have c36 : Try.prog.cellsOf 36 = 1 := by kernel_rfl
 simp only [List.mapM_cons, List.mapM_nil, c3, c36, List.drop_zero, List.drop_succ_cons, List.take_succ_cons, List.take_zero]
 rw [kl_i64 n x.op (hl _ _ (by simp [keyCs])), kl_i64 n x.fn (hl _ _ (by simp [keyCs])), kl_i64 n x.a (hl _ _ (by simp [keyCs])), kl_i64 n x.b (hl _ _ (by simp [keyCs])), kl_i64 n x.obj (hl _ _ (by simp [keyCs])), kl_i64 n x.off (hl _ _ (by simp [keyCs])), kl_i64 n x.size (hl _ _ (by simp [keyCs])), kl_u32 n x.num (hl _ _ (by simp [keyCs])), kl_i64 n x.mem (hl _ _ (by simp [keyCs]))]
 rfl
def KyK : KeyS Ky := ⟨224, KyW, fun x => .string (keyBytes (keyCs x)), keyV, keyKeyed, keyOf_key, fun x y hx hy h => keyV_inj (keyKeyed.inj (keyOf_key x hx) (h ▸ keyOf_key y hy)), fun x => trivial⟩
end Go.Proofs.Ytkhfddodmjnecaa
