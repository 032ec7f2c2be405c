/-
 What holds of what is known within a block, whatever runs. Plain.; Functions of words that are one of their operands, or that may swap them; what lies where a word was put. Plain.; What is known within a block is so: values have numbers, and registers have values. Plain.; A procedure in which nothing is reckoned twice does the same. Plain.; What few modules are like: plain.; A map of numbers to words, as a partial function with its size.; What registers have whenever a block begins, as maps (fold.Consts).; Rows of the document (rushlightref17.Row) in memory.; A row of the document is copied (rushlightref17.copied).; Outcomes compared; the worked example of layer 14.; The document's functions of words and places.; The document's row behind an instruction (rushlightref17.Behind).; A procedure of which a statement speaks: what its fold owes.
-/
import Derived.Test.YtkhfddodmjnecaaDoorZFoldTwice29
import Derived.Test.YtkhfddodmjnecaaDoorZFoldTwice08
import Derived.Test.YtkhfddodmjnecaaDoorZFoldTwice27
import Derived.Maps.Own
import Derived.Maps.OwnOps
import Derived.Maps.Views
import Derived.Maps.OwnSet
import Derived.Test.YtkhfddodmjnecaaDoorZFoldTwice28
import Derived.Test.YtkhfddodmjnecaaDoorZFoldTwice10
import Derived.Test.YtkhfddodmjnecaaDoorZFoldTwice21
import Derived.Test.YtkhfddodmjnecaaDoorZFoldTwice14

set_option linter.all false
namespace Go.Proofs.YtkhfddodmjnecaaDoor
set_option linter.unusedVariables false

structure DkB (R : Int) (d : Dk) : Prop where
 vs : 0 ≤ d.vs
 of : ∀ r v, d.of r = some v → (0 ≤ r ∧ r < R) ∧ 1 ≤ v ∧ v ≤ d.vs
 fs : ∀ r v, d.of r = some v → r ∈ d.fs v
 ky : ∀ k v, d.ky k = some v → 1 ≤ v ∧ v ≤ d.vs
 num : ∀ v n, d.num v = some n → (1 ≤ v ∧ v ≤ d.vs) ∧ 0 ≤ n ∧ n < 4294967296
theorem DkB.zero (R : Int) : DkB R Dk0 := ⟨Int.le_refl _, fun r v h => (by cases h), fun r v h => (by cases h), fun k v h => (by cases h), fun v n h => (by cases h)⟩
theorem DkB.fresh {R : Int} {d : Dk} (h : DkB R d) : DkB R (freshD d) := by
 have hv : (freshD d).vs = d.vs + 1 := rfl
 refine ⟨by have := h.vs; omega, fun r v e => ?_, h.fs, fun k v e => ?_, fun v n e => ?_⟩
 ·have := h.of r v e; omega
 ·have := h.ky k v e; omega
 ·have := h.num v n e; omega
theorem DkB.have {R : Int} {d : Dk} (h : DkB R d) {r v : Int} (hr : 0 ≤ r ∧ r < R) (hv : 1 ≤ v ∧ v ≤ d.vs) : DkB R (haveD d r v) := by
 refine ⟨h.vs, fun x y e => ?_, fun x y e => ?_, h.ky, h.num⟩
 ·have e : updI d.of r (some v) x = some y := e
  by_cases hx : x = r
  ·subst hx
   rw [updI_same] at e
   cases e
   exact ⟨hr, hv⟩
  ·rw [updI_other _ _ hx] at e
   exact h.of x y e
 ·have e : updI d.of r (some v) x = some y := e
  show x ∈ updI d.fs v (d.fs v ++ [r]) y
  by_cases hx : x = r
  ·subst hx
   rw [updI_same] at e
   cases e
   rw [updI_same]; simp
  ·rw [updI_other _ _ hx] at e
   have := h.fs x y e
   by_cases hy : y = v
   ·subst hy; rw [updI_same]; exact List.mem_append_left _ this
   ·rw [updI_other _ _ hy]; exact this
theorem valueD_some {d : Dk} {r v : Int} (h : d.of r = some v) : valueD d r = (v, d) := by unfold valueD; rw [h]
theorem valueD_none {d : Dk} {r : Int} (h : d.of r = none) : valueD d r = (d.vs + 1, haveD (freshD d) r (d.vs + 1)) := by unfold valueD; rw [h]
theorem DkB.value {R : Int} {d : Dk} (h : DkB R d) {r : Int} (hr : 0 ≤ r ∧ r < R) : DkB R (valueD d r).2 ∧ (1 ≤ (valueD d r).1 ∧ (valueD d r).1 ≤ (valueD d r).2.vs) ∧ (valueD d r).2.of r = some (valueD d r).1 := by
 cases e : d.of r with
 | some v =>
  rw [valueD_some e]
  exact ⟨h, (h.of r v e).2, e⟩
 | none =>
  rw [valueD_none e]
  have := h.vs
  have hf := h.fresh.have hr (v := d.vs + 1) ⟨by omega, Int.le_refl _⟩
  exact ⟨hf, ⟨by dsimp only; omega, Int.le_refl _⟩, updI_same _ _ _⟩
theorem DkB.holder {R : Int} {d : Dk} (h : DkB R d) {v : Int} (hv : 1 ≤ v) : holderD d v = -1 ∨ d.of (holderD d v) = some v := by
 unfold holderD
 cases e : (d.fs v).find? fun r => (d.of r).getD 0 == v with
 | none => exact .inl rfl
 | some r =>
  right
  have := List.find?_some e
  rw [beq_iff_eq] at this
  show d.of r = some v
  cases h2 : d.of r with
  | none => rw [h2] at this; simp at this; omega
  | some u => rw [h2] at this; simp at this; rw [this]
theorem DkB.held {R : Int} {d : Dk} (h : DkB R d) {r v : Int} (hr : d.of r = some v) : d.of (holderD d v) = some v := by
 have hv := (h.of r v hr).2
 rcases h.holder hv.1 with e | e
 ·exfalso
  have hm := h.fs r v hr
  have h0 := (h.of r v hr).1
  unfold holderD at e
  cases e2 : (d.fs v).find? fun r => (d.of r).getD 0 == v with
  | none =>
   rw [List.find?_eq_none] at e2
   have := e2 r hm
   rw [hr] at this
   simp at this
  | some x =>
   rw [e2] at e
   have e : x = -1 := e
   have := List.find?_some e2
   rw [beq_iff_eq] at this
   cases h2 : d.of x with
   | none => rw [h2] at this; simp at this; omega
   | some u => have := (h.of x u h2).1; omega
 ·exact e
theorem DkB.read {R : Int} {d : Dk} (h : DkB R d) {r : Int} (hr : r = -1 ∨ 0 ≤ r ∧ r < R) : DkB R (readD d r).2 ∧ (r = -1 ∧ (readD d r).1 = -1 ∨ r ≠ -1 ∧ 0 ≤ (readD d r).1 ∧ (readD d r).1 < R) := by
 unfold readD
 by_cases e : r = -1
 ·rw [if_pos e]; exact ⟨h, .inl ⟨e, e⟩⟩
 ·rw [if_neg e]
  have hv := h.value (r := r) (by omega)
  have := hv.1.held hv.2.2
  exact ⟨hv.1, .inr ⟨e, (hv.1.of _ _ this).1⟩⟩
theorem DkB.setKy {R : Int} {d : Dk} (h : DkB R d) {v : Int} (hv : 1 ≤ v ∧ v ≤ d.vs) (k : Ky) : DkB R (setKy d k v) := by
 refine ⟨h.vs, h.of, h.fs, fun x y e => ?_, h.num⟩
 have e : (if x = k then some v else d.ky x) = some y := e
 split at e
 ·cases e; exact hv
 ·exact h.ky x y e
theorem DkB.setNum {R : Int} {d : Dk} (h : DkB R d) {v n : Int} (hv : 1 ≤ v ∧ v ≤ d.vs) (hn : 0 ≤ n ∧ n < 4294967296) : DkB R (setNum d v n) := by
 refine ⟨h.vs, h.of, h.fs, h.ky, fun x y e => ?_⟩
 have e : updI d.num v (some n) x = some y := e
 by_cases hx : x = v
 ·subst hx; rw [updI_same] at e; cases e; exact ⟨hv, hn⟩
 ·rw [updI_other _ _ hx] at e; exact h.num x y e
/-- a value that is told of -/
def DkV (R : Int) (q : Int × Dk) : Prop := DkB R q.2 ∧ 1 ≤ q.1 ∧ q.1 ≤ q.2.vs
theorem namedD_some {d : Dk} {k : Ky} {v : Int} (h : d.ky k = some v) : namedD d k = (v, d) := by unfold namedD; rw [h]
theorem namedD_none {d : Dk} {k : Ky} (h : d.ky k = none) : namedD d k = (d.vs + 1, Go.Proofs.YtkhfddodmjnecaaDoor.setKy (freshD d) k (d.vs + 1)) := by unfold namedD; rw [h]
theorem DkB.named {R : Int} {d : Dk} (h : DkB R d) (k : Ky) : DkV R (namedD d k) := by
 cases e : d.ky k with
 | some v => rw [namedD_some e]; exact ⟨h, h.ky k v e⟩
 | none =>
  rw [namedD_none e]
  have := h.vs
  exact ⟨h.fresh.setKy (v := d.vs + 1) ⟨by omega, Int.le_refl _⟩ k, by dsimp only; omega, Int.le_refl _⟩
theorem DkB.const {R : Int} {d : Dk} (h : DkB R d) {n : Int} (hn : 0 ≤ n ∧ n < 4294967296) : DkV R (constD d n) := by
 have hk := h.named (kyC n)
 exact ⟨hk.1.setNum hk.2 hn, hk.2⟩
theorem DkB.twoN {R : Int} {d : Dk} (h : DkB R d) (fn : Int) {a b : Int} (ha : 1 ≤ a ∧ a ≤ d.vs) (hb : 1 ≤ b ∧ b ≤ d.vs) : DkV R (twoN d fn a b) := by
 unfold Go.Proofs.YtkhfddodmjnecaaDoor.twoN
 split
 ·refine ⟨h, ?_⟩
  dsimp only
  unfold sameD at *
  split
  ·exact ha
  ·split
   ·exact ha
   ·split
    ·exact hb
    ·split
     ·exact hb
     ·split
      ·exact ha
      ·rename_i h0 h1 h2 h3 h4 h5
       rw [if_neg h1, if_neg h2, if_neg h3, if_neg h4, if_neg h5] at h0
       omega
 ·split
  ·exact h.const ⟨by decide, by decide⟩
  ·split
   ·exact h.named _
   ·exact h.named _
theorem DkB.two {R : Int} {d : Dk} (h : DkB R d) (fn : Int) {a b : Int} (ha : 1 ≤ a ∧ a ≤ d.vs) (hb : 1 ≤ b ∧ b ≤ d.vs) : DkV R (twoD d fn a b) := by
 unfold twoD
 cases e1 : d.num a with
 | none => exact h.twoN fn ha hb
 | some m =>
  cases e2 : d.num b with
  | none => exact h.twoN fn ha hb
  | some n =>
   have h1 := (h.num a m e1).2
   have h2 := (h.num b n e2).2
   exact h.const (fnF_bd _ _ _ h1.1 h1.2 h2.1 h2.2)
theorem DkB.un {R : Int} {d : Dk} (h : DkB R d) (fn a : Int) : DkV R (unD d fn a) := by
 unfold unD
 cases e1 : d.num a with
 | none => exact h.named _
 | some n =>
  have h1 := (h.num a n e1).2
  exact h.const (fnF_bd _ _ _ h1.1 h1.2 (by decide) (by decide))
theorem DkB.more {R : Int} {d : Dk} (h : DkB R d) {r : Int} (hr : 0 ≤ r ∧ r < R) : d.vs ≤ (valueD d r).2.vs := by
 cases e : d.of r with
 | some v => rw [valueD_some e]; exact Int.le_refl _
 | none => rw [valueD_none e]; show d.vs ≤ d.vs + 1; omega
/-- the registers that an instruction reads are there -/
structure RdOk (R : Int) (i : In) : Prop where
 a : i.a = -1 ∨ 0 ≤ i.a ∧ i.a < R
 b : i.b = -1 ∨ 0 ≤ i.b ∧ i.b < R
 args : ∀ r ∈ i.args, r = -1 ∨ 0 ≤ r ∧ r < R
 useA : i.op = 2 ∨ i.op = 3 ∨ i.op = 4 ∨ i.op = 5 ∨ i.op = 6 → 0 ≤ i.a
 useB : i.op = 3 ∨ i.op = 6 → 0 ≤ i.b
 d : defI i = -1 ∨ 0 ≤ defI i ∧ defI i < R
 num : 0 ≤ i.num ∧ i.num < 4294967296
theorem DkB.told {R : Int} {d : Dk} (h : DkB R d) {i : In} (hi : RdOk R i) : DkB R (toldD d i).2 ∧ ((toldD d i).1 = 0 ∨ 1 ≤ (toldD d i).1 ∧ (toldD d i).1 ≤ (toldD d i).2.vs) := by
 have fin : ∀ q : Int × Dk, DkV R q → DkB R q.2 ∧ (q.1 = 0 ∨ 1 ≤ q.1 ∧ q.1 ≤ q.2.vs) := fun q hq => ⟨hq.1, .inr hq.2⟩
 have ha := hi.a
 have hb := hi.b
 have ua := hi.useA
 have ub := hi.useB
 unfold toldD
 by_cases h1 : i.op = 1
 ·rw [if_pos h1]; exact fin _ (h.const hi.num)
 rw [if_neg h1]
 by_cases h2 : i.op = 2
 ·rw [if_pos h2]
  have hv := h.value (r := i.a) (by omega)
  exact fin _ ⟨hv.1, hv.2.1⟩
 rw [if_neg h2]
 by_cases h3 : i.op = 3
 ·rw [if_pos h3]
  have hv := h.value (r := i.a) (by omega)
  have hw := hv.1.value (r := i.b) (by omega)
  have hm := hv.1.more (r := i.b) (by omega)
  exact fin _ (hw.1.two _ ⟨hv.2.1.1, by omega⟩ hw.2.1)
 rw [if_neg h3]
 by_cases h4 : i.op = 4
 ·rw [if_pos h4]
  have hv := h.value (r := i.a) (by omega)
  exact fin _ (hv.1.un _ _)
 rw [if_neg h4]
 by_cases h7 : i.op = 7 ∨ i.op = 8
 ·rw [if_pos h7]; exact fin _ (h.named _)
 rw [if_neg h7]
 by_cases h5 : i.op = 5
 ·rw [if_pos h5]
  have hv := h.value (r := i.a) (by omega)
  exact fin _ (hv.1.named _)
 rw [if_neg h5]
 exact ⟨h, .inl rfl⟩
theorem DkB.readL {R : Int} : ∀ (l : List Int) {d : Dk}, DkB R d → (∀ r ∈ l, r = -1 ∨ 0 ≤ r ∧ r < R) → DkB R (readL d l).2 ∧ (∀ r ∈ (readL d l).1, r = -1 ∨ 0 ≤ r ∧ r < R) ∧ (readL d l).1.length = l.length
 | [], d, h, _ => ⟨h, fun r hr => (by cases hr), rfl⟩
 | r :: l, d, h, hl => by
  have h1 := h.read (hl r List.mem_cons_self)
  have h2 := DkB.readL l h1.1 (fun x hx => hl x (List.mem_cons_of_mem _ hx))
  refine ⟨h2.1, fun x hx => ?_, by simp [Go.Proofs.YtkhfddodmjnecaaDoor.readL, h2.2.2]⟩
  rcases List.mem_cons.1 hx with e | hx
  ·rcases h1.2 with ⟨-, e2⟩ | ⟨-, e2⟩
   ·exact .inl (e.trans e2)
   ·exact .inr (by rw [e]; exact e2)
  ·exact h2.2.1 x hx
theorem defI_reads (d : Dk) (i : In) : defI (readsD d i).1 = defI i := rfl
theorem DkB.reads {R : Int} {d : Dk} (h : DkB R d) {i : In} (hi : RdOk R i) : DkB R (readsD d i).2 ∧ RdOk R (readsD d i).1 ∧ ((readsD d i).1.a = -1 ↔ i.a = -1) ∧ ((readsD d i).1.b = -1 ↔ i.b = -1) := by
 have ha := h.read hi.a
 have hb := ha.1.read hi.b
 have hl := DkB.readL i.args hb.1 hi.args
 have e1 : (readsD d i).1.a = (readD d i.a).1 := rfl
 have e2 : (readsD d i).1.b = (readD (readD d i.a).2 i.b).1 := rfl
 have ua := hi.useA
 have ub := hi.useB
 refine ⟨hl.1, ⟨by rw [e1]; omega, by rw [e2]; omega, hl.2.1, fun ho => ?_, fun ho => ?_, hi.d, hi.num⟩, by rw [e1]; omega, by rw [e2]; omega⟩
 ·have ho : i.op = 2 ∨ i.op = 3 ∨ i.op = 4 ∨ i.op = 5 ∨ i.op = 6 := ho
  rw [e1]; omega
 ·have ho : i.op = 3 ∨ i.op = 6 := ho
  rw [e2]; omega
theorem DkB.turn {R : Int} {d : Dk} (h : DkB R d) (op : Int) : DkB R (turnD d op) := by
 unfold turnD
 split
 ·exact ⟨h.vs, h.of, h.fs, h.ky, h.num⟩
 ·exact h
theorem DkB.put {R : Int} {d : Dk} (h : DkB R d) {i : In} (hi : RdOk R i) : DkB R (putD d i) := by
 unfold putD
 split
 ·rename_i ho
  have ua := hi.useA
  have ub := hi.useB
  have ha := hi.a
  have hb := hi.b
  have hv := h.value (r := i.a) (by omega)
  have hw := hv.1.value (r := i.b) (by omega)
  exact hw.1.setKy hw.2.1 _
 ·exact h
theorem DkB.sets {R : Int} {d : Dk} (h : DkB R d) {i : In} (hi : RdOk R i) (hd : defI i ≠ -1) : DkB R (setsD d i).2 := by
 have ht := h.told hi
 have hdd := hi.d
 unfold setsD
 split
 ·have := ht.1.vs
  exact ht.1.fresh.have (by omega) ⟨by omega, Int.le_refl _⟩
 ·split
  ·exact ht.1
  ·rename_i h0 _
   exact ht.1.have (by omega) (by omega)
theorem DkB.ins {R : Int} {d : Dk} (h : DkB R d) {i : In} (hi : RdOk R i) : DkB R (insD d i).2 := by
 have hr := h.reads hi
 have hp := (hr.1.turn i.op).put hr.2.1
 unfold insD
 split
 ·exact hp
 ·exact hp.sets hr.2.1 (by rw [defI_reads]; assumption)
theorem DkB.dsk {R : Int} : ∀ (l : List In) {d : Dk}, DkB R d → (∀ i ∈ l, RdOk R i) → DkB R (dskL d l)
 | [], d, h, _ => h
 | i :: l, d, h, hl => DkB.dsk l (h.ins (hl i List.mem_cons_self)) fun j hj => hl j (List.mem_cons_of_mem _ hj)
end Go.Proofs.YtkhfddodmjnecaaDoor

set_option linter.all false
namespace Go.Proofs.YtkhfddodmjnecaaDoor
set_option linter.unusedVariables false

end Go.Proofs.YtkhfddodmjnecaaDoor

set_option linter.all false
namespace Go.Proofs.YtkhfddodmjnecaaDoor
set_option linter.unusedVariables false

section
variable {m : Md} {p : Pr} {low R : Int}
end
end Go.Proofs.YtkhfddodmjnecaaDoor

set_option linter.all false
namespace Go.Proofs.YtkhfddodmjnecaaDoor
set_option linter.unusedVariables false

theorem vlsB_ins (b : Bk) : (vlsB b).ins = vlsL Dk0 b.ins := by
 unfold vlsB vlsE
 split
 ·rfl
 ·split
  ·split <;> rfl
  ·rfl
theorem vlsP_len (p : Pr) : (vlsP p).blks.length = p.blks.length := by simp [vlsP]
/-- a block's end: as it was, with another register that has the same; or a jump -/
theorem vlsB_end (b : Bk) : b.a = -1 ∧ ((vlsB b).fin = b.fin ∧ (vlsB b).a = b.a ∧ (vlsB b).to = b.to ∧ (vlsB b).els = b.els) ∨
  b.a ≠ -1 ∧ ((vlsB b).fin = b.fin ∧ (vlsB b).a = (readD (dskL Dk0 b.ins) b.a).1 ∧ (vlsB b).to = b.to ∧ (vlsB b).els = b.els) ∨
  b.a ≠ -1 ∧ b.fin = 2 ∧ ∃ n, (valueD (dskL Dk0 b.ins) b.a).2.num (valueD (dskL Dk0 b.ins) b.a).1 = some n ∧ (vlsB b).fin = 1 ∧ (vlsB b).a = -1 ∧ (vlsB b).to = (if n = 0 then b.els else b.to) ∧ (vlsB b).els = 0 := by
 unfold vlsB vlsE readD
 dsimp only
 by_cases ha : b.a = -1
 ·rw [if_pos ha]; exact .inl ⟨ha, rfl, rfl, rfl, rfl⟩
 ·rw [if_neg ha, if_neg ha]
  by_cases h2 : b.fin = 2
  ·rw [if_pos h2]
   cases hn : (valueD (dskL Dk0 b.ins) b.a).2.num (valueD (dskL Dk0 b.ins) b.a).1 with
   | none => exact .inr (.inl ⟨ha, rfl, rfl, rfl, rfl⟩)
   | some n => exact .inr (.inr ⟨ha, h2, n, rfl, rfl, rfl, rfl, rfl⟩)
  ·rw [if_neg h2]; exact .inr (.inl ⟨ha, rfl, rfl, rfl, rfl⟩)
theorem okI_rd {m : Md} {p : Pr} {i : In} (h : okI m p i = true) (hn : 0 ≤ i.num ∧ i.num < 4294967296) : RdOk p.regs i := by
 have hop := ops12 h
 by_cases h9 : i.op = 9
 ·obtain ⟨-, -, -, hd, ha⟩ := okI_call h h9
  have hab : i.a = -1 ∧ i.b = -1 := by
   unfold okI at h
   simp only [Bool.and_eq_true] at h
   have h := h.2
   rw [if_pos h9] at h
   simp only [Bool.and_eq_true] at h
   obtain ⟨-, h1, h2⟩ := h
   unfold regF at h1 h2
   simpa using And.intro h1 h2
  rw [List.all_eq_true] at ha
  refine ⟨.inl hab.1, .inl hab.2, fun r hr => .inr (regF_in (ha r hr)), fun ho => by omega, fun ho => by omega, ?_, hn⟩
  have e : defI i = i.d := by unfold defI; rw [if_pos (by omega)]
  rw [e]; exact regF_may hd
 ·obtain ⟨hd, ha, hb, -⟩ := okI_regs h h9
  have hargs : i.args = [] := by
   unfold okI bareF at h
   simp only [Bool.and_eq_true, Bool.or_eq_true, beq_iff_eq, decide_eq_true_eq] at h
   have := h.1.2.2.2.2.2.2.2.2
   rcases this with e | e
   ·exact absurd e h9
   ·exact List.length_eq_zero_iff.1 e
  refine ⟨regF_may ha, regF_may hb, fun r hr => (by rw [hargs] at hr; cases hr), fun ho => ?_, fun ho => ?_, ?_, hn⟩
  ·have e : readsA i.op = true := by unfold readsA; simp; omega
   rw [e] at ha; exact (regF_in ha).1
  ·have e : readsB i.op = true := by unfold readsB; simp; omega
   rw [e] at hb; exact (regF_in hb).1
  ·by_cases ho : i.op ≠ 6 ∧ i.op ≠ 10 ∧ i.op ≠ 12
   ·have e : defI i = i.d := by unfold defI; rw [if_pos (by omega)]
    rw [e]; exact .inr (okI_d h ⟨ho.1, ho.2.1, ho.2.2, h9⟩)
   ·left; unfold defI; rw [if_neg (by omega)]
section
variable {m : Md} {n : Nat}
end
end Go.Proofs.YtkhfddodmjnecaaDoor

set_option linter.all false
namespace Go.Proofs.YtkhfddodmjnecaaDoor
set_option linter.unusedVariables false

theorem fewM_sz {m : Md} (h : fewM m = true) : SzM m := by
 unfold fewM at h
 simp only [Bool.and_eq_true, List.all_eq_true] at h
 refine ⟨fun p hp => ?_⟩
 have h2 := h.2.2.2 p hp
 unfold prF at h2
 simp only [Bool.and_eq_true, decide_eq_true_eq, List.all_eq_true] at h2
 refine ⟨by omega, fun b hb => ?_⟩
 have h3 := h2.2.2 b hb
 unfold blkF at h3
 simp only [Bool.and_eq_true, decide_eq_true_eq] at h3
 omega
theorem fewM_pr {m : Md} (h : fewM m = true) {p : Pr} (hp : p ∈ m.procs) : p.blks.length ≤ 40 ∧ p.objs.length ≤ 20 ∧ ∀ b ∈ p.blks, b.ins.length ≤ 60 ∧ ∀ i ∈ b.ins, insF i = true := by
 unfold fewM at h
 simp only [Bool.and_eq_true, List.all_eq_true] at h
 have h2 := h.2.2.2 p hp
 unfold prF at h2
 simp only [Bool.and_eq_true, decide_eq_true_eq, List.all_eq_true] at h2
 refine ⟨h2.1, h2.2.1, fun b hb => ?_⟩
 have h3 := h2.2.2 b hb
 unfold blkF at h3
 simp only [Bool.and_eq_true, decide_eq_true_eq, List.all_eq_true] at h3
 exact h3
theorem insF_args {i : In} (h : insF i = true) : i.args.length ≤ 12 := by
 unfold insF at h
 simp only [Bool.and_eq_true, decide_eq_true_eq] at h
 exact h.2.2
end Go.Proofs.YtkhfddodmjnecaaDoor

set_option linter.all false
namespace Go.Proofs.YtkhfddodmjnecaaDoor
open Go.ChangeShapes Go.WideShapes Go.ChangeAt Go.RowKit Go.Maps
set_option maxHeartbeats 4000000
set_option maxRecDepth 100000
set_option linter.unusedVariables false

theorem zeroU (w : World) : (zeroValue 37).run Tryd.prog w = .ok (.int .u32 0) w := by kernel_rfl
end Go.Proofs.YtkhfddodmjnecaaDoor

set_option linter.all false
namespace Go.Proofs.YtkhfddodmjnecaaDoor
open Go.ChangeShapes Go.WideShapes Go.ChangeAt Go.RowKit Go.Maps
set_option maxHeartbeats 4000000
set_option maxRecDepth 100000
set_option linter.unusedVariables false

/-- the row of a block, at its beginning -/
def atB (R : Nat) (X : Tb) (i : Nat) : Ro := (X.getD i none).getD (roNo R)
end Go.Proofs.YtkhfddodmjnecaaDoor

set_option linter.all false
namespace Go.Proofs.YtkhfddodmjnecaaDoor
open Go.ChangeShapes Go.WideShapes Go.ChangeAt Go.RowKit
set_option maxHeartbeats 4000000
set_option maxRecDepth 100000
set_option linter.unusedVariables false

/-- a slice that can be read, one cell an element -/
def RdVs (w : World) (v : Value) (xs : List Value) : Prop := ∃ a c, v = .slice a xs.length c ∧ xs.length ≤ c ∧ c ≤ maxLen ∧ ∀ i, i < xs.length → ∃ b o, a = some ⟨b, o, none⟩ ∧ w.cell? ⟨b, o + i, none⟩ = xs[i]?
theorem own_rdVs {w : World} {B : Nat} {e : TypeId} {v : Value} {xs : List Value} (h : w.ownsRow B e 1 v xs.length xs) : RdVs w v xs := by
 have h' := h
 obtain ⟨-, ⟨rfl, e2⟩ | ⟨g, cap, cur, rfl, -, -, h1, h2, -⟩⟩ := h
 ·exact ⟨none, 0, by rw [e2], by omega, by decide, fun i hi => by omega⟩
 ·refine ⟨some ⟨g, 0, none⟩, cap, rfl, h1, h2, fun i hi => ⟨g, 0, rfl, ?_⟩⟩
  rw [Nat.zero_add]
  exact World.ownsRow.cellAt h' i (by omega)
end Go.Proofs.YtkhfddodmjnecaaDoor

set_option linter.all false
namespace Go.Proofs.YtkhfddodmjnecaaDoor
open Go.ChangeShapes Go.WideShapes Go.ChangeAt Go.RowKit
set_option maxHeartbeats 4000000
set_option maxRecDepth 100000
set_option linter.unusedVariables false

theorem row_not {w : World} {B m s b : Nat} {e ty : TypeId} {v : Value} {xs : List Value} {cs : Array Value} (h : w.ownsRow B e s v m xs) (hb : w.heap[b]? = some (.cells cs ty)) (hne : e ≠ ty) : v.ownBlock ≠ some b := by
 obtain ⟨-, ⟨rfl, -⟩ | ⟨g', cap, cur, rfl, -, hg, -⟩⟩ := h
 ·intro e2; cases e2
 ·intro e2
  simp only [Value.ownBlock, Option.some.injEq] at e2
  subst e2
  rw [hb] at hg
  simp only [Option.some.injEq, Obj.cells.injEq] at hg
  exact hne hg.2.1.symm
theorem ow_form {w : World} {B n s : Nat} {e : TypeId} {v : Value} {xs : List Value} (h : w.ownsRow B e s v n xs) : ∃ a c, v = .slice a n c := by
 obtain ⟨-, ⟨rfl, rfl⟩ | ⟨g, cap, cur, rfl, -⟩⟩ := h
 ·exact ⟨none, 0, rfl⟩
 ·exact ⟨_, _, rfl⟩
theorem ow_base {w : World} {B B' n s : Nat} {e : TypeId} {v : Value} {xs : List Value} (h : w.ownsRow B e s v n xs) (hb : B' ≤ B) : w.ownsRow B' e s v n xs := by
 obtain ⟨hl, h | ⟨g, cap, cur, e1, e2, r⟩⟩ := h
 ·exact ⟨hl, .inl h⟩
 ·exact ⟨hl, .inr ⟨g, cap, cur, e1, Nat.le_trans hb e2, r⟩⟩
theorem ow_apart {w : World} {B B' n n' s s' : Nat} {e e' : TypeId} {v v' : Value} {xs xs' : List Value} (h : w.ownsRow B e s v n xs) (h' : w.ownsRow B' e' s' v' n' xs') (hne : e ≠ e') : v'.ownBlock = none ∨ v'.ownBlock ≠ v.ownBlock := by
 obtain ⟨-, ⟨rfl, -⟩ | ⟨g', cap, cur, rfl, -, hg, -⟩⟩ := h'
 ·exact .inl rfl
 ·exact .inr fun e2 => row_not h hg hne e2.symm
end Go.Proofs.YtkhfddodmjnecaaDoor

set_option linter.all false
namespace Go.Proofs.YtkhfddodmjnecaaDoor
open Go.ChangeShapes Go.WideShapes Go.ChangeAt Go.RowKit
set_option maxHeartbeats 8000000
set_option linter.unusedVariables false
set_option maxRecDepth 100000

end Go.Proofs.YtkhfddodmjnecaaDoor

set_option linter.all false
namespace Go.Proofs.YtkhfddodmjnecaaDoor
open Go.ChangeShapes Go.WideShapes Go.ChangeAt Go.RowKit
set_option maxHeartbeats 8000000
set_option linter.unusedVariables false
set_option maxRecDepth 100000

end Go.Proofs.YtkhfddodmjnecaaDoor

set_option linter.all false
namespace Go.Proofs.YtkhfddodmjnecaaDoor
open Go.ChangeShapes Go.WideShapes Go.ChangeAt Go.RowKit
set_option maxHeartbeats 4000000
set_option maxRecDepth 100000
set_option linter.unusedVariables false

/-- registers that an instruction reads for its number are there -/
def UseC (n : Nat) (i : In) : Prop := (i.op = 2 ∨ i.op = 3 ∨ i.op = 4 → 0 ≤ i.a ∧ i.a < (n : Int)) ∧ (i.op = 3 → 0 ≤ i.b ∧ i.b < (n : Int))
theorem own_slice {w : World} {B n s : Nat} {e : TypeId} {v : Value} {xs : List Value} (h : w.ownsRow B e s v n xs) (hn : 0 < n) : ∃ g c, v = .slice (some ⟨g, 0, none⟩) n c := by
 obtain ⟨-, ⟨-, h1⟩ | ⟨g', cap, cur, h1, -⟩⟩ := h
 ·omega
 ·exact ⟨g', cap, h1⟩
theorem own_heap {w : World} {B n s g c : Nat} {e : TypeId} {xs : List Value} (h : w.ownsRow B e s (.slice (some ⟨g, 0, none⟩) n c) n xs) (hn : 0 < n) : B ≤ g ∧ ∃ cs, w.heap[g]? = some (.cells cs e) := by
 obtain ⟨-, ⟨h1, -⟩ | ⟨g', cap, cur, h1, hg, hb, -⟩⟩ := h
 ·cases h1
 ·simp only [Value.slice.injEq, Option.some.injEq, Addr.mk.injEq] at h1
  obtain ⟨⟨rfl, -⟩, -⟩ := h1
  exact ⟨hg, _, hb⟩
end Go.Proofs.YtkhfddodmjnecaaDoor

set_option linter.all false
namespace Go.Proofs.YtkhfddodmjnecaaDoor
set_option maxHeartbeats 4000000
set_option linter.unusedVariables false

structure FoldOk (p : Pr) (R : Nat) : Prop where
 regs : p.regs = (R : Int)
 le : R ≤ 40
 b0 : 0 < p.blks.length
 b1 : p.blks.length ≤ 40
 ord : 0 < (wkD p).ord.length
 ins : ∀ n, n < p.blks.length → InsC R (p.blks.getD n default).ins ∧ (∀ i ∈ (p.blks.getD n default).ins, UseC R i) ∧ (p.blks.getD n default).ins.length ≤ 60
 out : ∀ n, n < p.blks.length → ∀ q ∈ outsB (p.blks.getD n default), 0 ≤ q ∧ q < (p.blks.length : Int)
theorem foldI_def {m : Md} {p : Pr} {i : In} (h : okI m p i = true) (hd : defI i ≠ -1) : 0 ≤ defI i ∧ defI i < p.regs := by
 have h12 := ops12 h
 by_cases h9 : i.op = 9
 ·have e : defI i = i.d := by unfold defI; rw [if_pos (by omega)]
  rw [e] at hd ⊢
  have := regF_may (okI_call h h9).2.2.2.1
  omega
 ·by_cases hx : i.op = 6 ∨ i.op = 10 ∨ i.op = 12
  ·exact absurd (show defI i = -1 by unfold defI; rw [if_neg (by omega)]) hd
  ·have e : defI i = i.d := by unfold defI; rw [if_pos (by omega)]
   rw [e]
   exact okI_d h (by omega)
theorem foldI_use {m : Md} {p : Pr} {i : In} {R : Nat} (h : okI m p i = true) (hR : p.regs = (R : Int)) : UseC R i := by
 refine ⟨fun ho => ?_, fun ho => ?_⟩
 ·have h2 := (okI_regs h (by omega)).2.1
  have e : readsA i.op = true := by unfold readsA; simp; omega
  rw [e] at h2
  rw [← hR]; exact regF_in h2
 ·have h2 := (okI_regs h (by omega)).2.2.1
  have e : readsB i.op = true := by unfold readsB; simp; omega
  rw [e] at h2
  rw [← hR]; exact regF_in h2
end Go.Proofs.YtkhfddodmjnecaaDoor
