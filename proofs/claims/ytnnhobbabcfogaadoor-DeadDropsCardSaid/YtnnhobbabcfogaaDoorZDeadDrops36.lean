/-
 Which modules and procedures of the middle language are right, as plain functions.; What stands in procedures that are right; rows of numbers, one by one.; Where ends lead in the end: plain.
-/
import Derived.Test.YtnnhobbabcfogaaDoorZDeadDrops18

set_option linter.all false
namespace Go.Proofs.YtnnhobbabcfogaaDoor

def offF (n : Int) : Bool := decide (-32768 ≤ n) && decide (n ≤ 32768)
def slotF (s : Sl) : Bool := decide (1 ≤ s.size) && (decide (s.size ≤ 32768) && (s.align == 1 || s.align == 4))
def regF (p : Pr) (r : Int) (should : Bool) : Bool := if should = true then decide (0 ≤ r) && decide (r < p.regs) else r == -1
def blockF (p : Pr) (n : Int) : Bool := decide (0 ≤ n) && decide (n < p.blks.length)
def endF (p : Pr) (b : Bk) : Bool :=
 if b.fin = 1 then blockF p b.to && (b.a == -1 && b.els == 0)
 else if b.fin = 2 then blockF p b.to && (blockF p b.els && regF p b.a true)
 else if b.fin = 3 then regF p b.a (!p.void) && (b.to == 0 && b.els == 0)
 else false
/-- an instruction without what its operation has -/
def plainI (i : In) : In :=
 { op := i.op, d := -1, a := -1, b := -1, args := [], log := if i.op = 6 ∨ defI i ≠ -1 then false else i.log, num := if i.op = 1 then 0 else i.num, fn := if i.op = 3 ∨ i.op = 4 then 0 else i.fn, off := if i.op = 5 ∨ i.op = 6 ∨ i.op = 7 ∨ i.op = 8 then 0 else i.off, size := if i.op = 5 ∨ i.op = 6 then 0 else i.size, obj := if i.op = 7 ∨ i.op = 8 ∨ i.op = 9 then 0 else i.obj }
def bareF (i : In) : Bool :=
 (plainI i).fn == 0 && ((plainI i).obj == 0 && ((plainI i).off == 0 && ((plainI i).size == 0 && ((plainI i).num == 0 && (!(plainI i).log && (i.op == 9 || decide (i.args.length = 0)))))))
def callF (m : Md) (p : Pr) (i : In) : Bool :=
 decide (0 ≤ i.obj) && (decide (i.obj < m.procs.length) && (decide ((i.args.length : Int) = (m.procs.getD i.obj.toNat default).params) && (regF p i.d (!(m.procs.getD i.obj.toNat default).void) && i.args.all fun r => regF p r true)))
/-- what an operation has beside registers -/
def moreF (m : Md) (p : Pr) (i : In) : Bool :=
 if i.op = 3 then decide (1 ≤ i.fn) && decide (i.fn ≤ 16)
 else if i.op = 4 then decide (17 ≤ i.fn) && decide (i.fn ≤ 19)
 else if i.op = 5 ∨ i.op = 6 then (i.size == 1 || i.size == 4) && offF i.off
 else if i.op = 7 then (decide (0 ≤ i.obj) && decide (i.obj < p.objs.length)) && offF i.off
 else if i.op = 8 then (decide (0 ≤ i.obj) && decide (i.obj < m.globs.length)) && offF i.off
 else true
def okI (m : Md) (p : Pr) (i : In) : Bool :=
 (decide (1 ≤ i.op) && (decide (i.op ≤ 12) && bareF i)) &&
 if i.op = 9 then callF m p i && (regF p i.a false && regF p i.b false)
 else (regF p i.d (i.op != 6 && (i.op != 10 && i.op != 12)) && (regF p i.a (readsA i.op) && regF p i.b (readsB i.op))) && moreF m p i
def okB (m : Md) (p : Pr) (b : Bk) : Bool := b.ins.all (okI m p) && endF p b
def insN (p : Pr) : Nat := (p.blks.map fun b => b.ins.length).sum
def okHead (p : Pr) : Bool :=
 decide (0 ≤ p.params) && (decide (p.params ≤ 6) && (decide (p.params ≤ p.regs) && (decide (p.regs ≤ 8000) && (decide (p.objs.length ≤ 400) && (decide (1 ≤ p.blks.length) && (decide (p.blks.length ≤ 4000) && (p.objs.all slotF && decide (insN p ≤ 20000))))))))
def okP (m : Md) (p : Pr) : Bool := okHead p && p.blks.all (okB m p)
def dataF (m : Md) : Bool := (List.range m.data.length).all fun k => decide (((m.data.getD k []).length : Int) = (m.globs.getD k default).size)
def okHeadM (m : Md) : Bool :=
 decide (m.data.length = m.globs.length) && (decide (m.globs.length ≤ 200) && (m.globs.all slotF && (decide (1 ≤ m.procs.length) && (decide (m.procs.length ≤ 200) && (decide (0 ≤ m.main) && decide (m.main < m.procs.length))))))
def okM (m : Md) : Bool :=
 okHeadM m && (dataF m && (((m.procs.getD m.main.toNat default).params == 0 && !(m.procs.getD m.main.toNat default).void) && m.procs.all (okP m)))
/-- sizes that no sum of 64 bits leaves -/
structure SzP (p : Pr) : Prop where
 blks : p.blks.length ≤ 100000
 ins : ∀ b ∈ p.blks, b.ins.length ≤ 100000
structure SzM (m : Md) : Prop where
 procs : ∀ p ∈ m.procs, SzP p
end Go.Proofs.YtnnhobbabcfogaaDoor

set_option linter.all false
namespace Go.Proofs.YtnnhobbabcfogaaDoor
open Go Go.RowKit
set_option linter.unusedVariables false

structure Head (p : Pr) : Prop where
 p0 : 0 ≤ p.params
 p6 : p.params ≤ 6
 pr : p.params ≤ p.regs
 r8 : p.regs ≤ 8000
 ol : p.objs.length ≤ 400
 b1 : 1 ≤ p.blks.length
 b4 : p.blks.length ≤ 4000
 sl : p.objs.all slotF = true
theorem okP_head {m : Md} {p : Pr} (h : okP m p = true) : Head p := by
 unfold okP okHead at h
 simp only [Bool.and_eq_true, decide_eq_true_eq] at h
 obtain ⟨⟨h1, h2, h3, h4, h5, h6, h7, h8, h9⟩, -⟩ := h
 exact ⟨h1, h2, h3, h4, h5, h6, h7, h8⟩
theorem okP_blk {m : Md} {p : Pr} (h : okP m p = true) {b : Nat} (hb : b < p.blks.length) : okB m p (p.blks.getD b default) = true := by
 unfold okP at h
 simp only [Bool.and_eq_true] at h
 have h2 := h.2
 rw [List.all_eq_true] at h2
 exact h2 _ (by simp [List.getD, hb])
theorem okB_ins {m : Md} {p : Pr} {b : Bk} (h : okB m p b = true) {i : Nat} (hi : i < b.ins.length) : okI m p (b.ins.getD i default) = true := by
 unfold okB at h
 simp only [Bool.and_eq_true] at h
 have h2 := h.1
 rw [List.all_eq_true] at h2
 exact h2 _ (by simp [List.getD, hi])
theorem okB_end {m : Md} {p : Pr} {b : Bk} (h : okB m p b = true) : endF p b = true := by
 unfold okB at h
 simp only [Bool.and_eq_true] at h
 exact h.2
theorem RdI.at' {w : World} {a : Option Addr} {n c : Nat} {l : List Int} (h : RdI w (.slice a n c) l) : n = l.length ∧ ∀ k, k < l.length → ∃ b o, a = some ⟨b, o, none⟩ ∧ w.cell? ⟨b, o + k, none⟩ = some (.int .i64 (l.getD k 0)) := by
 obtain ⟨a', c', e, h1, h2, hc⟩ := h
 simp only [Value.slice.injEq] at e
 obtain ⟨rfl, rfl, rfl⟩ := e
 refine ⟨rfl, fun k hk => ?_⟩
 obtain ⟨b, o, rfl, h0⟩ := hc k hk
 exact ⟨b, o, rfl, by simpa using h0⟩
end Go.Proofs.YtnnhobbabcfogaaDoor

set_option linter.all false
namespace Go.Proofs.YtnnhobbabcfogaaDoor
set_option linter.unusedVariables false

def bkAt (p : Pr) (n : Nat) : Bk := p.blks.getD n default
/-- a block that only leads on -/
def stepB (p : Pr) (n : Nat) : Bool := (((bkAt p n).ins.length : Int) == 0) && (((bkAt p n).fin == 1) && ((bkAt p n).to != (n : Int)))
def nxS (p : Pr) (n : Nat) : Nat := if stepB p n = true then (bkAt p n).to.toNat else n
def itS (p : Pr) (n : Nat) : Nat → Nat
 | 0 => n
 | k + 1 => nxS p (itS p n k)
def leS (p : Pr) (n : Nat) : Nat → Nat
 | 0 => n
 | k + 1 => if itS p n (k + 1) < leS p n k then itS p n (k + 1) else leS p n k
/-- where a block leads in the end -/
def endS (p : Pr) (n : Nat) : Nat := leS p (itS p n p.blks.length) p.blks.length
def thB (p : Pr) (b : Bk) : Bk :=
 if b.fin = 2 then (if endS p b.to.toNat = endS p b.els.toNat then ⟨b.ins, 1, -1, endS p b.to.toNat, 0⟩ else ⟨b.ins, b.fin, b.a, endS p b.to.toNat, endS p b.els.toNat⟩)
 else if b.fin = 1 then ⟨b.ins, b.fin, b.a, endS p b.to.toNat, b.els⟩ else b
def thP (p : Pr) : Pr := { p with blks := p.blks.map (thB p) }

/-- ends lead to blocks that there are -/
structure JmpOk (p : Pr) : Prop where
 to1 : ∀ n, n < p.blks.length → (bkAt p n).fin = 1 → 0 ≤ (bkAt p n).to ∧ (bkAt p n).to < p.blks.length
 to2 : ∀ n, n < p.blks.length → (bkAt p n).fin = 2 → (0 ≤ (bkAt p n).to ∧ (bkAt p n).to < p.blks.length) ∧ 0 ≤ (bkAt p n).els ∧ (bkAt p n).els < p.blks.length
theorem stepB_fin {p : Pr} {n : Nat} (h : stepB p n = true) : (bkAt p n).fin = 1 ∧ (bkAt p n).ins = [] ∧ (bkAt p n).to ≠ (n : Int) := by
 unfold stepB at h
 simp only [Bool.and_eq_true, beq_iff_eq, bne_iff_ne] at h
 exact ⟨h.2.1, List.eq_nil_of_length_eq_zero (by omega), h.2.2⟩
theorem JmpOk.nx {p : Pr} (h : JmpOk p) {n : Nat} (hn : n < p.blks.length) : nxS p n < p.blks.length := by
 unfold nxS
 split
 ·rename_i hs
  have := h.to1 n hn (stepB_fin hs).1
  omega
 ·exact hn
theorem JmpOk.it {p : Pr} (h : JmpOk p) {n : Nat} (hn : n < p.blks.length) : ∀ k, itS p n k < p.blks.length
 | 0 => hn
 | k + 1 => h.nx (h.it hn k)
theorem itS_add (p : Pr) (n a : Nat) : ∀ b, itS p (itS p n a) b = itS p n (a + b)
 | 0 => rfl
 | b + 1 => by
  show nxS p (itS p (itS p n a) b) = nxS p (itS p n (a + b))
  rw [itS_add p n a b]
theorem itS_stop {p : Pr} {n k : Nat} (h : stepB p (itS p n k) = false) : ∀ j, itS p n (k + j) = itS p n k
 | 0 => rfl
 | j + 1 => by
  show nxS p (itS p n (k + j)) = _
  rw [itS_stop h j]
  unfold nxS
  rw [h]; rfl
theorem leS_const {p : Pr} {m : Nat} (h : ∀ j, itS p m j = m) : ∀ k, leS p m k = m
 | 0 => rfl
 | k + 1 => by
  show (if itS p m (k + 1) < leS p m k then _ else _) = _
  rw [h, leS_const h k, if_neg (Nat.lt_irrefl _)]
/-- a way that ends -/
theorem endS_stop {p : Pr} {n k : Nat} (hk : k ≤ p.blks.length) (h : stepB p (itS p n k) = false) : endS p n = itS p n k := by
 have h1 := itS_stop h
 have e : itS p n p.blks.length = itS p n k := by
  have := h1 (p.blks.length - k)
  rwa [show k + (p.blks.length - k) = p.blks.length by omega] at this
 unfold endS
 rw [e]
 refine leS_const (fun j => ?_) _
 rw [itS_add, h1]
theorem leS_le (p : Pr) (m : Nat) : ∀ k j, j ≤ k → leS p m k ≤ itS p m j
 | 0, j, h => by obtain rfl : j = 0 := by omega
                 exact Nat.le_refl _
 | k + 1, j, h => by
  show (if itS p m (k + 1) < leS p m k then itS p m (k + 1) else leS p m k) ≤ _
  by_cases e : j = k + 1
  ·subst e
   split <;> omega
  ·have := leS_le p m k j (by omega)
   split <;> omega
theorem leS_is (p : Pr) (m : Nat) : ∀ k, ∃ j, j ≤ k ∧ leS p m k = itS p m j
 | 0 => ⟨0, Nat.le_refl _, rfl⟩
 | k + 1 => by
  show ∃ j, j ≤ k + 1 ∧ (if itS p m (k + 1) < leS p m k then itS p m (k + 1) else leS p m k) = _
  split
  ·exact ⟨k + 1, Nat.le_refl _, rfl⟩
  ·obtain ⟨j, hj, e⟩ := leS_is p m k
   exact ⟨j, by omega, e⟩
section
variable {p : Pr} {n f k : Nat} (hf : f < k) (he : itS p n k = itS p n f)
include hf he
theorem cyc_in : ∀ x, f ≤ x → ∃ j, f ≤ j ∧ j < k ∧ itS p n x = itS p n j := by
 intro x hx
 obtain ⟨r, rfl⟩ : ∃ r, x = f + r := ⟨x - f, by omega⟩
 clear hx
 induction r with
 | zero => exact ⟨f, Nat.le_refl _, hf, rfl⟩
 | succ r ih =>
  obtain ⟨j, h1, h2, h3⟩ := ih
  have h4 : itS p n (f + (r + 1)) = itS p n (j + 1) := by
   show nxS p (itS p n (f + r)) = nxS p (itS p n j)
   rw [h3]
  by_cases e : j + 1 = k
  ·exact ⟨f, Nat.le_refl _, hf, by rw [h4, e, he]⟩
  ·exact ⟨j + 1, by omega, by omega, h4⟩
theorem cyc_per (x : Nat) (hx : f ≤ x) : itS p n (x + (k - f)) = itS p n x := by
 have h1 := itS_add p n k (x - f)
 have h2 := itS_add p n f (x - f)
 rw [he, h2] at h1
 rw [show x + (k - f) = k + (x - f) by omega, ← h1]
 congr 1; omega
theorem cyc_hit (j0 : Nat) (h0 : f ≤ j0) (h0' : j0 < k) : ∀ x, f ≤ x → ∃ j, j < k - f ∧ itS p n (x + j) = itS p n j0 := by
 intro x hx
 obtain ⟨r, rfl⟩ : ∃ r, x = f + r := ⟨x - f, by omega⟩
 clear hx
 induction r with
 | zero => exact ⟨j0 - f, by omega, by congr 1; omega⟩
 | succ r ih =>
  obtain ⟨j, h1, h2⟩ := ih
  by_cases e : j = 0
  ·subst e
   refine ⟨k - f - 1, by omega, ?_⟩
   rw [← h2, ← cyc_per hf he (f + r + 0) (by omega)]
   congr 1; omega
  ·exact ⟨j - 1, by omega, by rw [← h2]; congr 1; omega⟩
/-- a way that leads round: the least of the round -/
theorem endS_cycle (hk : k ≤ p.blks.length) {M : Nat} (h1 : ∀ j, f ≤ j → j < k → M ≤ itS p n j) (h2 : ∃ j, f ≤ j ∧ j < k ∧ M = itS p n j) : endS p n = M := by
 unfold endS
 apply Nat.le_antisymm
 ·obtain ⟨j0, ha, hb, rfl⟩ := h2
  obtain ⟨j, hj, e⟩ := cyc_hit hf he j0 ha hb p.blks.length (by omega)
  rw [← e, ← itS_add]
  exact leS_le _ _ _ _ (by omega)
 ·obtain ⟨j, hj, e⟩ := leS_is p (itS p n p.blks.length) p.blks.length
  rw [e, itS_add]
  obtain ⟨j', ha, hb, e'⟩ := cyc_in hf he (p.blks.length + j) (by omega)
  rw [e']
  exact h1 j' ha hb
end
theorem nodup_len : ∀ (L : Nat) (l : List Nat), l.Nodup → (∀ x ∈ l, x < L) → l.length ≤ L
 | 0, l, _, h => by
  cases l with
  | nil => exact Nat.le_refl _
  | cons x l => exact absurd (h x (List.mem_cons_self ..)) (Nat.not_lt_zero _)
 | L + 1, l, hn, h => by
  by_cases hm : L ∈ l
  ·have h1 := nodup_len L (l.erase L) (hn.erase L) (fun x hx => by
    have := (hn.mem_erase_iff).1 hx
    have := h x this.2
    omega)
   rw [List.length_erase_of_mem hm] at h1
   omega
  ·have := nodup_len L l hn (fun x hx => by
    have h2 := h x hx
    have : x ≠ L := fun e => hm (e ▸ hx)
    omega)
   omega
/-- ways that meet nothing twice are short -/
theorem way_len {p : Pr} (h : JmpOk p) {n k : Nat} (hn : n < p.blks.length) (hd : ∀ i j, i < j → j < k → itS p n i ≠ itS p n j) : k ≤ p.blks.length := by
 have := nodup_len p.blks.length ((List.range k).map (itS p n)) (by
  rw [List.Nodup, List.pairwise_map]
  refine List.Pairwise.imp_of_mem ?_ List.pairwise_lt_range
  intro a b ha hb hab
  exact hd a b hab (List.mem_range.1 hb)) (fun x hx => by
  obtain ⟨i, _, rfl⟩ := List.mem_map.1 hx
  exact h.it hn i)
 simpa using this
theorem endS_lt {p : Pr} (h : JmpOk p) {n : Nat} (hn : n < p.blks.length) : endS p n < p.blks.length := by
 obtain ⟨j, _, e⟩ := leS_is p (itS p n p.blks.length) p.blks.length
 unfold endS
 rw [e]
 exact h.it (h.it hn _) _
theorem jmp_of {m : Md} {p : Pr} (h : okP m p = true) : JmpOk p := by
 have he : ∀ n, n < p.blks.length → endF p (bkAt p n) = true := fun n hn => okB_end (okP_blk h hn)
 refine ⟨fun n hn hf => ?_, fun n hn hf => ?_⟩
 all_goals
  have := he n hn
  unfold endF at this
  simp [hf, blockF] at this
  omega
end Go.Proofs.YtnnhobbabcfogaaDoor
