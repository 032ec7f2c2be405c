/-
 A procedure in which nothing is reckoned twice does the same. Plain.; What few modules are like: plain.; A procedure of which a statement speaks: what its fold owes.; What stays of a block: plain.
-/
import Derived.Test.YtkhfddodmjnecaaZFoldKeeps45
import Derived.Test.YtkhfddodmjnecaaZFoldKeeps10
import Derived.Test.YtkhfddodmjnecaaZFoldKeeps25
import Derived.Test.YtkhfddodmjnecaaZFoldKeeps33
import Derived.Test.YtkhfddodmjnecaaZFoldKeeps31
import Derived.Test.YtkhfddodmjnecaaZFoldKeeps44

set_option linter.all false
namespace Go.Proofs.Ytkhfddodmjnecaa
set_option linter.unusedVariables false

theorem vlsB_ins (b : Bk) : (vlsB b).ins = vlsL Dk0 b.ins := by
 unfold vlsB vlsE
 split
 ·rfl
 ·split
  ·split <;> rfl
  ·rfl
theorem vlsP_len (p : Pr) : (vlsP p).blks.length = p.blks.length := by simp [vlsP]
theorem vlsP_at (p : Pr) {n : Nat} (h : n < p.blks.length) : (vlsP p).blks.getD n default = vlsB (p.blks.getD n default) := by simp [vlsP, List.getD, h]
/-- a block's end: as it was, with another register that has the same; or a jump -/
theorem vlsB_end (b : Bk) : b.a = -1 ∧ ((vlsB b).fin = b.fin ∧ (vlsB b).a = b.a ∧ (vlsB b).to = b.to ∧ (vlsB b).els = b.els) ∨
  b.a ≠ -1 ∧ ((vlsB b).fin = b.fin ∧ (vlsB b).a = (readD (dskL Dk0 b.ins) b.a).1 ∧ (vlsB b).to = b.to ∧ (vlsB b).els = b.els) ∨
  b.a ≠ -1 ∧ b.fin = 2 ∧ ∃ n, (valueD (dskL Dk0 b.ins) b.a).2.num (valueD (dskL Dk0 b.ins) b.a).1 = some n ∧ (vlsB b).fin = 1 ∧ (vlsB b).a = -1 ∧ (vlsB b).to = (if n = 0 then b.els else b.to) ∧ (vlsB b).els = 0 := by
 unfold vlsB vlsE readD
 dsimp only
 by_cases ha : b.a = -1
 ·rw [if_pos ha]; exact .inl ⟨ha, rfl, rfl, rfl, rfl⟩
 ·rw [if_neg ha, if_neg ha]
  by_cases h2 : b.fin = 2
  ·rw [if_pos h2]
   cases hn : (valueD (dskL Dk0 b.ins) b.a).2.num (valueD (dskL Dk0 b.ins) b.a).1 with
   | none => exact .inr (.inl ⟨ha, rfl, rfl, rfl, rfl⟩)
   | some n => exact .inr (.inr ⟨ha, h2, n, rfl, rfl, rfl, rfl, rfl⟩)
  ·rw [if_neg h2]; exact .inr (.inl ⟨ha, rfl, rfl, rfl, rfl⟩)
theorem okI_rd {m : Md} {p : Pr} {i : In} (h : okI m p i = true) (hn : 0 ≤ i.num ∧ i.num < 4294967296) : RdOk p.regs i := by
 have hop := ops12 h
 by_cases h9 : i.op = 9
 ·obtain ⟨-, -, -, hd, ha⟩ := okI_call h h9
  have hab : i.a = -1 ∧ i.b = -1 := by
   unfold okI at h
   simp only [Bool.and_eq_true] at h
   have h := h.2
   rw [if_pos h9] at h
   simp only [Bool.and_eq_true] at h
   obtain ⟨-, h1, h2⟩ := h
   unfold regF at h1 h2
   simpa using And.intro h1 h2
  rw [List.all_eq_true] at ha
  refine ⟨.inl hab.1, .inl hab.2, fun r hr => .inr (regF_in (ha r hr)), fun ho => by omega, fun ho => by omega, ?_, hn⟩
  have e : defI i = i.d := by unfold defI; rw [if_pos (by omega)]
  rw [e]; exact regF_may hd
 ·obtain ⟨hd, ha, hb, -⟩ := okI_regs h h9
  have hargs : i.args = [] := by
   unfold okI bareF at h
   simp only [Bool.and_eq_true, Bool.or_eq_true, beq_iff_eq, decide_eq_true_eq] at h
   have := h.1.2.2.2.2.2.2.2.2
   rcases this with e | e
   ·exact absurd e h9
   ·exact List.length_eq_zero_iff.1 e
  refine ⟨regF_may ha, regF_may hb, fun r hr => (by rw [hargs] at hr; cases hr), fun ho => ?_, fun ho => ?_, ?_, hn⟩
  ·have e : readsA i.op = true := by unfold readsA; simp; omega
   rw [e] at ha; exact (regF_in ha).1
  ·have e : readsB i.op = true := by unfold readsB; simp; omega
   rw [e] at hb; exact (regF_in hb).1
  ·by_cases ho : i.op ≠ 6 ∧ i.op ≠ 10 ∧ i.op ≠ 12
   ·have e : defI i = i.d := by unfold defI; rw [if_pos (by omega)]
    rw [e]; exact .inr (okI_d h ⟨ho.1, ho.2.1, ho.2.2, h9⟩)
   ·left; unfold defI; rw [if_neg (by omega)]
section
variable {m : Md} {n : Nat}
end
end Go.Proofs.Ytkhfddodmjnecaa

set_option linter.all false
namespace Go.Proofs.Ytkhfddodmjnecaa
set_option linter.unusedVariables false

theorem fewM_sz {m : Md} (h : fewM m = true) : SzM m := by
 unfold fewM at h
 simp only [Bool.and_eq_true, List.all_eq_true] at h
 refine ⟨fun p hp => ?_⟩
 have h2 := h.2.2.2 p hp
 unfold prF at h2
 simp only [Bool.and_eq_true, decide_eq_true_eq, List.all_eq_true] at h2
 refine ⟨by omega, fun b hb => ?_⟩
 have h3 := h2.2.2 b hb
 unfold blkF at h3
 simp only [Bool.and_eq_true, decide_eq_true_eq] at h3
 omega
theorem fewM_pr {m : Md} (h : fewM m = true) {p : Pr} (hp : p ∈ m.procs) : p.blks.length ≤ 40 ∧ p.objs.length ≤ 20 ∧ ∀ b ∈ p.blks, b.ins.length ≤ 60 ∧ ∀ i ∈ b.ins, insF i = true := by
 unfold fewM at h
 simp only [Bool.and_eq_true, List.all_eq_true] at h
 have h2 := h.2.2.2 p hp
 unfold prF at h2
 simp only [Bool.and_eq_true, decide_eq_true_eq, List.all_eq_true] at h2
 refine ⟨h2.1, h2.2.1, fun b hb => ?_⟩
 have h3 := h2.2.2 b hb
 unfold blkF at h3
 simp only [Bool.and_eq_true, decide_eq_true_eq, List.all_eq_true] at h3
 exact h3
theorem insF_args {i : In} (h : insF i = true) : i.args.length ≤ 12 := by
 unfold insF at h
 simp only [Bool.and_eq_true, decide_eq_true_eq] at h
 exact h.2.2
end Go.Proofs.Ytkhfddodmjnecaa

set_option linter.all false
namespace Go.Proofs.Ytkhfddodmjnecaa
set_option maxHeartbeats 4000000
set_option linter.unusedVariables false

structure FoldOk (p : Pr) (R : Nat) : Prop where
 regs : p.regs = (R : Int)
 le : R ≤ 40
 b0 : 0 < p.blks.length
 b1 : p.blks.length ≤ 40
 ord : 0 < (wkD p).ord.length
 ins : ∀ n, n < p.blks.length → InsC R (p.blks.getD n default).ins ∧ (∀ i ∈ (p.blks.getD n default).ins, UseC R i) ∧ (p.blks.getD n default).ins.length ≤ 60
 out : ∀ n, n < p.blks.length → ∀ q ∈ outsB (p.blks.getD n default), 0 ≤ q ∧ q < (p.blks.length : Int)
theorem foldI_def {m : Md} {p : Pr} {i : In} (h : okI m p i = true) (hd : defI i ≠ -1) : 0 ≤ defI i ∧ defI i < p.regs := by
 have h12 := ops12 h
 by_cases h9 : i.op = 9
 ·have e : defI i = i.d := by unfold defI; rw [if_pos (by omega)]
  rw [e] at hd ⊢
  have := regF_may (okI_call h h9).2.2.2.1
  omega
 ·by_cases hx : i.op = 6 ∨ i.op = 10 ∨ i.op = 12
  ·exact absurd (show defI i = -1 by unfold defI; rw [if_neg (by omega)]) hd
  ·have e : defI i = i.d := by unfold defI; rw [if_pos (by omega)]
   rw [e]
   exact okI_d h (by omega)
theorem foldI_use {m : Md} {p : Pr} {i : In} {R : Nat} (h : okI m p i = true) (hR : p.regs = (R : Int)) : UseC R i := by
 refine ⟨fun ho => ?_, fun ho => ?_⟩
 ·have h2 := (okI_regs h (by omega)).2.1
  have e : readsA i.op = true := by unfold readsA; simp; omega
  rw [e] at h2
  rw [← hR]; exact regF_in h2
 ·have h2 := (okI_regs h (by omega)).2.2.1
  have e : readsB i.op = true := by unfold readsB; simp; omega
  rw [e] at h2
  rw [← hR]; exact regF_in h2
theorem fold_ok {m : Md} {p : Pr} (hf : fewM m = true) (hm : p ∈ m.procs) (hk : okP m p = true) (hr : p.regs ≤ 40) (hp : PrOk p) : FoldOk p p.regs.toNat := by
 have hpr := fewM_pr hf hm
 unfold okP okHead at hk
 simp only [Bool.and_eq_true, decide_eq_true_eq, List.all_eq_true] at hk
 obtain ⟨⟨h1, h2, h3, h4, h5, h6, h7, -, -⟩, hb⟩ := hk
 have hgb : ∀ n, n < p.blks.length → p.blks.getD n default ∈ p.blks := fun n hn => by simp [List.getD, hn]
 have hR : p.regs = (p.regs.toNat : Int) := (Int.toNat_of_nonneg (by omega)).symm
 refine ⟨hR, by omega, by omega, hpr.1, List.length_pos_of_mem (ord_zero p (by omega)), fun n hn => ?_, fun n hn q hq => ?_⟩
 ·have h := hb _ (hgb n hn)
  unfold okB at h
  simp only [Bool.and_eq_true, List.all_eq_true] at h
  refine ⟨⟨fun i hi => ((hp.blks _ (hgb n hn)).ins i hi).num, fun i hi hd => ?_⟩, fun i hi => foldI_use (h.1 i hi) hR, (hpr.2.2 _ (hgb n hn)).1⟩
  rw [← hR]
  exact foldI_def (h.1 i hi) hd
 ·have h := hb _ (hgb n hn)
  unfold okB at h
  simp only [Bool.and_eq_true, List.all_eq_true] at h
  have he := h.2
  unfold endF blockF at he
  unfold outsB at hq
  generalize p.blks.getD n default = b at *
  by_cases f1 : b.fin = 1
  ·rw [if_pos f1] at he
   rw [if_pos (.inl f1), List.mem_singleton] at hq
   simp only [Bool.and_eq_true, decide_eq_true_eq] at he
   rw [hq]; exact he.1
  ·rw [if_neg f1] at he
   by_cases f2 : b.fin = 2
   ·rw [if_pos f2] at he
    simp only [Bool.and_eq_true, decide_eq_true_eq] at he
    split at hq
    ·rw [List.mem_singleton] at hq; rw [hq]; exact he.1
    ·rcases List.mem_cons.1 hq with rfl | hq
     ·exact he.1
     ·rw [List.mem_singleton] at hq; rw [hq]; exact he.2.1
   ·rw [if_neg (by omega), if_neg f2] at hq
    cases hq
end Go.Proofs.Ytkhfddodmjnecaa

set_option linter.all false
namespace Go.Proofs.Ytkhfddodmjnecaa
set_option maxHeartbeats 4000000
set_option linter.unusedVariables false

theorem to_ok {m : Md} {p : Pr} {i : In} (h : okI m p i = true) (hn : InOk i) : ToOk p.regs i := by
 have hr := okI_rd h hn.num
 refine ⟨hn.num, hn.fn, hn.obj, hn.off, hn.size, fun ho => ?_, fun ho => ?_⟩
 ·have h1 := hr.a
  have h2 := hr.useA (by omega)
  omega
 ·have h1 := hr.b
  have h2 := hr.useB (by omega)
  omega
theorem end_a {p : Pr} {b : Bk} (h : endF p b = true) : b.a = -1 ∨ 0 ≤ b.a ∧ b.a < p.regs := by
 unfold endF at h
 split at h
 ·simp only [Bool.and_eq_true, beq_iff_eq] at h
  exact .inl h.2.1
 ·split at h
  ·simp only [Bool.and_eq_true] at h
   exact .inr (regF_in h.2.2)
  ·split at h
   ·simp only [Bool.and_eq_true] at h
    exact regF_may h.1
   ·cases h
theorem bl_ok {m : Md} {p : Pr} (hf : fewM m = true) (hm : p ∈ m.procs) (hk : okP m p = true) (hp : PrOk p) {n : Nat} (hn : n < p.blks.length) : BlOk p.regs (p.blks.getD n default) := by
 have hpr := fewM_pr hf hm
 unfold okP at hk
 simp only [Bool.and_eq_true, List.all_eq_true] at hk
 have hb : p.blks.getD n default ∈ p.blks := by simp [List.getD, hn]
 have h := hk.2 _ hb
 unfold okB at h
 simp only [Bool.and_eq_true, List.all_eq_true] at h
 have h3 := hpr.2.2 _ hb
 exact ⟨fun i hi => okI_rd (h.1 i hi) ((hp.blks _ hb).ins i hi).num, fun i hi => to_ok (h.1 i hi) ((hp.blks _ hb).ins i hi), fun i hi => by have := insF_args (h3.2 i hi); omega, by omega, end_a h.2⟩
/-- an instruction that stays -/
def staysI (i : In) : Bool := i.op == 6 || (i.op == 9 || (i.op == 10 || (i.op == 11 || i.op == 12)))
def stripI (i : In) : In := ⟨i.op, i.d, 0, 0, 0, i.obj, i.off, i.size, 0, [], i.log⟩
def keptL (l : List In) : List In := (l.filter staysI).map stripI
theorem ins_stays (d : Dk) (i : In) : (staysI i = true → (insD d i).1.2 = true ∧ staysI (insD d i).1.1 = true ∧ stripI (insD d i).1.1 = stripI i) ∧ (staysI i = false → (insD d i).1.2 = true → staysI (insD d i).1.1 = false) := by
 have hop : (readsD d i).1.op = i.op := rfl
 have hst : stripI (readsD d i).1 = stripI i := rfl
 have hss : staysI (readsD d i).1 = staysI i := rfl
 unfold insD
 by_cases hd : defI i = -1
 ·rw [if_pos hd]
  exact ⟨fun h => ⟨rfl, hss.trans h, hst⟩, fun h _ => hss.trans h⟩
 ·rw [if_neg hd]
  generalize putD (turnD (readsD d i).2 i.op) (readsD d i).1 = d3
  unfold setsD
  refine ⟨fun h => ?_, fun h => ?_⟩
  ·have ho : i.op = 9 ∨ i.op = 11 := by
    unfold staysI at h
    simp only [Bool.or_eq_true, beq_iff_eq] at h
    unfold defI at hd
    split at hd
    ·omega
    ·exact absurd rfl hd
   have ht : toldD d3 (readsD d i).1 = (0, d3) := by
    unfold toldD
    rw [hop, if_neg (by omega), if_neg (by omega), if_neg (by omega), if_neg (by omega), if_neg (by omega), if_neg (by omega)]
   rw [ht, if_pos rfl]
   exact ⟨rfl, hss.trans h, hst⟩
  ·split
   ·exact fun _ => hss.trans h
   ·split
    ·intro e; cases e
    ·intro _
     show staysI (outD _ _ _) = false
     unfold outD
     split
     ·rfl
     ·split
      ·rfl
      ·exact hss.trans h
theorem kept_vls : ∀ (l : List In) (d : Dk), keptL (vlsL d l) = keptL l
 | [], d => rfl
 | i :: l, d => by
  obtain ⟨h1, h2⟩ := ins_stays d i
  have ih := kept_vls l (insD d i).2
  unfold keptL at ih ⊢
  unfold vlsL
  cases hs : staysI i
  ·have h2 := h2 hs
   rw [List.filter_cons_of_neg (by rw [hs]; decide)]
   split
   ·rename_i hn
    rw [List.filter_cons_of_neg (by rw [h2 hn]; decide)]
    exact ih
   ·exact ih
  ·obtain ⟨a, b, c⟩ := h1 hs
   rw [if_pos a, List.filter_cons_of_pos b, List.filter_cons_of_pos hs, List.map_cons, List.map_cons, c, ih]
/-- a block's end: as it was, or one of both -/
theorem vls_fin (b : Bk) : ((vlsB b).fin = b.fin ∧ (vlsB b).to = b.to ∧ (vlsB b).els = b.els) ∨ (b.fin = 2 ∧ (vlsB b).fin = 1 ∧ ((vlsB b).to = b.to ∨ (vlsB b).to = b.els)) := by
 rcases vlsB_end b with ⟨-, h1, -, h2, h3⟩ | ⟨-, h1, -, h2, h3⟩ | ⟨-, h1, n, -, h2, -, h3, -⟩
 ·exact .inl ⟨h1, h2, h3⟩
 ·exact .inl ⟨h1, h2, h3⟩
 ·refine .inr ⟨h1, h2, ?_⟩
  rw [h3]
  split
  ·exact .inr rfl
  ·exact .inl rfl
end Go.Proofs.Ytkhfddodmjnecaa
