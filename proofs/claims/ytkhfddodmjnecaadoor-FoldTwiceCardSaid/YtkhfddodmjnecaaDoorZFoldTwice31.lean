/-
 A procedure of which no block reckons anything twice is as right as the one it was: plain.
-/
import Derived.Test.YtkhfddodmjnecaaDoorZFoldTwice30
import Derived.Test.YtkhfddodmjnecaaDoorZFoldTwice29
set_option linter.all false
namespace Go.Proofs.YtkhfddodmjnecaaDoor
set_option maxHeartbeats 4000000
set_option linter.unusedVariables false

theorem readL_lenV : ∀ (l : List Int) (d : Dk), (readL d l).1.length = l.length
 | [], d => rfl
 | r :: l, d => by
  show ((readL (readD d r).2 l).1).length + 1 = l.length + 1
  rw [readL_lenV l]
theorem readL_in {R : Int} : ∀ (l : List Int) {d : Dk}, DkB R d → (∀ r ∈ l, 0 ≤ r ∧ r < R) → ∀ r ∈ (readL d l).1, 0 ≤ r ∧ r < R
 | [], d, _, _, r, hr => by cases hr
 | x :: l, d, h, hl, r, hr => by
  have h1 := h.read (.inr (hl x List.mem_cons_self))
  have hx := hl x List.mem_cons_self
  rcases List.mem_cons.1 hr with e | hr
  ·rw [e]
   rcases h1.2 with ⟨e2, -⟩ | ⟨-, e2⟩
   ·omega
   ·exact e2
  ·exact readL_in l h1.1 (fun y hy => hl y (List.mem_cons_of_mem _ hy)) r hr
theorem regF_of {p : Pr} {r : Int} (h : 0 ≤ r ∧ r < p.regs) : regF p r true = true := by unfold regF; simp [h.1, h.2]
theorem regF_none {p : Pr} {r : Int} (h : regF p r false = true) : r = -1 := by unfold regF at h; simpa using h
theorem regF_m (p : Pr) : regF p (-1) false = true := by unfold regF; simp
theorem read_reg {p : Pr} {d : Dk} (h : DkB p.regs d) {r : Int} {b : Bool} (hr : regF p r b = true) : regF p (readD d r).1 b = true ∧ DkB p.regs (readD d r).2 := by
 have h1 := h.read (regF_may hr)
 refine ⟨?_, h1.1⟩
 cases b
 ·have e := regF_none hr
  rcases h1.2 with ⟨-, e2⟩ | ⟨e2, -⟩
  ·rw [e2]; exact regF_m p
  ·exact absurd e e2
 ·have e := regF_in hr
  rcases h1.2 with ⟨e2, -⟩ | ⟨-, e2⟩
  ·omega
  ·exact regF_of e2
theorem reads_okI {m : Md} {p : Pr} {d : Dk} {i : In} (h : DkB p.regs d) (hi : okI m p i = true) : okI m p (readsD d i).1 = true := by
 have hb : bareF (readsD d i).1 = bareF i := by
  have e : (readsD d i).1.args.length = i.args.length := readL_lenV _ _
  unfold bareF
  rw [show plainI (readsD d i).1 = plainI i from rfl, e]
  rfl
 have hi0 := hi
 unfold okI at hi ⊢
 simp only [Bool.and_eq_true] at hi
 obtain ⟨h1, h2⟩ := hi
 rw [show (readsD d i).1.op = i.op from rfl, hb]
 simp only [Bool.and_eq_true]
 refine ⟨h1, ?_⟩
 by_cases h9 : i.op = 9
 ·rw [if_pos h9] at h2 ⊢
  simp only [Bool.and_eq_true] at h2 ⊢
  obtain ⟨hc, ha, hbb⟩ := h2
  have ra := read_reg h ha
  have rb := read_reg ra.2 hbb
  refine ⟨?_, ra.1, rb.1⟩
  have hargs := (okI_call hi0 h9).2.2.2.2
  rw [List.all_eq_true] at hargs
  unfold callF at hc ⊢
  have e : (readsD d i).1.args.length = i.args.length := readL_lenV _ _
  rw [e]
  simp only [Bool.and_eq_true] at hc ⊢
  refine ⟨hc.1, hc.2.1, hc.2.2.1, hc.2.2.2.1, ?_⟩
  rw [List.all_eq_true]
  intro r hr
  exact regF_of (readL_in i.args rb.2 (fun x hx => regF_in (hargs x hx)) r hr)
 ·rw [if_neg h9] at h2 ⊢
  simp only [Bool.and_eq_true] at h2 ⊢
  obtain ⟨⟨hd, ha, hbb⟩, hm⟩ := h2
  have ra := read_reg h ha
  have rb := read_reg ra.2 hbb
  exact ⟨⟨hd, ra.1, rb.1⟩, hm⟩
theorem copyI_ok {m : Md} {p : Pr} {d a : Int} (hd : 0 ≤ d ∧ d < p.regs) (ha : 0 ≤ a ∧ a < p.regs) : okI m p (copyI d a) = true := by
 have h1 := regF_of hd
 have h2 := regF_of ha
 have h3 := regF_m p
 unfold okI
 simp only [Bool.and_eq_true]
 refine ⟨⟨rfl, rfl, ?_⟩, ?_⟩
 ·unfold bareF plainI copyI
  simp
 ·rw [if_neg (show ¬ (copyI d a).op = 9 from (by decide : ¬ (2 : Int) = 9))]
  simp only [Bool.and_eq_true]
  exact ⟨⟨h1, h2, h3⟩, rfl⟩
theorem ins_okI {m : Md} {p : Pr} {d : Dk} {i : In} (h : DkB p.regs d) (hi : okI m p i = true) (hn : 0 ≤ i.num ∧ i.num < 4294967296) : okI m p (insD d i).1.1 = true := by
 have hj := reads_okI h hi
 have hR := h.reads (okI_rd hi hn)
 unfold insD
 split
 ·exact hj
 ·rename_i hdef
  have hd := foldI_def hi hdef
  have hD := (hR.1.turn i.op).put hR.2.1
  generalize putD (turnD (readsD d i).2 i.op) (readsD d i).1 = d3 at *
  have hT := hD.told hR.2.1
  unfold setsD
  split
  ·exact hj
  ·split
   ·exact hj
   ·rename_i h0 h1
    show okI m p (outD _ _ _) = true
    unfold outD
    have hde : defI (readsD d i).1 = defI i := rfl
    rw [hde]
    split
    ·exact constI_ok hd.1 hd.2
    ·split
     ·rename_i hh
      have hv : 1 ≤ (toldD d3 (readsD d i).1).1 := by omega
      rcases hT.1.holder hv with e | e
      ·exact absurd e hh
      ·exact copyI_ok hd (hT.1.of _ _ e).1
     ·exact hj
theorem vls_mem {R : Int} : ∀ (l : List In) {d : Dk}, DkB R d → (∀ i ∈ l, RdOk R i) → ∀ x ∈ vlsL d l, ∃ i ∈ l, ∃ d', DkB R d' ∧ x = (insD d' i).1.1
 | [], d, _, _, x, hx => by cases hx
 | i :: l, d, h, hl, x, hx => by
  have ih := vls_mem l (h.ins (hl i List.mem_cons_self)) (fun j hj => hl j (List.mem_cons_of_mem _ hj))
  unfold vlsL at hx
  split at hx
  ·rcases List.mem_cons.1 hx with e | hx
   ·exact ⟨i, List.mem_cons_self, d, h, e⟩
   ·obtain ⟨j, hj, r⟩ := ih x hx
    exact ⟨j, List.mem_cons_of_mem _ hj, r⟩
  ·obtain ⟨j, hj, r⟩ := ih x hx
   exact ⟨j, List.mem_cons_of_mem _ hj, r⟩
theorem vls_lenV : ∀ (l : List In) (d : Dk), (vlsL d l).length ≤ l.length
 | [], d => Nat.le_refl _
 | x :: l, d => by
  have := vls_lenV l (insD d x).2
  unfold vlsL
  split <;> simp <;> omega
theorem vlsP_mem {p : Pr} {b : Bk} (h : b ∈ (vlsP p).blks) : ∃ c ∈ p.blks, b = vlsB c := by
 unfold vlsP at h
 obtain ⟨c, hc, rfl⟩ := List.mem_map.1 h
 exact ⟨c, hc, rfl⟩
theorem vlsP_insN (p : Pr) : insN (vlsP p) ≤ insN p := by
 unfold insN vlsP
 dsimp only
 induction p.blks with
 | nil => exact Nat.le_refl _
 | cons b l ih =>
  simp only [List.map_cons, List.sum_cons]
  have : (vlsB b).ins.length ≤ b.ins.length := by rw [vlsB_ins]; exact vls_lenV _ _
  omega
theorem vls_end_ok {p : Pr} {b : Bk} (hD : DkB p.regs (dskL Dk0 b.ins)) (h : endF p b = true) : endF p (vlsB b) = true := by
 rcases vlsB_end b with ⟨-, a1, a2, a3, a4⟩ | ⟨ha, a1, a2, a3, a4⟩ | ⟨ha, a0, x, -, a1, a2, a3, a4⟩
 ·unfold endF at h ⊢
  rw [a1, a2, a3, a4]; exact h
 ·unfold endF at h ⊢
  rw [a1, a2, a3, a4]
  split at h
  ·simp only [Bool.and_eq_true, beq_iff_eq] at h
   exact absurd h.2.1 ha
  ·rename_i h1
   rw [if_neg h1]
   split at h
   ·rename_i h2
    rw [if_pos h2]
    simp only [Bool.and_eq_true] at h ⊢
    exact ⟨h.1, h.2.1, (read_reg hD h.2.2).1⟩
   ·rename_i h2
    rw [if_neg h2]
    split at h
    ·rename_i h3
     rw [if_pos h3]
     simp only [Bool.and_eq_true] at h ⊢
     exact ⟨(read_reg hD h.1).1, h.2⟩
    ·cases h
 ·unfold endF at h ⊢
  rw [a0] at h
  rw [a1, a2, a3, a4]
  rw [if_neg (by decide), if_pos rfl] at h
  simp only [Bool.and_eq_true] at h
  rw [if_pos rfl]
  simp only [beq_self_eq_true, Bool.and_self, Bool.and_true]
  split
  ·exact h.2.1
  ·exact h.1
theorem vlsP_okP {m : Md} {p : Pr} (h : okP m p = true) (hp : PrOk p) : okP m (vlsP p) = true := by
 unfold okP okHead at h ⊢
 simp only [Bool.and_eq_true, decide_eq_true_eq, List.all_eq_true] at h ⊢
 obtain ⟨⟨h1, h2, h3, h4, h5, h6, h7, h8, h9⟩, hb⟩ := h
 refine ⟨⟨h1, h2, h3, h4, h5, by rw [vlsP_len]; exact h6, by rw [vlsP_len]; exact h7, h8, Nat.le_trans (vlsP_insN p) h9⟩, fun b hbm => ?_⟩
 obtain ⟨c, hc, rfl⟩ := vlsP_mem hbm
 have hB := hb c hc
 unfold okB at hB ⊢
 simp only [Bool.and_eq_true, List.all_eq_true] at hB ⊢
 have hrd : ∀ i ∈ c.ins, RdOk p.regs i := fun i hi => okI_rd (hB.1 i hi) ((hp.blks c hc).ins i hi).num
 refine ⟨fun i hi => ?_, ?_⟩
 ·rw [vlsB_ins] at hi
  obtain ⟨j, hj, d', hd', rfl⟩ := vls_mem c.ins (DkB.zero _) hrd i hi
  rw [okI_same (q := vlsP p) (p := p) rfl rfl]
  exact ins_okI hd' (hB.1 j hj) ((hp.blks c hc).ins j hj).num
 ·rw [endF_same (q := vlsP p) (p := p) rfl rfl (vlsP_len p)]
  exact vls_end_ok (DkB.dsk c.ins (DkB.zero _) hrd) hB.2
theorem i64_reg {p : Pr} {r : Int} (hp : p.regs ≤ 8000) (h : r = -1 ∨ 0 ≤ r ∧ r < p.regs) : I64 r := ⟨by omega, by omega⟩
theorem ins_in {p : Pr} {d : Dk} {i : In} (hp : p.regs ≤ 8000) (h : DkB p.regs d) (hr : RdOk p.regs i) (hi : InOk i) : InOk (insD d i).1.1 := by
 have hR := h.reads hr
 have hj : InOk (readsD d i).1 := by
  have ha := h.read hr.a
  have hl := DkB.readL i.args (ha.1.read hr.b).1 hr.args
  refine ⟨hi.op, hi.d, i64_reg hp hR.2.1.a, i64_reg hp hR.2.1.b, hi.fn, hi.obj, hi.off, hi.size, hi.num, fun x hx => i64_reg hp (hl.2.1 x hx)⟩
 unfold insD
 split
 ·exact hj
 ·rename_i hdef
  have hD := (hR.1.turn i.op).put hR.2.1
  generalize putD (turnD (readsD d i).2 i.op) (readsD d i).1 = d3 at *
  have hT := hD.told hR.2.1
  have hde : defI (readsD d i).1 = defI i := rfl
  have hdd := i64_reg hp hr.d
  unfold setsD
  split
  ·exact hj
  ·split
   ·exact hj
   ·show InOk (outD _ _ _)
    unfold outD
    rw [hde]
    split
    ·rename_i n hn
     exact ⟨i64_1, hdd, i64_m, i64_m, i64_0, i64_0, i64_0, i64_0, (hT.1.num _ _ hn).2, fun x hx => by cases hx⟩
    ·split
     ·rename_i h0 _ _ hh
      have hv : 1 ≤ (toldD d3 (readsD d i).1).1 := by omega
      rcases hT.1.holder hv with e | e
      ·exact absurd e hh
      ·exact ⟨(⟨by decide, by decide⟩ : I64 2), hdd, i64_reg hp (.inr (hT.1.of _ _ e).1), i64_m, i64_0, i64_0, i64_0, i64_0, ⟨Int.le_refl 0, (by decide : (0 : Int) < 4294967296)⟩, fun x hx => by cases hx⟩
     ·exact hj
theorem ins_args {R : Int} {d : Dk} {i : In} : (insD d i).1.1.args.length ≤ i.args.length := by
 have hj : (readsD d i).1.args.length = i.args.length := readL_lenV _ _
 unfold insD
 split
 ·exact Nat.le_of_eq hj
 ·unfold setsD
  split
  ·exact Nat.le_of_eq hj
  ·split
   ·exact Nat.le_of_eq hj
   ·show (outD _ _ _).args.length ≤ _
    unfold outD
    split
    ·exact Nat.zero_le _
    ·split
     ·exact Nat.zero_le _
     ·exact Nat.le_of_eq hj
/-- what is held of a procedure while it is folded -/
structure FInv (m : Md) (q : Pr) : Prop where
 ok : okP m q = true
 pr : PrOk q
 regs : q.regs ≤ 40
 blks : q.blks.length ≤ 40
 ins : ∀ b ∈ q.blks, b.ins.length ≤ 60
 args : ∀ b ∈ q.blks, ∀ i ∈ b.ins, i.args.length ≤ 1000
theorem FInv.okB {m : Md} {q : Pr} (h : FInv m q) {b : Bk} (hb : b ∈ q.blks) : (∀ i ∈ b.ins, okI m q i = true) ∧ endF q b = true := by
 have hk := h.ok
 unfold okP at hk
 simp only [Bool.and_eq_true, List.all_eq_true] at hk
 have h2 := hk.2 _ hb
 unfold Go.Proofs.YtkhfddodmjnecaaDoor.okB at h2
 simpa using h2
theorem FInv.rd {m : Md} {q : Pr} (h : FInv m q) {b : Bk} (hb : b ∈ q.blks) : ∀ i ∈ b.ins, RdOk q.regs i := fun i hi => okI_rd ((h.okB hb).1 i hi) ((h.pr.blks b hb).ins i hi).num
theorem FInv.known {m : Md} {q : Pr} (h : FInv m q) {X : Nat → Ro} (hX : ∀ n, RoOk (X n)) : FInv m (knwP q X) := by
 refine ⟨knwP_okP h.ok, knwP_ok h.pr hX, h.regs, by rw [knwP_len]; exact h.blks, fun b hb => ?_, fun b hb i hi => ?_⟩
 ·obtain ⟨k, hk, rfl⟩ := knwP_mem hb
  rw [knwB_ins, knwL_len]
  exact h.ins _ (getD_in hk)
 ·obtain ⟨k, hk, rfl⟩ := knwP_mem hb
  rw [knwB_ins] at hi
  obtain ⟨j, hj, rfl⟩ := knwL_mem hi
  have h1 := h.args _ (getD_in (d := default) hk) ((q.blks.getD k default).ins.getD j default) (getD_in hj)
  unfold knwI
  split
  ·split
   ·exact Nat.zero_le _
   ·exact h1
  ·exact h1
theorem FInv.vals {m : Md} {q : Pr} (h : FInv m q) : FInv m (vlsP q) := by
 refine ⟨vlsP_okP h.ok h.pr, ⟨h.pr.params, h.pr.regs, h.pr.objs, fun b hb => ?_⟩, h.regs, by rw [vlsP_len]; exact h.blks, fun b hb => ?_, fun b hb i hi => ?_⟩
 ·obtain ⟨c, hc, rfl⟩ := vlsP_mem hb
  have hB := h.pr.blks c hc
  have hp8 : q.regs ≤ 8000 := by have := h.regs; omega
  have hD := DkB.dsk c.ins (DkB.zero q.regs) (h.rd hc)
  have hins : ∀ i ∈ (vlsB c).ins, InOk i := fun i hi => by
   rw [vlsB_ins] at hi
   obtain ⟨j, hj, d', hd', rfl⟩ := vls_mem c.ins (DkB.zero _) (h.rd hc) i hi
   exact ins_in hp8 hd' (h.rd hc j hj) (hB.ins j hj)
  rcases vlsB_end c with ⟨-, a1, a2, a3, a4⟩ | ⟨ha, a1, a2, a3, a4⟩ | ⟨ha, a0, x, -, a1, a2, a3, a4⟩
  ·exact ⟨hins, by rw [a1]; exact hB.fin, by rw [a2]; exact hB.a, by rw [a3]; exact hB.to, by rw [a4]; exact hB.els⟩
  ·refine ⟨hins, by rw [a1]; exact hB.fin, ?_, by rw [a3]; exact hB.to, by rw [a4]; exact hB.els⟩
   rw [a2]
   have he : c.a = -1 ∨ 0 ≤ c.a ∧ c.a < q.regs := by
    have := (h.okB hc).2
    unfold endF at this
    split at this
    ·simp only [Bool.and_eq_true, beq_iff_eq] at this
     exact .inl this.2.1
    ·split at this
     ·simp only [Bool.and_eq_true] at this
      exact .inr (regF_in this.2.2)
     ·split at this
      ·simp only [Bool.and_eq_true] at this
       exact regF_may this.1
      ·cases this
   rcases (hD.read he).2 with ⟨-, e⟩ | ⟨-, e⟩
   ·exact i64_reg hp8 (.inl e)
   ·exact i64_reg hp8 (.inr e)
  ·refine ⟨hins, by rw [a1]; exact i64_1, by rw [a2]; exact i64_m, ?_, by rw [a4]; exact i64_0⟩
   rw [a3]; split
   ·exact hB.els
   ·exact hB.to
 ·obtain ⟨c, hc, rfl⟩ := vlsP_mem hb
  rw [vlsB_ins]
  exact Nat.le_trans (vls_lenV _ _) (h.ins c hc)
 ·obtain ⟨c, hc, rfl⟩ := vlsP_mem hb
  rw [vlsB_ins] at hi
  obtain ⟨j, hj, d', hd', rfl⟩ := vls_mem c.ins (DkB.zero _) (h.rd hc) i hi
  exact Nat.le_trans (ins_args (R := q.regs)) (h.args c hc j hj)
end Go.Proofs.YtkhfddodmjnecaaDoor
