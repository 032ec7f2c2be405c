/-
 A procedure with small ones in the place of calls is right. Plain.
-/
import Derived.Test.YtchoiankeohonaaGreatDoorZInlineAll41
set_option linter.all false
namespace Go.Proofs.YtchoiankeohonaaGreatDoor
set_option linter.unusedVariables false
set_option maxHeartbeats 2000000

theorem regF_up {p q : Pr} (h : p.regs ≤ q.regs) {r : Int} {b : Bool} (hr : regF p r b = true) : regF q r b = true := by
 unfold regF at *
 cases b
 ·exact hr
 ·simp only [if_true, Bool.and_eq_true, decide_eq_true_eq] at *
  omega
theorem blockF_up {p q : Pr} (h : p.blks.length ≤ q.blks.length) {r : Int} (hr : blockF p r = true) : blockF q r = true := by
 unfold blockF at *
 simp only [Bool.and_eq_true, decide_eq_true_eq] at *
 omega
theorem okI_up {m : Md} {p q : Pr} (h : p.regs ≤ q.regs) (ho : q.objs = p.objs) {i : In} (hi : okI m p i = true) : okI m q i = true := by
 unfold okI at *
 simp only [Bool.and_eq_true] at *
 refine ⟨hi.1, ?_⟩
 have hi := hi.2
 split at hi
 ·rename_i h9
  rw [if_pos h9]
  simp only [Bool.and_eq_true] at *
  refine ⟨?_, regF_up h hi.2.1, regF_up h hi.2.2⟩
  have hc := hi.1
  unfold callF at *
  simp only [Bool.and_eq_true, List.all_eq_true] at *
  exact ⟨hc.1, hc.2.1, hc.2.2.1, regF_up h hc.2.2.2.1, fun r hr => regF_up h (hc.2.2.2.2 r hr)⟩
 ·rename_i h9
  rw [if_neg h9]
  simp only [Bool.and_eq_true] at *
  refine ⟨⟨regF_up h hi.1.1, regF_up h hi.1.2.1, regF_up h hi.1.2.2⟩, ?_⟩
  have hm := hi.2
  unfold moreF at *
  rw [ho]
  exact hm
theorem endF_up {p q : Pr} (h : p.regs ≤ q.regs) (hv : q.void = p.void) (hb : p.blks.length ≤ q.blks.length) {b : Bk} (he : endF p b = true) : endF q b = true := by
 unfold endF at *
 rw [hv]
 split at he
 ·rename_i e
  rw [if_pos e]
  simp only [Bool.and_eq_true] at *
  exact ⟨blockF_up hb he.1, he.2⟩
 ·rename_i e
  rw [if_neg e]
  split at he
  ·rename_i e
   rw [if_pos e]
   simp only [Bool.and_eq_true] at *
   exact ⟨blockF_up hb he.1, blockF_up hb he.2.1, regF_up h he.2.2⟩
  ·rename_i e
   rw [if_neg e]
   split at he
   ·rename_i e
    rw [if_pos e]
    simp only [Bool.and_eq_true] at *
    exact ⟨regF_up h he.1, he.2⟩
   ·cases he
theorem okI_cop {m : Md} {p : Pr} {d a : Int} (h0 : 0 ≤ d) (h1 : d < p.regs) (h2 : 0 ≤ a) (h3 : a < p.regs) : okI m p (copI d a) = true := by
 unfold okI
 rw [if_neg (by show ¬ ((2 : Int) = 9); decide)]
 simp only [Bool.and_eq_true]
 refine ⟨⟨rfl, rfl, ?_⟩, ⟨?_, ?_, ?_⟩, ?_⟩
 ·unfold bareF plainI copI defI
  simp
 ·show regF p d true = true
  unfold regF; simp; omega
 ·show regF p a true = true
  unfold regF; simp; omega
 ·rfl
 ·rfl
theorem okI_zero {m : Md} {p : Pr} {d : Int} (h0 : 0 ≤ d) (h1 : d < p.regs) : okI m p (zroI d) = true := by
 unfold okI
 rw [if_neg (by show ¬ ((1 : Int) = 9); decide)]
 simp only [Bool.and_eq_true]
 refine ⟨⟨rfl, rfl, ?_⟩, ⟨?_, rfl, rfl⟩, rfl⟩
 ·unfold bareF plainI zroI defI
  simp
 ·show regF p d true = true
  unfold regF; simp; omega
theorem shF_reg {p q : Pr} {g r : Int} {b : Bool} (hg : 0 ≤ g) (h : g + q.regs ≤ p.regs) (hr : regF q r b = true) : regF p (shF r g) b = true := by
 unfold shF
 cases b
 ·unfold regF at *
  simp at hr
  rw [hr]
  rfl
 ·have := regF_in hr
  rw [if_neg (by omega)]
  unfold regF; simp; omega
theorem okI_mov {m : Md} {p q : Pr} {g : Int} (hg : 0 ≤ g) (h : g + q.regs ≤ p.regs) (ho : q.objs = []) {i : In} (h9 : i.op ≠ 9) (hi : okI m q i = true) : okI m p (movI g i) = true := by
 obtain ⟨r1, r2, r3, r4⟩ := okI_regs hi h9
 have hops := ops12 hi
 have h7 : i.op ≠ 7 := fun e => by
  unfold moreF at r4
  rw [if_neg (by omega), if_neg (by omega), if_neg (by omega), if_pos e, ho] at r4
  simp only [Bool.and_eq_true, decide_eq_true_eq, List.length_nil] at r4
  omega
 have hb : bareF i = true := by
  unfold okI at hi
  simp only [Bool.and_eq_true] at hi
  exact hi.1.2.2
 unfold okI
 rw [if_neg (show ¬ ((movI g i).op = 9) from h9)]
 simp only [Bool.and_eq_true]
 refine ⟨⟨decide_eq_true hops.1, decide_eq_true hops.2, ?_⟩, ⟨shF_reg hg h r1, shF_reg hg h r2, shF_reg hg h r3⟩, ?_⟩
 ·have hd : (defI (movI g i) ≠ -1) ↔ (defI i ≠ -1) := by
   unfold defI
   show (if i.op = 1 ∨ i.op = 2 ∨ i.op = 3 ∨ i.op = 4 ∨ i.op = 5 ∨ i.op = 7 ∨ i.op = 8 ∨ i.op = 9 ∨ i.op = 11 then shF i.d g else -1) ≠ -1 ↔ _
   split
   ·have := regF_may r1
    unfold shF
    split <;> omega
   ·exact Iff.rfl
  have e : plainI (movI g i) = plainI i := by
   unfold plainI
   have e1 : (if i.op = 6 ∨ defI (movI g i) ≠ -1 then false else i.log) = (if i.op = 6 ∨ defI i ≠ -1 then false else i.log) := by
    by_cases z : i.op = 6 ∨ defI i ≠ -1
    ·rw [if_pos z, if_pos (by rw [hd]; exact z)]
    ·rw [if_neg z, if_neg (by rw [hd]; exact z)]
   show (⟨i.op, -1, -1, -1, _, _, _, _, _, [], (if i.op = 6 ∨ defI (movI g i) ≠ -1 then false else i.log)⟩ : In) = _
   rw [e1]
   rfl
  unfold bareF at *
  rw [e]
  exact hb
 ·unfold moreF at *
  rw [if_neg (show ¬ ((movI g i).op = 7) from h7)]
  rw [if_neg h7] at r4
  exact r4
theorem okB_of {m : Md} {p : Pr} {b : Bk} (h : ∀ i ∈ b.ins, okI m p i = true) (he : endF p b = true) : okB m p b = true := by
 unfold okB
 simp only [Bool.and_eq_true, List.all_eq_true]
 exact ⟨h, he⟩
theorem okB_all {m : Md} {p : Pr} {b : Bk} (h : okB m p b = true) : ∀ i ∈ b.ins, okI m p i = true := by
 unfold okB at h
 simp only [Bool.and_eq_true, List.all_eq_true] at h
 exact h.1
theorem okP_all {m : Md} {p : Pr} (h : okP m p = true) : ∀ b ∈ p.blks, okB m p b = true := by
 unfold okP at h
 simp only [Bool.and_eq_true, List.all_eq_true] at h
 exact h.2
theorem blockF_of {p : Pr} {r : Int} (h0 : 0 ≤ r) (h1 : r < (p.blks.length : Int)) : blockF p r = true := by
 unfold blockF; simp; omega
theorem movB_ok {m : Md} {p q : Pr} {g : Int} {c on : Nat} {d : Int} (hg : 0 ≤ g) (h : g + q.regs ≤ p.regs) (hs : smallP q = true) (hd : regF p d (!q.void) = true) (hc : c + q.blks.length ≤ p.blks.length) (hon : on < p.blks.length) {x : Bk} (hx : x ∈ q.blks) (hq : okP m q = true) : okB m p (movB x g c d on) = true := by
 obtain ⟨so, -, s9⟩ := small_ops hs
 have hb := okP_all hq x hx
 have hi := okB_all hb
 have he := okB_end hb
 have H : ∀ i ∈ x.ins.map (movI g), okI m p i = true := fun i hi' => by
  obtain ⟨j, hj, rfl⟩ := List.mem_map.1 hi'
  exact okI_mov hg h so (s9 x hx j hj) (hi j hj)
 unfold movB
 unfold endF at he
 by_cases h3 : x.fin = 3
 ·rw [if_neg (by omega), if_neg (by omega), if_pos h3] at he
  simp only [Bool.and_eq_true, beq_iff_eq] at he
  rw [if_pos h3]
  refine okB_of (fun i hi' => ?_) ?_
  ·rcases List.mem_append.1 hi' with hi' | hi'
   ·exact H i hi'
   ·split at hi'
    ·rename_i hne
     simp only [List.mem_singleton] at hi'
     subst hi'
     have hv : q.void = false := by
      cases hv : q.void with
      | false => rfl
      | true => rw [hv] at hd; unfold regF at hd; simp at hd; exact absurd hd hne
     rw [hv] at hd he
     have h1 := regF_in hd
     have h2 := regF_in he.1
     exact okI_cop h1.1 h1.2 (by omega) (by omega)
    ·cases hi'
  ·unfold endF
   dsimp only
   rw [if_pos rfl]
   simp only [Bool.and_eq_true, beq_iff_eq]
   exact ⟨blockF_of (by omega) (by omega), by decide, he.2.2⟩
 ·rw [if_neg h3]
  by_cases h2 : x.fin = 2
  ·rw [if_neg (by omega), if_pos h2] at he
   simp only [Bool.and_eq_true] at he
   obtain ⟨e1, e2, e3⟩ := he
   unfold blockF at e1 e2
   simp only [Bool.and_eq_true, decide_eq_true_eq] at e1 e2
   have e3 := regF_in e3
   rw [if_pos h2]
   refine okB_of H ?_
   unfold endF
   dsimp only
   rw [if_neg (by decide), if_pos rfl]
   simp only [Bool.and_eq_true]
   refine ⟨blockF_of (by omega) (by omega), blockF_of (by omega) (by omega), ?_⟩
   unfold regF; simp; omega
  ·rw [if_neg h2]
   by_cases h1 : x.fin = 1
   ·rw [if_pos h1] at he
    simp only [Bool.and_eq_true, beq_iff_eq] at he
    obtain ⟨e1, e2, e3⟩ := he
    unfold blockF at e1
    simp only [Bool.and_eq_true, decide_eq_true_eq] at e1
    refine okB_of H ?_
    unfold endF
    dsimp only
    rw [if_pos h1]
    simp only [Bool.and_eq_true, beq_iff_eq]
    exact ⟨blockF_of (by omega) (by omega), e2, e3⟩
   ·rw [if_neg h1, if_neg h2, if_neg h3] at he
    cases he
theorem i64_of {x : Int} (h0 : -1 ≤ x) (h1 : x ≤ 100000) : I64 x := ⟨by omega, by omega⟩
theorem shF_64 {r g : Int} (h0 : -1 ≤ r) (h1 : r ≤ 8000) (h2 : 0 ≤ g) (h3 : g ≤ 8000) : I64 (shF r g) := by
 unfold shF; split
 ·exact i64_of (by omega) (by omega)
 ·exact i64_of (by omega) (by omega)
theorem cop_64 {d a : Int} (h0 : 0 ≤ d) (h1 : d ≤ 20000) (h2 : 0 ≤ a) (h3 : a ≤ 20000) : InOk (copI d a) :=
 ⟨i64_of (by show -1 ≤ (2 : Int); decide) (by show (2 : Int) ≤ _; decide), i64_of (by show -1 ≤ d; omega) (by show d ≤ _; omega), i64_of (by show -1 ≤ a; omega) (by show a ≤ _; omega), i64_m, i64_0, i64_0, i64_0, i64_0, ⟨Int.le_refl _, by show (0 : Int) < _; decide⟩, fun x hx => by cases hx⟩
theorem zero_64 {d : Int} (h0 : 0 ≤ d) (h1 : d ≤ 20000) : InOk (zroI d) :=
 ⟨i64_1, i64_of (by show -1 ≤ d; omega) (by show d ≤ _; omega), i64_m, i64_m, i64_0, i64_0, i64_0, i64_0, ⟨Int.le_refl _, by show (0 : Int) < _; decide⟩, fun x hx => by cases hx⟩
/-- what is handed over is right -/
theorem hand_ok {m : Md} {p q : Pr} {args : List Int} {g R : Int} (hg : 0 ≤ g) (hRg : R ≤ g) (h : g + q.regs ≤ p.regs) (ha : ∀ x ∈ args, 0 ≤ x ∧ x < R) (hl : (args.length : Int) ≤ q.regs) (h0 : 0 ≤ q.regs) : ∀ i ∈ handL q args g, okI m p i = true := fun i hi => by
 unfold handL argsL at hi
 rcases List.mem_append.1 hi with hi | hi
 ·obtain ⟨k, hk, rfl⟩ := List.mem_map.1 hi
  have hk := List.mem_range.1 hk
  have := ha (args.getD k 0) (getD_in hk)
  exact okI_cop (by omega) (by omega) (by omega) (by omega)
 ·obtain ⟨k, hk, rfl⟩ := List.mem_map.1 hi
  unfold liveR at hk
  rw [List.mem_filter, List.mem_range] at hk
  exact okI_zero (by omega) (by omega)
theorem hand_64 {q : Pr} {args : List Int} {g R : Int} (hg : 0 ≤ g) (hg8 : g ≤ 8000) (hR : R ≤ 8000) (ha : ∀ x ∈ args, 0 ≤ x ∧ x < R) (hl : args.length ≤ 6) (h8 : q.regs ≤ 8000) : ∀ i ∈ handL q args g, InOk i := fun i hi => by
 unfold handL argsL at hi
 rcases List.mem_append.1 hi with hi | hi
 ·obtain ⟨k, hk, rfl⟩ := List.mem_map.1 hi
  have hk := List.mem_range.1 hk
  have := ha (args.getD k 0) (getD_in hk)
  exact cop_64 (by omega) (by omega) (by omega) (by omega)
 ·obtain ⟨k, hk, rfl⟩ := List.mem_map.1 hi
  unfold liveR at hk
  rw [List.mem_filter, List.mem_range] at hk
  exact zero_64 (by omega) (by omega)
theorem may_bd {p : Pr} {r : Int} {b : Bool} (h8 : p.regs ≤ 8000) (h : regF p r b = true) : -1 ≤ r ∧ r ≤ 8000 := by
 rcases regF_may h with h | h <;> omega
theorem mov_64 {m : Md} {q : Pr} {g : Int} (hg : 0 ≤ g) (hg8 : g ≤ 8000) (h8 : q.regs ≤ 8000) {i : In} (h9 : i.op ≠ 9) (hi : okI m q i = true) (hn : InOk i) : InOk (movI g i) := by
 obtain ⟨r1, r2, r3, -⟩ := okI_regs hi h9
 have b1 := may_bd h8 r1
 have b2 := may_bd h8 r2
 have b3 := may_bd h8 r3
 exact ⟨hn.op, shF_64 b1.1 b1.2 hg hg8, shF_64 b2.1 b2.2 hg hg8, shF_64 b3.1 b3.2 hg hg8, hn.fn, hn.obj, hn.off, hn.size, hn.num, hn.args⟩
theorem movB_64 {m : Md} {p q : Pr} {g : Int} {c on : Nat} {d : Int} (hg : 0 ≤ g) (hg8 : g ≤ 8000) (h8 : q.regs ≤ 8000) (hs : smallP q = true) (hp8 : p.regs ≤ 20000) (hd : regF p d (!q.void) = true) (hc : c ≤ 10000) (hon : on ≤ 10000) {x : Bk} (hx : x ∈ q.blks) (hq : okP m q = true) (hn : BkOk x) : BkOk (movB x g c d on) := by
 obtain ⟨so, hsz, s9⟩ := small_ops hs
 have hb := okP_all hq x hx
 have hi := okB_all hb
 have he := okB_end hb
 have H : ∀ i ∈ x.ins.map (movI g), InOk i := fun i hi' => by
  obtain ⟨j, hj, rfl⟩ := List.mem_map.1 hi'
  exact mov_64 hg hg8 h8 (s9 x hx j hj) (hi j hj) (hn.ins j hj)
 unfold movB
 unfold endF at he
 by_cases h3 : x.fin = 3
 ·rw [if_neg (by omega), if_neg (by omega), if_pos h3] at he
  simp only [Bool.and_eq_true, beq_iff_eq] at he
  rw [if_pos h3]
  refine ⟨fun i hi' => ?_, i64_1, i64_m, i64_of (by dsimp only; omega) (by dsimp only; omega), hn.els⟩
  rcases List.mem_append.1 hi' with hi' | hi'
  ·exact H i hi'
  ·split at hi'
   ·rename_i hne
    simp only [List.mem_singleton] at hi'
    subst hi'
    have hv : q.void = false := by
     cases hv : q.void with
     | false => rfl
     | true => rw [hv] at hd; unfold regF at hd; simp at hd; exact absurd hd hne
    rw [hv] at hd he
    have h1 := regF_in hd
    have h2 := regF_in he.1
    exact cop_64 h1.1 (by omega) (by omega) (by omega)
   ·cases hi'
 ·rw [if_neg h3]
  by_cases h2 : x.fin = 2
  ·rw [if_neg (by omega), if_pos h2] at he
   simp only [Bool.and_eq_true] at he
   obtain ⟨e1, e2, e3⟩ := he
   unfold blockF at e1 e2
   simp only [Bool.and_eq_true, decide_eq_true_eq] at e1 e2
   have e3 := regF_in e3
   rw [if_pos h2]
   exact ⟨H, i64_of (by show (-1 : Int) ≤ 2; decide) (by show (2 : Int) ≤ _; decide), i64_of (by dsimp only; omega) (by dsimp only; omega), i64_of (by dsimp only; omega) (by dsimp only; omega), i64_of (by dsimp only; omega) (by dsimp only; omega)⟩
  ·rw [if_neg h2]
   by_cases h1 : x.fin = 1
   ·rw [if_pos h1] at he
    simp only [Bool.and_eq_true, beq_iff_eq] at he
    obtain ⟨e1, e2, e3⟩ := he
    unfold blockF at e1
    simp only [Bool.and_eq_true, decide_eq_true_eq] at e1
    exact ⟨H, hn.fin, hn.a, i64_of (by dsimp only; omega) (by dsimp only; omega), hn.els⟩
   ·rw [if_neg h1, if_neg h2, if_neg h3] at he
    cases he
/-- what a put owes -/
structure PutOk (m : Md) (Q : Pr) (n at' : Nat) : Prop where
 ln : n < Q.blks.length
 k : at' < (bq Q n).ins.length
 c : smallC m ((bq Q n).ins.getD at' default) = true
 no : ((bq Q n).ins.getD at' default).obj.toNat < m.procs.length
 q : okP m (pk m ((bq Q n).ins.getD at' default).obj.toNat) = true
 qo : PrOk (pk m ((bq Q n).ins.getD at' default).obj.toNat)
 par : (((bq Q n).ins.getD at' default).args.length : Int) = (pk m ((bq Q n).ins.getD at' default).obj.toNat).params
 d : regF Q ((bq Q n).ins.getD at' default).d (!(pk m ((bq Q n).ins.getD at' default).obj.toNat).void) = true
 args : ∀ x ∈ ((bq Q n).ins.getD at' default).args, 0 ≤ x ∧ x < Q.regs
theorem put_facts {m : Md} {Q : Pr} (hok : okM m = true) (hmd : MdOk m) (hQ : okP m Q = true) {n at' : Nat} (hn : n < Q.blks.length) (ha : callAt m (bq Q n) = some at') : PutOk m Q n at' := by
 obtain ⟨h1, h2⟩ := callAt_some ha
 have hI : okI m Q ((bq Q n).ins.getD at' default) = true := okB_ins (okP_blk hQ hn) h1
 obtain ⟨h9, hs⟩ := smallC_9 h2
 obtain ⟨c1, c2, c3, c4, c5⟩ := okI_call hI h9
 have hno : ((bq Q n).ins.getD at' default).obj.toNat < m.procs.length := by omega
 exact ⟨hn, h1, h2, hno, okM_proc hok hno, hmd.procs _ (by unfold pk; exact getD_in hno), c3, c4, fun x hx => (okI_args hI h9 hx).1⟩
theorem put_ok {m : Md} {Q : Pr} {n at' : Nat} (h : PutOk m Q n at') (hQ : okP m Q = true) (hs : sizeQ (putP m Q n at') ≤ 2000) (hr : (putP m Q n at').regs ≤ 8000) : okP m (putP m Q n at') = true := by
 obtain ⟨hn, hk, hc, hno, hq, -, hpar, hd, hargs⟩ := h
 have hH := okP_head hQ
 have hHq := okP_head hq
 have hsm := (smallC_9 hc).2
 have hlen : (putP m Q n at').blks.length = _ := putX_len _ _ _ _ _ _
 have hregs : (putP m Q n at').regs = Q.regs + (pk m ((bq Q n).ins.getD at' default).obj.toNat).regs := rfl
 have hvoid : (putP m Q n at').void = Q.void := rfl
 have hobjs : (putP m Q n at').objs = Q.objs := rfl
 have hpars : (putP m Q n at').params = Q.params := rfl
 have hblks : (putP m Q n at').blks = _ ++ (_ ++ [_]) := rfl
 generalize putP m Q n at' = Q' at *
 have hI9 := (smallC_9 hc).1
 generalize (bq Q n).ins.getD at' default = I at *
 generalize pk m I.obj.toNat = q at *
 have hr0 : 0 ≤ q.regs := by have := hHq.p0; have := hHq.pr; omega
 have hQ0 : 0 ≤ Q.regs := by have := hH.p0; have := hH.pr; omega
 have hup : Q.regs ≤ Q'.regs := by omega
 have hbup : Q.blks.length ≤ Q'.blks.length := by omega
 have hBn := okP_blk hQ hn
 have hinsn := okB_all hBn
 have hendn := okB_end hBn
 have hbn : Q.blks.getD n default = bq Q n := rfl
 rw [hbn] at hinsn hendn
 unfold sizeQ at hs
 unfold okP
 simp only [Bool.and_eq_true, List.all_eq_true]
 refine ⟨?_, fun b hb => ?_⟩
 ·unfold okHead
  simp only [Bool.and_eq_true, decide_eq_true_eq]
  refine ⟨by rw [hpars]; exact hH.p0, by rw [hpars]; exact hH.p6, by rw [hpars]; have := hH.pr; omega, hr, by rw [hobjs]; exact hH.ol, by omega, by omega, by rw [hobjs]; exact hH.sl, by omega⟩
 ·rw [hblks] at hb
  rcases List.mem_append.1 hb with hb | hb
  ·rcases List.mem_or_eq_of_mem_set hb with hb | rfl
   ·have h1 := okP_all hQ b hb
    exact okB_of (fun i hi => okI_up hup hobjs (okB_all h1 i hi)) (endF_up hup hvoid hbup (okB_end h1))
   ·refine okB_of (fun i hi => ?_) ?_
    ·rcases List.mem_append.1 hi with hi | hi
     ·exact okI_up hup hobjs (hinsn i (List.mem_of_mem_take hi))
     ·exact hand_ok hQ0 (Int.le_refl _) (by omega) hargs (by rw [hpar]; exact hHq.pr) hr0 i hi
    ·unfold endF
     dsimp only
     rw [if_pos rfl]
     simp only [Bool.and_eq_true, beq_iff_eq]
     exact ⟨blockF_of (by omega) (by omega), by decide, by decide⟩
  ·rcases List.mem_append.1 hb with hb | hb
   ·obtain ⟨x, hx, rfl⟩ := List.mem_map.1 hb
    exact movB_ok (p := Q') (c := Q.blks.length) (on := Q.blks.length + q.blks.length) hQ0 (by omega) hsm (regF_up hup hd) (by omega) (by omega) hx hq
   ·simp only [List.mem_singleton] at hb
    subst hb
    exact okB_of (fun i hi => okI_up hup hobjs (hinsn i (List.mem_of_mem_drop hi))) (endF_up hup hvoid hbup hendn)
theorem put_64 {m : Md} {Q : Pr} {n at' : Nat} (h : PutOk m Q n at') (hQ : okP m Q = true) (ho : PrOk Q) (hb4 : Q.blks.length ≤ 4000) : PrOk (putP m Q n at') := by
 obtain ⟨hn, hk, hc, hno, hq, hqo, hpar, hd, hargs⟩ := h
 have hH := okP_head hQ
 have hHq := okP_head hq
 have hsm := (smallC_9 hc).2
 have hblks : (putP m Q n at').blks = _ ++ (_ ++ [_]) := rfl
 have hregs : (putP m Q n at').regs = Q.regs + (pk m ((bq Q n).ins.getD at' default).obj.toNat).regs := rfl
 have hobjs : (putP m Q n at').objs = Q.objs := rfl
 have hpars : (putP m Q n at').params = Q.params := rfl
 generalize putP m Q n at' = Q' at *
 generalize (bq Q n).ins.getD at' default = I at *
 generalize pk m I.obj.toNat = q at *
 have hr0 : 0 ≤ q.regs := by have := hHq.p0; have := hHq.pr; omega
 have hQ0 : 0 ≤ Q.regs := by have := hH.p0; have := hH.pr; omega
 have h8 := hH.r8
 have h8q := hHq.r8
 have h6 : I.args.length ≤ 6 := by have := hHq.p6; omega
 obtain ⟨-, hsz, -⟩ := small_ops hsm
 have hbn : BkOk (bq Q n) := ho.blks _ (by unfold bq; exact getD_in hn)
 refine ⟨by rw [hpars]; exact ho.params, i64_of (by omega) (by omega), by rw [hobjs]; exact ho.objs, fun b hb => ?_⟩
 rw [hblks] at hb
 rcases List.mem_append.1 hb with hb | hb
 ·rcases List.mem_or_eq_of_mem_set hb with hb | rfl
  ·exact ho.blks b hb
  ·refine ⟨fun i hi => ?_, i64_1, i64_m, i64_of (by dsimp only; omega) (by dsimp only; omega), i64_0⟩
   rcases List.mem_append.1 hi with hi | hi
   ·exact hbn.ins i (List.mem_of_mem_take hi)
   ·exact hand_64 hQ0 h8 h8 hargs h6 h8q i hi
 ·rcases List.mem_append.1 hb with hb | hb
  ·obtain ⟨x, hx, rfl⟩ := List.mem_map.1 hb
   exact movB_64 (p := Q) (c := Q.blks.length) (on := Q.blks.length + q.blks.length) hQ0 h8 h8q hsm (by omega) hd (by omega) (by omega) hx hq (hqo.blks x hx)
  ·simp only [List.mem_singleton] at hb
   subst hb
   exact ⟨fun i hi => hbn.ins i (List.mem_of_mem_drop hi), hbn.fin, hbn.a, hbn.to, hbn.els⟩
/-- what holds of a procedure while calls are replaced -/
structure InlI (m : Md) (P Q : Pr) : Prop where
 mt : MtP m P Q
 ok : okP m Q = true
 pr : PrOk Q
 sz : sizeQ Q ≤ 2500
theorem InlI.put {m : Md} {P Q : Pr} (h : InlI m P Q) (hok : okM m = true) (hmd : MdOk m) {n at' : Nat} (hn : n < Q.blks.length) (ha : callAt m (bq Q n) = some at') (hs : sizeQ (putP m Q n at') ≤ 2000) (hr : (putP m Q n at').regs ≤ 8000) : InlI m P (putP m Q n at') := by
 have hf := put_facts hok hmd h.ok hn ha
 have hHq := okP_head hf.q
 exact ⟨h.mt.put hn ha (by have := hHq.p0; have := hHq.pr; omega), put_ok hf h.ok hs hr, put_64 hf h.ok h.pr (by have := h.sz; unfold sizeQ at this; omega), by omega⟩
theorem InlI.inlR {m : Md} {P : Pr} (hok : okM m = true) (hmd : MdOk m) : ∀ (f k : Nat) (Q : Pr) (full : Bool), InlI m P Q → InlI m P (inlR m f k Q full)
 | 0, _, _, _, h => h
 | f + 1, k, Q, full, h => by
  unfold Go.Proofs.YtchoiankeohonaaGreatDoor.inlR
  by_cases hk : k < Q.blks.length
  ·rw [if_pos hk]
   cases hc : callAt m (bq Q k) with
   | none => exact InlI.inlR hok hmd f (k + 1) Q full h
   | some at' =>
    dsimp only
    by_cases h1 : full = true
    ·rw [if_pos h1]; exact InlI.inlR hok hmd f (k + 1) Q full h
    ·rw [if_neg h1]
     by_cases h2 : 2000 < sizeQ (putP m Q k at') ∨ 8000 < (putP m Q k at').regs
     ·rw [if_pos h2]; exact InlI.inlR hok hmd f (k + 1) Q true h
     ·rw [if_neg h2]
      exact InlI.inlR hok hmd f (k + 1) _ false (h.put hok hmd hk hc (by omega) (by omega))
  ·rw [if_neg hk]; exact h
end Go.Proofs.YtchoiankeohonaaGreatDoor
