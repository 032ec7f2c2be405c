/-
 What few modules are like: plain.; Is a module right, and not too large: the walk of the statements' Right.; Alias, plain: the program's rows and the document's lists say the same; bounds of a right procedure.
-/
import Derived.Test.YtkhfddodmjnecaaZAliasMeets11
import Derived.Test.YtkhfddodmjnecaaZAliasMeets12
import Derived.Test.YtkhfddodmjnecaaZAliasMeets33
import Derived.Test.YtkhfddodmjnecaaZAliasMeets15
import Derived.Test.YtkhfddodmjnecaaZAliasMeets26
import Derived.Test.YtkhfddodmjnecaaZAliasMeets49

set_option linter.all false
namespace Go.Proofs.Ytkhfddodmjnecaa
set_option linter.unusedVariables false

theorem fewM_sz {m : Md} (h : fewM m = true) : SzM m := by
 unfold fewM at h
 simp only [Bool.and_eq_true, List.all_eq_true] at h
 refine ⟨fun p hp => ?_⟩
 have h2 := h.2.2.2 p hp
 unfold prF at h2
 simp only [Bool.and_eq_true, decide_eq_true_eq, List.all_eq_true] at h2
 refine ⟨by omega, fun b hb => ?_⟩
 have h3 := h2.2.2 b hb
 unfold blkF at h3
 simp only [Bool.and_eq_true, decide_eq_true_eq] at h3
 omega
theorem fewM_pr {m : Md} (h : fewM m = true) {p : Pr} (hp : p ∈ m.procs) : p.blks.length ≤ 40 ∧ p.objs.length ≤ 20 ∧ ∀ b ∈ p.blks, b.ins.length ≤ 60 ∧ ∀ i ∈ b.ins, insF i = true := by
 unfold fewM at h
 simp only [Bool.and_eq_true, List.all_eq_true] at h
 have h2 := h.2.2.2 p hp
 unfold prF at h2
 simp only [Bool.and_eq_true, decide_eq_true_eq, List.all_eq_true] at h2
 refine ⟨h2.1, h2.2.1, fun b hb => ?_⟩
 have h3 := h2.2.2 b hb
 unfold blkF at h3
 simp only [Bool.and_eq_true, decide_eq_true_eq, List.all_eq_true] at h3
 exact h3
end Go.Proofs.Ytkhfddodmjnecaa

set_option linter.all false
namespace Go.Proofs.Ytkhfddodmjnecaa
open Go.ChangeShapes Go.WideShapes Go.ChangeAt Go.RowKit
set_option maxHeartbeats 4000000
set_option linter.unusedVariables false
set_option maxRecDepth 100000

def rightB (m : Md) (n : Int) : Bool := fewM m && (decide (0 ≤ n) && (decide (n < (m.procs.length : Int)) && (decide ((m.procs.getD n.toNat default).regs ≤ 40) && okM m)))
theorem rightM_c (m : Md) (v : Value) (n : Int) (w : World) (hv : MdV w v m) :
  Calls Try.prog 12 #[v, .int .i64 n] w fun e w' => e = .returned (.bool (rightB m n)) ∧ Below w.heap.size w w' := by
 have HF : Hid (∀ w', Ext w w' → Calls Try.prog 42 #[v] w' fun e w'' => e = .returned (.bool (fewM m)) ∧ Below w'.heap.size w' w'') := fun w' he => few_c m v w' (hv.ext he)
 have HV := Lib.hid hv
 obtain ⟨vg, vd, vp, rfl, hvg, hvd, hvp⟩ := hv
 have hvp' := hvp
 obtain ⟨ap, cp, rfl, hp1, hp2, -⟩ := hvp'
 unfold maxLen at hp2
 have HPS := Lib.hid (RdPrs.at6 hvp).2
 clear hvg hvd hvp
 obtain ⟨W0, hW0⟩ : ∃ W0, W0 = w.alloc (.cells #[vg, vd, .slice ap m.procs.length cp, .int .i64 m.main] 26) := ⟨_, rfl⟩
 have B0 : Hid (Below w.heap.size w W0) := by rw [hW0]; exact below_alloc w _
 have H0 := Lib.hid (heap_of_alloc w _ _ hW0)
 have HW0 := Lib.hid hW0
 clear hW0
 go_enter Try.func12, Try.ntmps12
 go_wp2_with fail
 rw [← HW0.out]
 refine (HF.out W0 (Ext.below B0.out)).mono ?_
 rintro e w1 ⟨rfl, hb1⟩
 have H0 := Lib.hid ((hb1.block w.heap.size (Array.getElem?_eq_some_iff.1 H0.out).1).trans H0.out)
 have BB := Lib.hid (B0.out.trans (hb1.mono B0.out.size))
 clear hb1 HF HW0 B0
 obtain ⟨y0, y1, y2, y3, l0⟩ := cl4 H0.out
 cases hfw : fewM m
 ·have hR : Hid (rightB m n = false) := by show _ = _; unfold rightB; rw [hfw]; rfl
  clear hfw
  go_wp2_with fail
  go_ret
  exact ⟨ret_b hR.out.symm, BB.out⟩
 ·by_cases h0 : 0 ≤ n
  ·obtain ⟨k, rfl⟩ := Int.eq_ofNat_of_zero_le h0
   have g0 : decide (0 ≤ (k : Int)) = true := decide_eq_true (by omega)
   by_cases h1 : k < m.procs.length
   ·have g1 : decide ((k : Int) < (m.procs.length : Int)) = true := decide_eq_true (by omega)
    have g2 : decide (k < m.procs.length) = true := decide_eq_true h1
    obtain ⟨bp, op, tnm, tvo, tvb, hap, hto, htb, t0, t1, t2, t3, t4, t5⟩ := HPS.out k h1
    subst hap
    have hE : Ext w w1 := Ext.below BB.out
    replace t3 := hE _ _ t3
    have lbp : bp < w1.heap.size := World.block_lt_of_cell? w1 _ t3
    clear hto htb t0 t1 t2 t4 t5 hE
    have HRG : Hid (rightB m (k : Int) = (decide ((m.procs.getD k default).regs ≤ 40) && okM m)) := by
     show _ = _
     unfold rightB
     rw [hfw, g0, g1, Int.toNat_natCast]; rfl
    have HSZ := Lib.hid (fewM_sz hfw)
    clear hfw HPS
    generalize (m.procs.getD k default).regs = rg at *
    by_cases h2 : rg ≤ 40
    ·have g3 : decide (rg ≤ 40) = true := decide_eq_true h2
     go_wp2_with fail
     refine (check_c m _ w1 (HV.out.ext (Ext.below BB.out)) HSZ.out).mono ?_
     rintro e w2 ⟨rfl, hb2⟩
     have BB := Lib.hid (BB.out.trans (hb2.mono BB.out.size))
     clear hb2
     cases hok : okM m
     ·have hR : Hid (rightB m (k : Int) = false) := by show _ = _; rw [HRG.out, g3, hok]; rfl
      have hk : okE m = 3 := by unfold okE; rw [hok]; rfl
      rw [hk]
      clear hok hk
      go_wp2_with fail
      go_ret
      exact ⟨ret_b hR.out.symm, BB.out⟩
     ·have hR : Hid (rightB m (k : Int) = true) := by show _ = _; rw [HRG.out, g3, hok]; rfl
      have hk : okE m = 0 := by unfold okE; rw [hok]; rfl
      rw [hk]
      clear hok hk
      go_wp2_with fail
      go_ret
      exact ⟨ret_b hR.out.symm, BB.out⟩
    ·have g3 : decide (rg ≤ 40) = false := decide_eq_false h2
     have hR : Hid (rightB m (k : Int) = false) := by show _ = _; rw [HRG.out, g3]; rfl
     go_wp2_with fail
     go_ret
     exact ⟨ret_b hR.out.symm, BB.out⟩
   ·have g1 : decide ((k : Int) < (m.procs.length : Int)) = false := decide_eq_false (by omega)
    have g2 : decide (k < m.procs.length) = false := decide_eq_false h1
    have hR : Hid (rightB m (k : Int) = false) := by show _ = _; unfold rightB; rw [hfw, g0, g1]; rfl
    clear hfw
    go_wp2_with fail
    go_ret
    exact ⟨ret_b hR.out.symm, BB.out⟩
  ·have g0 : decide (0 ≤ n) = false := decide_eq_false h0
   have hR : Hid (rightB m n = false) := by show _ = _; unfold rightB; rw [hfw, g0]; rfl
   clear hfw
   go_wp2_with fail
   go_ret
   exact ⟨ret_b hR.out.symm, BB.out⟩
theorem rightB_is {m : Md} {n : Int} (h : rightB m n = true) : fewM m = true ∧ ∃ k : Nat, n = (k : Int) ∧ k < m.procs.length ∧ (m.procs.getD k default).regs ≤ 40 ∧ okM m = true := by
 unfold rightB at h
 simp only [Bool.and_eq_true, decide_eq_true_eq] at h
 obtain ⟨h0, h1, h2, h3, h4⟩ := h
 exact ⟨h0, n.toNat, by omega, by omega, h3, h4⟩
end Go.Proofs.Ytkhfddodmjnecaa

set_option linter.all false
namespace Go.Proofs.Ytkhfddodmjnecaa
set_option linter.unusedVariables false

/-- a procedure of a right module that is not too large -/
structure AlP (m : Md) (p : Pr) : Prop where
 ok : okP m p = true
 pr : PrOk p
 r0 : 0 ≤ p.regs
 r40 : p.regs ≤ 40
 par : p.params ≤ p.regs
 objs : p.objs.length ≤ 20
 globs : m.globs.length ≤ 20
 procs : m.procs.length ≤ 6
 blks : p.blks.length ≤ 40
 ins : ∀ b ∈ p.blks, b.ins.length ≤ 60 ∧ ∀ i ∈ b.ins, i.args.length ≤ 12
theorem alP_of {m : Md} (hf : fewM m = true) (hok : okM m = true) (hm : MdOk m) {k : Nat} (hk : k < m.procs.length) (h40 : (m.procs.getD k default).regs ≤ 40) : AlP m (m.procs.getD k default) := by
 have hmem : m.procs.getD k default ∈ m.procs := by simp [List.getD, hk]
 have hP : okP m (m.procs.getD k default) = true := okM_proc hok hk
 have hH := okP_head hP
 obtain ⟨f1, f2, f3⟩ := fewM_pr hf hmem
 have hf' := hf
 unfold fewM at hf'
 simp only [Bool.and_eq_true, decide_eq_true_eq] at hf'
 refine ⟨hP, hm.procs _ hmem, ?_, h40, hH.pr, f2, hf'.2.1, hf'.1, f1, fun b hb => ⟨(f3 b hb).1, fun i hi => ?_⟩⟩
 ·have := hH.p0; have := hH.pr; omega
 ·have := (f3 b hb).2 i hi
  unfold insF at this
  simp only [Bool.and_eq_true, decide_eq_true_eq] at this
  exact this.2.2
section
variable {m : Md} {p : Pr}
theorem AlP.all (h : AlP m p) : p.blks.all (okB m p) = true := by
 have := h.ok
 unfold okP at this
 simp only [Bool.and_eq_true] at this
 exact this.2
theorem AlP.okI (h : AlP m p) {b : Bk} (hb : b ∈ p.blks) {i : In} (hi : i ∈ b.ins) : okI m p i = true := by
 have h1 := List.all_eq_true.1 h.all b hb
 unfold okB at h1
 rw [Bool.and_eq_true] at h1
 exact List.all_eq_true.1 h1.1 i hi
theorem AlP.cons (h : AlP m p) : ConsOk p (p.objs.length + m.globs.length + 1) := by
 have h := conP_ok (m := m) h.all
 exact ⟨fun c hc => (h c hc).1, fun c hc => (h c hc).2⟩
theorem offF_is {n : Int} (h : offF n = true) : -32768 ≤ n ∧ n ≤ 32768 := by
 unfold offF at h; simpa using h
/-- a load or a store stands where it should -/
theorem okI_acc {i : In} (h : okI m p i = true) (hm : memF i = true) : AccS p.regs.toNat i ∧ AccR p.regs.toNat i := by
 have hop : i.op = 5 ∨ i.op = 6 := by unfold memF at hm; simpa using hm
 obtain ⟨-, -, hn⟩ := okI_parts h
 obtain ⟨-, ha, -, hmo⟩ := hn (by omega)
 have ea : readsA i.op = true := by rcases hop with e | e <;> rw [e] <;> rfl
 rw [ea] at ha
 have h1 := al_reg ha rfl
 unfold moreF at hmo
 rw [if_neg (by omega), if_neg (by omega), if_pos hop] at hmo
 simp only [Bool.and_eq_true, Bool.or_eq_true, beq_iff_eq] at hmo
 have h2 := offF_is hmo.2
 have key : (0 ≤ i.a ∧ i.a < (p.regs.toNat : Int)) ∧ (-100000 ≤ i.off ∧ i.off ≤ 100000) ∧ 1 ≤ i.size ∧ i.size ≤ 4 := by omega
 exact ⟨key, key⟩
theorem spI_off (o : Nat) : ∀ (l : List In) (s : Sp), (∀ i ∈ l, (i.op = 7 ∨ i.op = 8) → -32768 ≤ i.off ∧ i.off ≤ 32768) → (-32768 ≤ s.off ∧ s.off ≤ 32768) → -32768 ≤ (l.foldl (spI o) s).off ∧ (l.foldl (spI o) s).off ≤ 32768
 | [], s, _, h => h
 | i :: l, s, hl, h => by
  refine spI_off o l _ (fun j hj => hl j (List.mem_cons_of_mem _ hj)) ?_
  have h1 := hl i List.mem_cons_self
  unfold spI
  by_cases h7 : i.op = 7
  ·rw [if_pos h7]; exact h1 (.inl h7)
  ·rw [if_neg h7]
   by_cases h8 : i.op = 8
   ·rw [if_pos h8]; exact h1 (.inr h8)
   ·rw [if_neg h8]; exact h
theorem AlP.exF_off (h : AlP m p) (r : Int) : -100000 ≤ (exF p r).off ∧ (exF p r).off ≤ 100000 := by
 unfold exF
 split
 ·split
  ·have := spI_off p.objs.length (defsP p r.toNat) ⟨0, 0, if ((r.toNat : Nat) : Int) < p.params then 1 else 0, false⟩ (fun i hi hop => by
    unfold defsP insP at hi
    rw [List.mem_filter, List.mem_flatMap] at hi
    obtain ⟨⟨b, hb, hib⟩, -⟩ := hi
    obtain ⟨-, -, hn⟩ := okI_parts (h.okI hb hib)
    obtain ⟨-, -, -, hmo⟩ := hn (by omega)
    unfold moreF at hmo
    rcases hop with e | e
    ·rw [if_neg (by omega), if_neg (by omega), if_neg (by omega), if_pos e] at hmo
     simp only [Bool.and_eq_true] at hmo
     exact offF_is hmo.2
    ·rw [if_neg (by omega), if_neg (by omega), if_neg (by omega), if_neg (by omega), if_pos e] at hmo
     simp only [Bool.and_eq_true] at hmo
     exact offF_is hmo.2) ⟨by dsimp only; omega, by dsimp only; omega⟩
   unfold spP
   dsimp only
   omega
  ·exact (by decide : (-100000 : Int) ≤ 0 ∧ (0 : Int) ≤ 100000)
 ·exact (by decide : (-100000 : Int) ≤ 0 ∧ (0 : Int) ≤ 100000)
theorem AlP.exR_eq (h : AlP m p) (r : Int) : exR p r = exF p r := by
 by_cases h0 : 0 ≤ r
 ·exact (ex_same p r h0 h.par).symm
 ·have hp := (okP_head h.ok).p0
  unfold exR exF
  rw [if_pos (.inl (by omega)), if_neg (by omega)]
theorem AlP.exR_off (h : AlP m p) (r : Int) : -100000 ≤ (exR p r).off ∧ (exR p r).off ≤ 100000 := by rw [h.exR_eq]; exact h.exF_off r
theorem AlP.obj8 (h : AlP m p) : ∀ b ∈ p.blks, ∀ i ∈ b.ins, i.op = 8 → 0 ≤ i.obj ∧ i.obj ≤ 1000 := okM_obj8 h.all (by have := h.globs; omega)
/-- the program's rows and the document's lists, both at their end -/
structure AlEnds (p : Pr) (T : Nat) (x : AS) (y : AR) : Prop where
 ex : x.End p T
 ey : y.End p T
 cx : ∀ c ∈ conP p, c.holds x.sem
 cy : ∀ c ∈ conP p, c.holds fun o t => (∀ r, o = some r → r < p.regs.toNat) ∧ y.sem o t
 bd : ∀ o t, x.sem o t → t < T
variable {T : Nat} {x : AS} {y : AR}
theorem AlEnds.of (hx : x.End p T) (hy : y.End p T) (cx : ∀ c ∈ conP p, c.holds x.sem) (cy : ∀ c ∈ conP p, c.holds fun o t => (∀ r, o = some r → r < p.regs.toNat) ∧ y.sem o t) (hc : ConsOk p T) : AlEnds p T x y :=
 ⟨hx, hy, cx, cy, hx.bound hc.thing⟩
theorem AlEnds.get (h : AlEnds p T x y) (o : Option Nat) (ho : ∀ r, o = some r → r < p.regs.toNat) (t : Nat) : (y.get o).getD t false = (x.get o).testBit t := by
 have := ends_same h.ex h.ey h.cx h.cy o ho t
 unfold AS.sem AR.sem at this
 rw [Bool.eq_iff_iff]; exact this.symm
theorem AlEnds.reg (h : AlEnds p T x y) {r : Nat} (hr : r < p.regs.toNat) (t : Nat) : (y.regs.getD r []).getD t false = (x.regs.getD r 0).testBit t := h.get (some r) (fun q e => by cases e; exact hr) t
theorem AlEnds.len (h : AlEnds p T x y) {r : Nat} (hr : r < p.regs.toNat) : (y.regs.getD r []).length = T := h.ey.ok.get (some r) fun q e => by cases e; exact hr
theorem AlEnds.any (h : AlEnds p T x y) {a b : Nat} (ha : a < p.regs.toNat) (hb : b < p.regs.toNat) : ((x.regs.getD a 0 &&& x.regs.getD b 0) != 0) = anyB (y.regs.getD a []) (y.regs.getD b []) T := by
 rw [Bool.eq_iff_iff, bne_iff_ne]
 constructor
 ·intro hne
  obtain ⟨t, ht⟩ := Nat.exists_testBit_of_ne_zero hne
  rw [Nat.testBit_and, Bool.and_eq_true] at ht
  unfold anyB
  rw [List.any_eq_true]
  refine ⟨t, List.mem_range.2 (h.bd (some a) t ht.1), ?_⟩
  rw [h.reg ha, h.reg hb, ht.1, ht.2]; rfl
 ·intro hany h0
  unfold anyB at hany
  rw [List.any_eq_true] at hany
  obtain ⟨t, -, ht⟩ := hany
  rw [h.reg ha, h.reg hb, ← Nat.testBit_and, h0] at ht
  simp at ht
/-- may two accesses meet: both say the same -/
theorem meet_same (h : AlEnds p T x y) (hp : AlP m p) {k : VwK} {sp : List Sp} (hbl : k.bs.length = p.regs.toNat) (hsp : ∀ r, r < p.regs.toNat → sp.getD r default = spP p r) {a b : In} (ha : okI m p a = true) (hb : okI m p b = true) : meetV k x sp a b = meetR y T p a b := by
 unfold meetV meetR
 rw [exV_exF hbl hp.r0 hsp, exV_exF hbl hp.r0 hsp, hp.exR_eq, hp.exR_eq]
 cases m1 : memF a
 ·simp
 ·cases m2 : memF b
  ·simp
  ·obtain ⟨⟨⟨a0, a1⟩, -⟩, -⟩ := okI_acc ha m1
   obtain ⟨⟨⟨b0, b1⟩, -⟩, -⟩ := okI_acc hb m2
   rw [h.any (by omega) (by omega)]
theorem anyB_comm (a b : List Bool) (T : Nat) : anyB a b T = anyB b a T := by
 unfold anyB
 congr 1
 funext i
 exact Bool.and_comm _ _
theorem lapF_comm (x y sa sb : Int) : lapF x y sa sb = lapF y x sb sa := by unfold lapF; exact Bool.and_comm _ _
theorem meetR_comm (y : AR) (T : Nat) (p : Pr) (a b : In) : meetR y T p a b = meetR y T p b a := by
 unfold meetR
 rw [Bool.and_comm (memF a), anyB_comm, Bool.or_comm (!(exR p a.a).is), lapF_comm]
/-- what meets itself may point somewhere -/
theorem meet_self (h : AlEnds p T x y) (hp : AlP m p) {k : VwK} {sp : List Sp} {a : In} (ha : okI m p a = true) (hm : memF a = true) : meetV k x sp a a = decide (0 < (posU (fun t => (x.regs.getD a.a.toNat 0).testBit t) T).length) := by
 obtain ⟨⟨⟨a0, a1⟩, -, s1, -⟩, -⟩ := okI_acc ha hm
 unfold meetV
 rw [hm, Nat.and_self]
 have hl : lapF ((exV k sp a.a).off + a.off) ((exV k sp a.a).off + a.off) a.size a.size = true := by
  unfold lapF
  simp only [Bool.and_eq_true, decide_eq_true_eq]
  omega
 rw [hl, Bool.or_true, Bool.and_true, Bool.and_true, Bool.true_and]
 rw [Bool.eq_iff_iff, bne_iff_ne, decide_eq_true_eq]
 constructor
 ·intro hne
  obtain ⟨t, ht⟩ := Nat.exists_testBit_of_ne_zero hne
  have hT := h.bd (some a.a.toNat) t ht
  have hh := (posU_at (fun t => (x.regs.getD a.a.toNat 0).testBit t) hT ht).1
  omega
 ·intro hlen h0
  have : ∀ T, posU (fun t => (0 : Nat).testBit t) T = [] := fun T => by
   induction T with
   | zero => rfl
   | succ n ih => rw [posU_no (by simp), ih]
  rw [h0, this] at hlen
  simp at hlen
end
end Go.Proofs.Ytkhfddodmjnecaa
