/-
 The contract of (*irrun.runner).call, by induction on the fuel.
-/
import Derived.Test.YtkhfddodmjnecaaZAliasMeets26
import Derived.Test.YtkhfddodmjnecaaZAliasMeets29
import Derived.Laws.CopyOwn
import Derived.Deep.OwnRows
import Derived.Test.YtkhfddodmjnecaaZAliasMeets15
set_option linter.all false
namespace Go.Proofs.Ytkhfddodmjnecaa
open Go.ChangeShapes Go.WideShapes Go.ChangeAt Go.RowKit
set_option maxHeartbeats 8000000
set_option linter.unusedVariables false
set_option maxRecDepth 100000

theorem RdW.cells {w : World} {a : Option Addr} {n c : Nat} {l : List Int} (h : RdW w (.slice a n c) l) : n = l.length ∧ (0 < l.length → ∃ ad, a = some ad ∧ ∀ j v, (l.map (Value.int .u32))[j]? = some v → w.cell? (ad.add j) = some v) := by
 obtain ⟨a', c', e, h1, h2, hc⟩ := h
 simp only [Value.slice.injEq] at e
 obtain ⟨rfl, rfl, rfl⟩ := e
 refine ⟨rfl, fun h0 => ?_⟩
 obtain ⟨b, o, rfl, -⟩ := hc 0 h0
 refine ⟨_, rfl, fun j v hj => ?_⟩
 have hl : j < l.length := by
  have := (List.getElem?_eq_some_iff.1 hj).1; simpa using this
 obtain ⟨b2, o2, e2, hq⟩ := hc j hl
 simp only [Option.some.injEq, Addr.mk.injEq, and_true] at e2
 obtain ⟨rfl, rfl⟩ := e2
 have e3 : ({ block := b, off := o } : Addr).add j = ⟨b, o + j, none⟩ := by by_cases hj0 : j = 0 <;> simp [Addr.add, hj0]
 rw [e3]
 rw [List.getElem?_map] at hj
 simp only [Nat.mul_one, Nat.add_zero] at hq
 rw [hq]
 simp [List.getD, hl] at hj ⊢
 exact hj
/-- a call on its way: at instruction j of block bb -/
structure CS (k : RK) (p : Pr) (n bf bg R : Nat) (nm : ByteArray) (vob vbl vat : Value) (low : Int) (dp : Int) (s : RS) (args : List Int) (top : Int) (w2 : World) (vo : Value) (wr : World) (vo' : Value) (s' : RS) (regs' : List Int) (bb j : Nat) : Prop where
 rn : Rn k wr vo' s'
 fw : Fw k p bf bg R nm vob vbl vat low wr vo' regs'
 gd : Gd s'
 kq : Kq k bg vo vo' w2 wr
 dpe : s'.deep = dp + 1
 len : regs'.length = R
 fuel : s'.fuel ≤ s.fuel
 run : ∀ K : List Fr, (K.length : Int) = dp → runM k.m k.inp s.fuel.toNat (enterM k.m K n args top s.oc) = runM k.m k.inp s'.fuel.toNat ⟨⟨n, regs', low, bb, j⟩ :: K, false, s'.oc⟩
section
variable {k : RK} {p : Pr} {n bf bg R : Nat} {nm : ByteArray} {vob vbl vat : Value} {low dp : Int} {s : RS} {args : List Int} {top : Int} {w2 : World} {vo : Value} {wr wr' : World} {vo' vo2 : Value} {s' s2 : RS} {regs' regs2 : List Int} {bb j : Nat}
theorem CS.grow (C : CS k p n bf bg R nm vob vbl vat low dp s args top w2 vo wr vo' s' regs' bb j) (hb : Below wr.heap.size wr wr') : CS k p n bf bg R nm vob vbl vat low dp s args top w2 vo wr' vo' s' regs' bb j :=
 ⟨C.rn.grow hb, C.fw.grow hb, C.gd, C.kq.trans (Kq.of_below hb), C.dpe, C.len, C.fuel, C.run⟩
/-- no fuel is left -/
theorem CS.none (C : CS k p n bf bg R nm vob vbl vat low dp s args top w2 vo wr vo' s' regs' bb j) (h0 : s'.fuel = 0) (K : List Fr) (hK : (K.length : Int) = dp) : runM k.m k.inp s.fuel.toNat (enterM k.m K n args top s.oc) = { s'.oc with e := 16 } := by
 rw [C.run K hK, h0]; rfl
end
theorem end_cases {p : Pr} {b : Bk} (h : endF p b = true) : (b.fin = 1 ∧ 0 ≤ b.to ∧ b.to < (p.blks.length : Int)) ∨ (b.fin = 2 ∧ 0 ≤ b.to ∧ b.to < (p.blks.length : Int) ∧ 0 ≤ b.els ∧ b.els < (p.blks.length : Int) ∧ 0 ≤ b.a ∧ b.a < p.regs) ∨ (b.fin = 3 ∧ (b.a = -1 ∨ 0 ≤ b.a ∧ b.a < p.regs)) := by
 unfold endF at h
 by_cases h1 : b.fin = 1
 ·rw [if_pos h1] at h
  simp only [blockF, Bool.and_eq_true, decide_eq_true_eq] at h
  exact .inl ⟨h1, h.1.1, h.1.2⟩
 ·rw [if_neg h1] at h
  by_cases h2 : b.fin = 2
  ·rw [if_pos h2] at h
   simp only [blockF, Bool.and_eq_true, decide_eq_true_eq] at h
   have := regF_yes h.2.2
   exact .inr (.inl ⟨h2, h.1.1, h.1.2, h.2.1.1, h.2.1.2, this.1, this.2⟩)
  ·rw [if_neg h2] at h
   by_cases h3 : b.fin = 3
   ·rw [if_pos h3] at h
    simp only [Bool.and_eq_true] at h
    refine .inr (.inr ⟨h3, ?_⟩)
    cases hv : p.void
    ·rw [hv] at h; exact .inr (regF_yes h.1)
    ·rw [hv] at h; exact .inl (regF_no h.1)
   ·rw [if_neg h3] at h; cases h
end Go.Proofs.Ytkhfddodmjnecaa
