/-
 alias: spread of any instruction; what holds of a procedure's numbers.
-/
import Derived.Test.YtkhfddodmjnecaaZAliasMeets19
import Derived.Test.YtkhfddodmjnecaaZAliasMeets20
set_option linter.all false
namespace Go.Proofs.Ytkhfddodmjnecaa
open Go.ChangeShapes Go.WideShapes Go.ChangeAt Go.RowKit
set_option maxHeartbeats 1000000
set_option linter.unusedVariables false

theorem conI_no {o : Nat} {i : In} (h7 : i.op ≠ 7) (h8 : i.op ≠ 8) (h2 : i.op ≠ 2) (h3 : i.op ≠ 3) (h5 : i.op ≠ 5) (h6 : i.op ≠ 6) (h9 : i.op ≠ 9) : conI o i = [] := by
 unfold conI; rw [if_neg h7, if_neg h8, if_neg h2, if_neg h3, if_neg h5, if_neg h6, if_neg h9]
theorem spread_c (w0 : World) (k : VwK) (x : AS) (sp : List Sp) (m : Md) (i : In) (va : Value) (w : World) (h : VwM w0 w k x sp) (hpl : k.bs.length = k.p.regs.toNat) (hok : okI m k.p i = true) (hol : k.p.objs.length ≤ 20) (hgl : m.globs.length ≤ 20) (hva : RdI w0 va i.args) (hal : i.args.length ≤ 1000) :
  Calls Try.prog 49 #[.pointer (some ⟨k.bv, 0, none⟩), aggI i va] w (SprP w0 k x sp w (conI k.p.objs.length i)) := by
 obtain ⟨h12, hcall, hregs⟩ := okI_parts hok
 have key : ∀ {r : Int} {b : Bool}, regF k.p r b = true → b = true → 0 ≤ r ∧ r.toNat < k.bs.length := fun hr hb => by
  have := al_reg hr hb
  omega
 by_cases h7 : i.op = 7
 ·obtain ⟨q1, q2, q3, q4⟩ := hregs (by omega)
  have hd := key q1 (by rw [h7]; rfl)
  have ho : 0 ≤ i.obj ∧ i.obj < k.p.objs.length := by
   unfold moreF at q4
   rw [if_neg (by omega), if_neg (by omega), if_neg (by omega), if_pos h7] at q4
   simp only [Bool.and_eq_true, decide_eq_true_eq] at q4
   exact q4.1
  have e : conI k.p.objs.length i = [.put i.obj.toNat i.d.toNat] := by unfold conI; rw [if_pos h7]
  rw [e]
  exact spread_7 w0 k x sp i va w h h7 i.d.toNat i.obj.toNat (by omega) hd.2 (by omega) (by omega) (by omega) (by rw [if_neg (by omega)]; omega)
 by_cases h8 : i.op = 8
 ·obtain ⟨q1, q2, q3, q4⟩ := hregs (by omega)
  have hd := key q1 (by rw [h8]; rfl)
  have ho : 0 ≤ i.obj ∧ i.obj < m.globs.length := by
   unfold moreF at q4
   rw [if_neg (by omega), if_neg (by omega), if_neg (by omega), if_neg (by omega), if_pos h8] at q4
   simp only [Bool.and_eq_true, decide_eq_true_eq] at q4
   exact q4.1
  have e : conI k.p.objs.length i = [.put (k.p.objs.length + i.obj.toNat) i.d.toNat] := by unfold conI; rw [if_neg h7, if_pos h8]
  rw [e]
  exact spread_8 w0 k x sp i va w h h8 i.d.toNat _ (by omega) hd.2 (by omega) (by omega) (by omega) (by rw [if_pos h8]; omega)
 by_cases h2 : i.op = 2
 ·obtain ⟨q1, q2, q3, q4⟩ := hregs (by omega)
  have hd := key q1 (by rw [h2]; rfl)
  have ha := key q2 (by rw [h2]; rfl)
  have e : conI k.p.objs.length i = [.sub (some i.a.toNat) (some i.d.toNat)] := by unfold conI; rw [if_neg h7, if_neg h8, if_pos h2]
  rw [e]
  exact spread_2 w0 k x sp i va w h h2 i.d.toNat i.a.toNat (by omega) hd.2 (by omega) ha.2
 by_cases h3 : i.op = 3
 ·obtain ⟨q1, q2, q3, q4⟩ := hregs (by omega)
  have hd := key q1 (by rw [h3]; rfl)
  have ha := key q2 (by rw [h3]; rfl)
  have hb := key q3 (by rw [h3]; rfl)
  have e : conI k.p.objs.length i = (if i.fn = 1 ∨ i.fn = 2 then [.sub (some i.a.toNat) (some i.d.toNat), .sub (some i.b.toNat) (some i.d.toNat)] else []) := by unfold conI; rw [if_neg h7, if_neg h8, if_neg h2, if_pos h3]
  rw [e]
  by_cases hf : i.fn = 1 ∨ i.fn = 2
  ·rw [if_pos hf]
   refine spread_3 w0 k x sp i va w h h3 ?_ i.d.toNat i.a.toNat i.b.toNat (by omega) hd.2 (by omega) ha.2 (by omega) hb.2
   rcases hf with hf | hf
   ·left; rw [hf]; rfl
   ·right; rw [hf]; exact ⟨rfl, rfl⟩
  ·rw [if_neg hf]
   exact spread_3n w0 k x sp i va w h h3 (by rw [bne_iff_ne]; exact fun e => hf (.inl e)) (by rw [bne_iff_ne]; exact fun e => hf (.inr e))
 by_cases h5 : i.op = 5
 ·obtain ⟨q1, q2, q3, q4⟩ := hregs (by omega)
  have hd := key q1 (by rw [h5]; rfl)
  have e : conI k.p.objs.length i = (if i.size = 4 then [.sub none (some i.d.toNat)] else []) := by unfold conI; rw [if_neg h7, if_neg h8, if_neg h2, if_neg h3, if_pos h5]
  rw [e]
  by_cases hs : i.size = 4
  ·rw [if_pos hs]
   exact spread_5 w0 k x sp i va w h h5 i.d.toNat (by omega) hd.2 (by rw [hs]; rfl)
  ·rw [if_neg hs]
   exact spread_5n w0 k x sp i va w h h5 i.d.toNat (by omega) hd.2 (by rw [beq_eq_false_iff_ne]; exact hs)
 by_cases h6 : i.op = 6
 ·obtain ⟨q1, q2, q3, q4⟩ := hregs (by omega)
  have hb := key q3 (by rw [h6]; rfl)
  have e : conI k.p.objs.length i = (if i.size = 4 then [.sub (some i.b.toNat) none] else []) := by unfold conI; rw [if_neg h7, if_neg h8, if_neg h2, if_neg h3, if_neg h5, if_pos h6]
  rw [e]
  by_cases hs : i.size = 4
  ·rw [if_pos hs]
   exact spread_6 w0 k x sp i va w h h6 i.b.toNat (by omega) hb.2 (by rw [hs]; rfl)
  ·rw [if_neg hs]
   exact spread_6n w0 k x sp i va w h h6 (by rw [beq_eq_false_iff_ne]; exact hs)
 by_cases h9 : i.op = 9
 ·have hc := hcall h9
  unfold callF at hc
  simp only [Bool.and_eq_true, decide_eq_true_eq, List.all_eq_true] at hc
  obtain ⟨-, -, -, c4, c5⟩ := hc
  have e : conI k.p.objs.length i = (i.args.map fun r => .sub (some r.toNat) none) ++ (if i.d = -1 then [] else [.sub none (some i.d.toNat)]) := by unfold conI; rw [if_neg h7, if_neg h8, if_neg h2, if_neg h3, if_neg h5, if_neg h6, if_pos h9]
  rw [e]
  refine spread_9 w0 k x sp i va w h h9 hva hal (fun j hj => key (c5 _ (by simp [List.getD, hj])) rfl) _ ?_
  by_cases hd : i.d = -1
  ·left; rw [if_pos hd]; exact ⟨hd, rfl⟩
  ·right
   have := al_none c4
   exact ⟨i.d.toNat, by omega, by omega, by rw [if_neg hd]⟩
 ·rw [conI_no h7 h8 h2 h3 h5 h6 h9]
  exact spread_0 w0 k x sp i va w h (by rw [beq_eq_false_iff_ne]; exact h7) (by rw [beq_eq_false_iff_ne]; exact h8) (by rw [beq_eq_false_iff_ne]; exact h2) (by rw [beq_eq_false_iff_ne]; exact h3) (by rw [beq_eq_false_iff_ne]; exact h5) (by rw [beq_eq_false_iff_ne]; exact h6) (by rw [beq_eq_false_iff_ne]; exact h9)
end Go.Proofs.Ytkhfddodmjnecaa
