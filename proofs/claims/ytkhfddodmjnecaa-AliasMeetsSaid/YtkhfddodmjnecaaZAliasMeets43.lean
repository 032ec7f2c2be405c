/-
 The document's answer for alias: instructions that add nothing; any instruction.
-/
import Derived.Test.YtkhfddodmjnecaaZAliasMeets42
set_option linter.all false
namespace Go.Proofs.Ytkhfddodmjnecaa
open Go.ChangeShapes Go.WideShapes Go.ChangeAt Go.RowKit
set_option maxHeartbeats 4000000
set_option maxRecDepth 100000
set_option linter.unusedVariables false

theorem ins21_no (w0 w : World) (k : AlK) (x : AR) (o : Int) (V : Value) (op d a b fn obj off size num : Int) (args : List Int) (lg : Bool) (h : AlM w0 w k x) (hv : InV w V ⟨op, d, a, b, fn, obj, off, size, num, args, lg⟩) (g7 : (op == 7) = false) (g8 : (op == 8) = false) (g2 : (op == 2) = false) (g3 : (op == 3) = false) (g5 : (op == 5) = false) (g6 : (op == 6) = false) (g9 : (op == 9) = false) :
  Calls Try.prog 51 #[.pointer (some ⟨k.bx, 0, none⟩), .int .i64 o, V] w (InsQ w0 k x) := by
 obtain ⟨va, rfl, -⟩ := hv
 dsimp only
 have H := Lib.hid h
 clear h
 go_enter Try.func51, Try.ntmps51
 go_wp2_with fail
 go_end0
 exact ⟨rfl, k, H.out.grow (below_alloc w _), rfl, rfl, rfl, rfl⟩
theorem ins21_3n (w0 w : World) (k : AlK) (x : AR) (o : Int) (V : Value) (d a b fn obj off size num : Int) (args : List Int) (lg : Bool) (h : AlM w0 w k x) (hv : InV w V ⟨3, d, a, b, fn, obj, off, size, num, args, lg⟩) (g1 : (fn == 1) = false) (g2 : (fn == 2) = false) :
  Calls Try.prog 51 #[.pointer (some ⟨k.bx, 0, none⟩), .int .i64 o, V] w (InsQ w0 k x) := by
 obtain ⟨va, rfl, -⟩ := hv
 dsimp only
 have H := Lib.hid h
 clear h
 go_enter Try.func51, Try.ntmps51
 go_wp2_with fail
 go_end0
 exact ⟨rfl, k, H.out.grow (below_alloc w _), rfl, rfl, rfl, rfl⟩
theorem ins21_5n (w0 w : World) (k : AlK) (x : AR) (o : Int) (V : Value) (d a b fn obj off size num : Int) (args : List Int) (lg : Bool) (h : AlM w0 w k x) (hv : InV w V ⟨5, d, a, b, fn, obj, off, size, num, args, lg⟩) (g1 : (size == 4) = false) :
  Calls Try.prog 51 #[.pointer (some ⟨k.bx, 0, none⟩), .int .i64 o, V] w (InsQ w0 k x) := by
 obtain ⟨va, rfl, -⟩ := hv
 dsimp only
 have H := Lib.hid h
 clear h
 go_enter Try.func51, Try.ntmps51
 go_wp2_with fail
 go_end0
 exact ⟨rfl, k, H.out.grow (below_alloc w _), rfl, rfl, rfl, rfl⟩
theorem ins21_6n (w0 w : World) (k : AlK) (x : AR) (o : Int) (V : Value) (d a b fn obj off size num : Int) (args : List Int) (lg : Bool) (h : AlM w0 w k x) (hv : InV w V ⟨6, d, a, b, fn, obj, off, size, num, args, lg⟩) (g1 : (size == 4) = false) :
  Calls Try.prog 51 #[.pointer (some ⟨k.bx, 0, none⟩), .int .i64 o, V] w (InsQ w0 k x) := by
 obtain ⟨va, rfl, -⟩ := hv
 dsimp only
 have H := Lib.hid h
 clear h
 go_enter Try.func51, Try.ntmps51
 go_wp2_with fail
 go_end0
 exact ⟨rfl, k, H.out.grow (below_alloc w _), rfl, rfl, rfl, rfl⟩
theorem orL_self (a b : List Bool) : orL (orL a b) (orL a b) = orL (orL a b) a := by
 unfold orL
 refine List.map_congr_left fun i hi => ?_
 have hi : i < a.length := by simpa using hi
 simp [List.getD, hi]
 exact fun q => .inl q
/-- whatever an instruction is: all that it asks, in the document's order -/
theorem ins21_c (w0 w : World) (k : AlK) (x : AR) (m : Md) (p : Pr) (i : In) (V : Value) (h : AlM w0 w k x) (hv : InV w0 V i) (hi : okI m p i = true) (hn : k.n = p.regs.toNat) (ho : p.objs.length ≤ 1000) (hm : m.globs.length ≤ 1000) (hal : i.args.length ≤ 1000) (hT : k.T ≤ 1000) (hT0 : 0 < k.T) :
  Calls Try.prog 51 #[.pointer (some ⟨k.bx, 0, none⟩), .int .i64 (p.objs.length : Int), V] w (InsQ w0 k (x.pass (conR p.objs.length i))) := by
 obtain ⟨-, h9, hq⟩ := okI_parts hi
 have hv2 : InV w V i := hv.ext (Ext.below h.below)
 have nat : ∀ r : Int, 0 ≤ r ∧ r < p.regs → ∃ q : Nat, r = (q : Int) ∧ q < k.n := fun r hr => ⟨r.toNat, by omega, by rw [hn]; omega⟩
 obtain ⟨op, d, a, b, fn, obj, off, size, num, args, lg⟩ := i
 dsimp only at h9 hq hal
 by_cases e7 : op = 7
 ·subst e7
  obtain ⟨hd, -, -, hmo⟩ := hq (by decide)
  obtain ⟨d, rfl, ld⟩ := nat _ (al_reg hd rfl)
  have hmo : (0 ≤ obj ∧ obj < p.objs.length) ∧ offF off = true := by simpa [moreF] using hmo
  have e : x.pass (conR p.objs.length ⟨7, d, a, b, fn, obj, off, size, num, args, lg⟩) = ⟨x.regs.set d (withL (x.regs.getD d []) obj), x.out⟩ := by
   have : ((obj.toNat : Nat) : Int) = obj := by omega
   simp [conR, conI, AR.pass, AR.con, AR.put, AR.get, this]
  rw [e]
  exact ins21_7 w0 w k x _ V d a b fn obj off size num args lg h hv2 ld hT hT0
 by_cases e8 : op = 8
 ·subst e8
  obtain ⟨hd, -, -, hmo⟩ := hq (by decide)
  obtain ⟨d, rfl, ld⟩ := nat _ (al_reg hd rfl)
  have hmo : (0 ≤ obj ∧ obj < m.globs.length) ∧ offF off = true := by simpa [moreF] using hmo
  obtain ⟨ob, rfl⟩ := Int.eq_ofNat_of_zero_le hmo.1.1
  have e : x.pass (conR p.objs.length ⟨8, d, a, b, fn, ob, off, size, num, args, lg⟩) = ⟨x.regs.set d (withL (x.regs.getD d []) ((p.objs.length : Int) + (ob : Int))), x.out⟩ := by
   simp [conR, conI, AR.pass, AR.con, AR.put, AR.get]
  rw [e]
  exact ins21_8 w0 w k x p.objs.length V d ob a b fn off size num args lg h hv2 ld ho (by omega) hT hT0
 by_cases e2 : op = 2
 ·subst e2
  obtain ⟨hd, ha, -, -⟩ := hq (by decide)
  obtain ⟨d, rfl, ld⟩ := nat _ (al_reg hd rfl)
  obtain ⟨a, rfl, la⟩ := nat _ (al_reg ha rfl)
  have e : x.pass (conR p.objs.length ⟨2, d, a, b, fn, obj, off, size, num, args, lg⟩) = ⟨x.regs.set d (orL (x.regs.getD d []) (x.regs.getD a [])), x.out⟩ := by
   simp [conR, conI, AR.pass, AR.con, AR.put, AR.get]
  rw [e]
  exact ins21_2 w0 w k x _ V d a b fn obj off size num args lg h hv2 ld la hT hT0
 by_cases e3 : op = 3
 ·subst e3
  obtain ⟨hd, ha, hb, -⟩ := hq (by decide)
  by_cases ef : fn = 1 ∨ fn = 2
  ·obtain ⟨d, rfl, ld⟩ := nat _ (al_reg hd rfl)
   obtain ⟨a, rfl, la⟩ := nat _ (al_reg ha rfl)
   obtain ⟨b, rfl, lb⟩ := nat _ (al_reg hb rfl)
   have hdl : d < x.regs.length := by rw [h.ok.rows]; exact ld
   have e : x.pass (conR p.objs.length ⟨3, d, a, b, fn, obj, off, size, num, args, lg⟩) = ⟨x.regs.set d (orL (orL (x.regs.getD d []) (x.regs.getD a [])) (x.regs.getD b [])), x.out⟩ := by
    have e0 : conR p.objs.length ⟨3, d, a, b, fn, obj, off, size, num, args, lg⟩ = [.sub (some a) (some d), .sub (some b) (some d)] := by
     simp [conR, conI, ef]
    rw [e0]
    simp only [AR.pass, List.foldl_cons, List.foldl_nil, AR.con, AR.put, AR.get]
    rw [List.set_set]
    have g1 : (x.regs.set d (orL (x.regs.getD d []) (x.regs.getD a []))).getD d [] = orL (x.regs.getD d []) (x.regs.getD a []) := by simp [List.getD, hdl]
    rw [g1]
    by_cases eb : b = d
    ·subst eb
     rw [g1, orL_self]
    ·have g2 : (x.regs.set d (orL (x.regs.getD d []) (x.regs.getD a []))).getD b [] = x.regs.getD b [] := by simp [List.getD, List.getElem?_set, Ne.symm eb]
     rw [g2]
   rw [e]
   rcases ef with rfl | rfl
   ·exact ins21_3_1 w0 w k x _ V d a b obj off size num args lg h hv2 ld la lb hT hT0
   ·exact ins21_3_2 w0 w k x _ V d a b obj off size num args lg h hv2 ld la lb hT hT0
  ·have e : x.pass (conR p.objs.length ⟨3, d, a, b, fn, obj, off, size, num, args, lg⟩) = x := by
    simp [conR, conI, AR.pass, ef]
   rw [e]
   exact ins21_3n w0 w k x _ V d a b fn obj off size num args lg h hv2 (by simp; omega) (by simp; omega)
 by_cases e5 : op = 5
 ·subst e5
  obtain ⟨hd, -, -, -⟩ := hq (by decide)
  by_cases es : size = 4
  ·subst es
   obtain ⟨d, rfl, ld⟩ := nat _ (al_reg hd rfl)
   have e : x.pass (conR p.objs.length ⟨5, d, a, b, fn, obj, off, 4, num, args, lg⟩) = ⟨x.regs.set d (orL (x.regs.getD d []) x.out), x.out⟩ := by
    simp [conR, conI, AR.pass, AR.con, AR.put, AR.get]
   rw [e]
   exact ins21_5 w0 w k x _ V d a b fn obj off num args lg h hv2 ld hT hT0
  ·have e : x.pass (conR p.objs.length ⟨5, d, a, b, fn, obj, off, size, num, args, lg⟩) = x := by
    simp [conR, conI, AR.pass, es]
   rw [e]
   exact ins21_5n w0 w k x _ V d a b fn obj off size num args lg h hv2 (by simp; omega)
 by_cases e6 : op = 6
 ·subst e6
  obtain ⟨-, -, hb, -⟩ := hq (by decide)
  by_cases es : size = 4
  ·subst es
   obtain ⟨b, rfl, lb⟩ := nat _ (al_reg hb rfl)
   have e : x.pass (conR p.objs.length ⟨6, d, a, b, fn, obj, off, 4, num, args, lg⟩) = ⟨x.regs, orL x.out (x.regs.getD b [])⟩ := by
    simp [conR, conI, AR.pass, AR.con, AR.put, AR.get]
   rw [e]
   exact ins21_6 w0 w k x _ V b d a fn obj off num args lg h hv2 lb hT hT0
  ·have e : x.pass (conR p.objs.length ⟨6, d, a, b, fn, obj, off, size, num, args, lg⟩) = x := by
    simp [conR, conI, AR.pass, es]
   rw [e]
   exact ins21_6n w0 w k x _ V d a b fn obj off size num args lg h hv2 (by simp; omega)
 by_cases e9 : op = 9
 ·subst e9
  have h9 := h9 rfl
  unfold callF at h9
  simp only [Bool.and_eq_true, decide_eq_true_eq, List.all_eq_true] at h9
  obtain ⟨-, -, -, hd, ha⟩ := h9
  have hargs : ∀ j, j < args.length → ∃ r : Nat, args.getD j 0 = (r : Int) ∧ r < k.n := fun j hj => nat _ (al_reg (ha _ (by simp only [List.getD, List.getElem?_eq_getElem hj, Option.getD_some]; exact List.getElem_mem _)) rfl)
  by_cases ed : d = -1
  ·subst ed
   have e : x.pass (conR p.objs.length ⟨9, -1, a, b, fn, obj, off, size, num, args, lg⟩) = x.pass (argC args) := by
    simp [conR, argC]
   rw [e]
   exact ins21_9n w0 w k x _ V a b fn obj off size num args lg h hv hargs hal hT hT0
  ·rcases al_none hd with e0 | e0
   ·exact absurd e0 ed
   ·obtain ⟨d, rfl, ld⟩ := nat _ e0
    have e : x.pass (conR p.objs.length ⟨9, d, a, b, fn, obj, off, size, num, args, lg⟩) = AR.pass ⟨x.regs.set d (orL (x.regs.getD d []) x.out), x.out⟩ (argC args) := by
     unfold conR
     rw [if_pos rfl, if_neg ed]
     rfl
    rw [e]
    exact ins21_9d w0 w k x _ V d a b fn obj off size num args lg h hv ld _ rfl hargs hal hT hT0
 have e : x.pass (conR p.objs.length ⟨op, d, a, b, fn, obj, off, size, num, args, lg⟩) = x := by
  simp [conR, conI, AR.pass, e7, e8, e2, e3, e5, e6, e9]
 rw [e]
 exact ins21_no w0 w k x _ V op d a b fn obj off size num args lg h hv2 (by simp; omega) (by simp; omega) (by simp; omega) (by simp; omega) (by simp; omega) (by simp; omega) (by simp; omega)
end Go.Proofs.Ytkhfddodmjnecaa
