/-
 Runs with more fuel: what was put out begins with what was; what ended otherwise is the same.; Contracts of the statements' Begins and Same; sizes of what statements go through.
-/
import Derived.Test.YtedihiodmgnlpaaZIrrunRuns15
import Derived.Test.YtedihiodmgnlpaaZIrrunRuns31

set_option linter.all false
namespace Go.Proofs.Ytedihiodmgnlpaa
set_option linter.unusedVariables false

/-- a later outcome: what was put out stays at the beginning -/
structure Later (a b : Oc) : Prop where
 out : a.out <+: b.out
 ins : a.ins ≤ b.ins
theorem Later.refl (a : Oc) : Later a a := ⟨List.prefix_refl _, Int.le_refl _⟩
theorem Later.trans {a b c : Oc} (h : Later a b) (k : Later b c) : Later a c := ⟨h.out.trans k.out, Int.le_trans h.ins k.ins⟩
/-- a machine on its way -/
structure Way (M : Ms) : Prop where
 e : M.s.e ≠ 16
 exit : M.stk ≠ [] → M.s.exit = 0
def LaterI (s : Oc) (o : Option (List Int × Oc)) : Prop := ∀ r, o = some r → Later s r.2 ∧ r.2.e = s.e ∧ r.2.exit = s.exit
theorem laterI_ite {s : Oc} {q : Prop} [Decidable q] {a b : Option (List Int × Oc)} (h : LaterI s a) (h' : LaterI s b) : LaterI s (if q then a else b) := by split <;> assumption
theorem laterI_none {s : Oc} : LaterI s none := fun _ h => by cases h
theorem laterI_some {s : Oc} {x : List Int} {y : Oc} (h : Later s y ∧ y.e = s.e ∧ y.exit = s.exit) : LaterI s (some (x, y)) := fun _ h2 => by cases h2; exact h
theorem insM_later {m : Md} {inp : List Int} {p : Pr} {low : Int} {i : In} {regs : List Int} {s : Oc} : LaterI s (insM m inp p low i regs s) := by
 unfold insM
 repeat' apply laterI_ite
 all_goals first
  | exact laterI_none
  | (apply laterI_some
     first
     | exact ⟨Later.refl _, rfl, rfl⟩
     | exact ⟨⟨List.prefix_refl _, Int.le_refl _⟩, rfl, rfl⟩
     | exact ⟨⟨List.prefix_append _ _, Int.le_refl _⟩, rfl, rfl⟩
     | exact ⟨⟨List.prefix_refl _, by dsimp only; omega⟩, rfl, rfl⟩)
theorem enterM_way {m : Md} {K : List Fr} {n : Nat} {args : List Int} {top : Int} {s : Oc} (he : s.e ≠ 16) (hx : s.exit = 0) : Later s (enterM m K n args top s).s ∧ Way (enterM m K n args top s) := by
 unfold enterM
 split
 ·exact ⟨⟨List.prefix_refl _, Int.le_refl _⟩, by simp, fun _ => hx⟩
 ·exact ⟨Later.refl _, he, fun _ => hx⟩
theorem backM_way {m : Md} {K : List Fr} {v : Int} {s : Oc} (he : s.e ≠ 16) (hx : s.exit = 0) : Later s (backM m K v s).s ∧ Way (backM m K v s) := by
 cases K with
 | nil => exact ⟨⟨List.prefix_refl _, Int.le_refl _⟩, he, fun h => absurd rfl h⟩
 | cons c K => exact ⟨Later.refl _, he, fun _ => hx⟩
theorem stepM_way {m : Md} {inp : List Int} {M : Ms} (h : Way M) : Later M.s (stepM m inp M).s ∧ Way (stepM m inp M) := by
 obtain ⟨stk, halt, s⟩ := M
 cases stk with
 | nil => exact ⟨Later.refl _, h⟩
 | cons fr K =>
  have he := h.e
  have hx := h.exit (by simp)
  dsimp only at he hx
  unfold stepM
  dsimp only
  split
  ·split
   ·exact backM_way he hx
   ·exact ⟨Later.refl _, he, fun _ => hx⟩
  ·split
   ·exact enterM_way he hx
   ·have := insM_later (m := m) (inp := inp) (p := pk m fr.n) (low := fr.low) (i := (((pk m fr.n).blks.getD fr.b default).ins.getD fr.i default)) (regs := fr.regs) (s := s)
    cases hR : insM m inp (pk m fr.n) fr.low (((pk m fr.n).blks.getD fr.b default).ins.getD fr.i default) fr.regs s with
    | none => exact ⟨⟨List.prefix_refl _, Int.le_refl _⟩, by simp, fun _ => hx⟩
    | some r =>
     obtain ⟨a, b, c⟩ := this r hR
     exact ⟨a, by show r.2.e ≠ 16; rw [b]; exact he, fun _ => by show r.2.exit = 0; rw [c]; exact hx⟩
theorem runM_later {m : Md} {inp : List Int} : ∀ (f : Nat) (M : Ms), Way M → Later M.s (runM m inp f M)
 | 0, M, h => by
  unfold runM; split
  ·exact Later.refl _
  ·exact ⟨List.prefix_refl _, Int.le_refl _⟩
 | f + 1, M, h => by
  unfold runM; split
  ·exact Later.refl _
  ·exact (stepM_way h).1.trans (runM_later f _ (stepM_way h).2)
/-- a run with more fuel -/
theorem runM_more {m : Md} {inp : List Int} : ∀ (f : Nat) (M : Ms), Way M → ∃ N : Ms, Way N ∧ ((N.fin = true ∧ runM m inp f M = N.s ∧ ∀ d, runM m inp (f + d) M = N.s) ∨ (N.fin = false ∧ runM m inp f M = { N.s with e := 16 } ∧ ∀ d, runM m inp (f + d) M = runM m inp d N))
 | 0, M, h => by
  refine ⟨M, h, ?_⟩
  cases hf : M.fin
  ·exact .inr ⟨rfl, by simp [runM, hf], fun d => by rw [Nat.zero_add]⟩
  ·exact .inl ⟨rfl, by simp [runM, hf], fun d => by rw [runM_fin _ _ _ _ hf]⟩
 | f + 1, M, h => by
  cases hf : M.fin
  ·obtain ⟨N, hN, hc⟩ := runM_more f (stepM m inp M) (stepM_way h).2
   have e : ∀ d, runM m inp (f + 1 + d) M = runM m inp (f + d) (stepM m inp M) := fun d => by
    rw [show f + 1 + d = (f + d) + 1 by omega]
    show (if M.fin = true then M.s else _) = _
    rw [if_neg (by rw [hf]; decide)]
   refine ⟨N, hN, ?_⟩
   rcases hc with ⟨h1, h2, h3⟩ | ⟨h1, h2, h3⟩
   ·exact .inl ⟨h1, (e 0).trans h2, fun d => (e d).trans (h3 d)⟩
   ·exact .inr ⟨h1, (e 0).trans h2, fun d => (e d).trans (h3 d)⟩
  ·exact ⟨M, h, .inl ⟨hf, runM_fin _ _ _ _ hf, fun d => runM_fin _ _ _ _ hf⟩⟩
theorem playM_more (m : Md) (inp : List Int) (f d : Nat) : playM m inp (f + d) = playM m inp f ∨ ((playM m inp f).e = 16 ∧ (playM m inp f).exit = 0 ∧ Later (playM m inp f) (playM m inp (f + d))) := by
 unfold playM
 split
 ·exact .inl rfl
 ·split
  ·exact .inl rfl
  ·obtain ⟨N, hN, ⟨h1, h2, h3⟩ | ⟨h1, h2, h3⟩⟩ := runM_more (m := m) (inp := inp) f (enterM m [] m.main.toNat [] 65536 ⟨mem0 m m.globs.length, [], 0, 0, 0⟩) (enterM_way (by dsimp only; decide) rfl).2
   ·exact .inl ((h3 d).trans h2.symm)
   ·refine .inr ?_
    rw [h2, h3 d]
    have hs : N.stk ≠ [] := fun e => by simp [Ms.fin, e] at h1
    have := runM_later (m := m) (inp := inp) d N hN
    exact ⟨rfl, hN.exit hs, ⟨this.out, this.ins⟩⟩
theorem playM_e (m : Md) (inp : List Int) (f : Nat) : (playM m inp f).e ≠ 16 ∨ (playM m inp f).exit = 0 := by
 unfold playM
 split
 ·exact .inl (by dsimp only; omega)
 ·split
  ·exact .inl (by dsimp only; omega)
  ·obtain ⟨N, hN, ⟨h1, h2, h3⟩ | ⟨h1, h2, h3⟩⟩ := runM_more (m := m) (inp := inp) f (enterM m [] m.main.toNat [] 65536 ⟨mem0 m m.globs.length, [], 0, 0, 0⟩) (enterM_way (by dsimp only; decide) rfl).2
   ·exact .inl (by rw [h2]; exact hN.e)
   ·refine .inr ?_
    rw [h2]
    exact hN.exit (fun e => by simp [Ms.fin, e] at h1)
end Go.Proofs.Ytedihiodmgnlpaa

set_option linter.all false
namespace Go.Proofs.Ytedihiodmgnlpaa
open Go.ChangeShapes Go.WideShapes Go.ChangeAt Go.RowKit
set_option maxHeartbeats 8000000
set_option linter.unusedVariables false
set_option maxRecDepth 100000

theorem below_drewNr {B : Nat} {w w1 : World} (h : Below B w w1) (n : Nat) : Below B w (w1.drewN n) := ⟨h.os, h.tape, h.output, h.size, h.block⟩
theorem prefix_at {a b : List Int} (h : a <+: b) (i : Nat) (hi : i < a.length) : a.getD i 0 = b.getD i 0 := by
 obtain ⟨t, rfl⟩ := h
 rw [List.getD, List.getD, List.getElem?_append_left hi]
theorem begins_yes (a b : List Int) (va vb : Value) (w : World) (ha : RdW w va a) (hb : RdW w vb b) (hp : a <+: b) :
  Calls Try.prog 39 #[va, vb] w fun e w' => e = .returned (.bool true) ∧ Below w.heap.size w w' := by
 obtain ⟨aa, ca, rfl, h1, h2, h3⟩ := ha
 obtain ⟨ab, cb, rfl, h1', h2', h3'⟩ := hb
 unfold maxLen at h2 h2'
 have H := Lib.hid h3
 have H' := Lib.hid h3'
 have hl := hp.length_le
 have HP := Lib.hid hp
 have g0 : decide ((b.length : Int) < (a.length : Int)) = false := decide_eq_false (by omega)
 have g1 : decide (b.length < a.length) = false := decide_eq_false (by omega)
 clear h3 h3' hp
 go_enter Try.func39, Try.ntmps39
 go_wp2_with fail
 go_loopw [5] (fun i wr => ∃ k : Nat, k ≤ a.length ∧ i = .int .i64 (k : Int) ∧ Hid (Below w.heap.size w wr)) (fun i _ => a.length - (intOf i).toNat)
 case atStart => exact ⟨0, Nat.zero_le _, rfl, Below.refl _ _⟩
 case round =>
  obtain ⟨k, hk, rfl, hB⟩ := hrel
  by_cases hlt : k < a.length
  ·obtain ⟨ba, oa, rfl, hc⟩ := H.out k hlt
   obtain ⟨bb, ob, rfl, hc'⟩ := H'.out k (by omega)
   simp only [Nat.mul_one, Nat.add_zero] at hc hc'
   replace hc := Ext.below hB.out _ _ hc
   replace hc' := Ext.below hB.out _ _ hc'
   rw [← prefix_at HP.out k hlt] at hc'
   have hlb : k < b.length := by omega
   generalize a.getD k 0 = x at *
   go_wp2_with fail
   go_quiet (fail)
   go_wp2_with fail
   go_roundw
   case rel => exact ⟨k + 1, by omega, by go_num, below_drewNr hB.out _⟩
   case measure => simp [intOf]; omega
  ·go_wp2_with fail
   go_ret
   exact ⟨rfl, hB.out⟩
theorem OutV.rd {B : Nat} {w w' : World} {v : Value} {o : Oc} (h : OutV B w v o) (he : Below w.heap.size w w') : ∃ a c, v = .agg #[.slice a o.out.length c, .int .i64 o.ins, .int .u32 o.exit, .int .i64 o.e] ∧ RdW w' (.slice a o.out.length c) o.out := by
 obtain ⟨vo, rfl, ho⟩ := h
 obtain ⟨a, c, rfl⟩ := row_shape ho
 exact ⟨a, c, rfl, own_rows 0 (own_below ho he)⟩
/-- the same outcome is the same -/
theorem same_yes (o : Oc) (a b : Option Addr) (c d : Nat) (w : World) (ha : RdW w (.slice a o.out.length c) o.out) (hb : RdW w (.slice b o.out.length d) o.out) :
  Calls Try.prog 32 #[.agg #[.slice a o.out.length c, .int .i64 o.ins, .int .u32 o.exit, .int .i64 o.e], .agg #[.slice b o.out.length d, .int .i64 o.ins, .int .u32 o.exit, .int .i64 o.e]] w fun e w' => e = .returned (.bool true) ∧ Below w.heap.size w w' := by
 have HB := Lib.hid (fun w' (he : Ext w w') => begins_yes o.out o.out _ _ w' (ha.ext he) (hb.ext he) (List.prefix_refl _))
 clear ha hb
 generalize o.out.length = n at *
 generalize o.ins = x at *
 generalize o.exit = y at *
 generalize o.e = z at *
 go_enter Try.func32, Try.ntmps32
 go_wp2_with fail
 have hb2 : Below w.heap.size w ((w.alloc (.cells #[.slice a n c, .int .i64 x, .int .u32 y, .int .i64 z] 70)).alloc (.cells #[.slice b n d, .int .i64 x, .int .u32 y, .int .i64 z] 70)) := (below_alloc w _).trans ((below_alloc _ _).mono (by simp))
 refine (HB.out _ (Ext.below hb2)).mono ?_
 rintro e w3 ⟨rfl, hb3⟩
 have h0 : w3.heap[w.heap.size]? = some (.cells #[.slice a n c, .int .i64 x, .int .u32 y, .int .i64 z] 70 (0, 0)) :=
  (hb3.block w.heap.size (by simp; omega)).trans ((allocs_heap [.cells #[.slice a n c, .int .i64 x, .int .u32 y, .int .i64 z] 70, .cells #[.slice b n d, .int .i64 x, .int .u32 y, .int .i64 z] 70] w 0 (by simp)))
 have h1 : w3.heap[w.heap.size + 1]? = some (.cells #[.slice b n d, .int .i64 x, .int .u32 y, .int .i64 z] 70 (0, 0)) :=
  (hb3.block (w.heap.size + 1) (by simp)).trans ((allocs_heap [.cells #[.slice a n c, .int .i64 x, .int .u32 y, .int .i64 z] 70, .cells #[.slice b n d, .int .i64 x, .int .u32 y, .int .i64 z] 70] w 1 (by simp)))
 have a1 := cell_of_heap h0 1
 have a2 := cell_of_heap h0 2
 have a3 := cell_of_heap h0 3
 have b1 := cell_of_heap h1 1
 have b2 := cell_of_heap h1 2
 have b3 := cell_of_heap h1 3
 simp only [List.getElem?_toArray, List.getElem?_cons_zero, List.getElem?_cons_succ] at a1 a2 a3 b1 b2 b3
 have l0 : w.heap.size < w3.heap.size := (Array.getElem?_eq_some_iff.1 h0).1
 have l1 : w.heap.size + 1 < w3.heap.size := (Array.getElem?_eq_some_iff.1 h1).1
 have hbe := Lib.hid (hb2.trans (hb3.mono hb2.size))
 clear h0 h1 hb3 hb2
 go_wp2_with fail
 go_ret
 exact ⟨rfl, hbe.out⟩
theorem few_sz {m : Md} (h : fewM m = true) : SzM m := by
 unfold fewM at h
 simp only [Bool.and_eq_true, List.all_eq_true] at h
 refine ⟨fun p hp => ?_⟩
 have h2 := h.2.2.2 p hp
 unfold prF at h2
 simp only [Bool.and_eq_true, decide_eq_true_eq, List.all_eq_true] at h2
 refine ⟨by omega, fun b hb => ?_⟩
 have h3 := h2.2.2 b hb
 unfold blkF at h3
 simp only [Bool.and_eq_true, decide_eq_true_eq] at h3
 omega
end Go.Proofs.Ytedihiodmgnlpaa
